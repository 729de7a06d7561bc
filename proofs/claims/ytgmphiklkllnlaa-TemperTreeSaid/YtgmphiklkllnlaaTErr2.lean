/-
  Contracts of temper's Errors and Cost; each states its condition.
-/
import Derived.Test.YtgmphiklkllnlaaTErr
import Derived.Lib.SliceRun
namespace Go.Proofs.Ytgmphiklkllnlaa
open Go.RowKit
theorem bcell {W W1 : World} (hb : Below W.heap.size W W1) : (∀ b o, b < W.heap.size → W1.cell? ⟨b, o, none⟩ = W.cell? ⟨b, o, none⟩) ∧ (∀ b o, b < W.heap.size → W1.frozen? ⟨b, o, none⟩ = W.frozen? ⟨b, o, none⟩) :=
  ⟨fun b o h => hb.cell (p := ⟨b, o, none⟩) h, fun b o h => hb.frozen (p := ⟨b, o, none⟩) h⟩
theorem own_base {W : World} {b b' e s n : Nat} {v : Value} {xs : List Value} (h : W.ownsRow b e s v n xs) (hb : b' ≤ b) : W.ownsRow b' e s v n xs := by
  refine ⟨h.1, ?_⟩
  rcases h.2 with h | ⟨g, c, cur, h1, h2, h3⟩
  · exact .inl h
  · exact .inr ⟨g, c, cur, h1, Nat.le_trans hb h2, h3⟩
theorem infoInt8 : (Try.prog.info? 3).map (fun i => (i.zero, i.size, i.bytes)) = some (some (.int .i64 0), 1, 8) := by kernel_rfl
theorem elemInt : ElemOk Try.prog 22 3 1 8 := ElemOk.of (z := .int .i64 0) Try.underlying22 infoInt8 rfl (by omega)
theorem app_below1 {wc w3 : World} {o : Obj} {b : Nat} (hb : b = wc.heap.size) (hg : (wc.alloc o).grownBy w3 (some b)) : Below wc.heap.size wc w3 :=
  (below_new wc o).grown hg (by simp) (fun k hk => by injection hk with hk; omega)
theorem ring_of {N S low high total pure worst : Int} {fi th : List Int} (h : rgOk ⟨N, S, low, high, total, pure, worst⟩ fi th = true) :
    ∃ r : Rg, r.Ok ∧ N = r.N ∧ S = r.S ∧ low = r.low ∧ high = r.high ∧ total = r.total ∧ pure = r.pure ∧ worst = r.worst ∧ fi = r.fi ∧ th = r.th := by
  unfold rgOk at h
  simp only [Bool.and_eq_true, inB_iff, decide_eq_true_eq, List.all_eq_true] at h
  obtain ⟨⟨⟨⟨⟨⟨⟨⟨⟨a1, a2⟩, a3⟩, a4⟩, a5⟩, a6⟩, a7⟩, a8⟩, a9, a10⟩, a11, a12⟩ := h
  refine ⟨⟨N.toNat, S.toNat, low, high, total, pure, worst, fi, th⟩, ?_, by dsimp only; omega, by dsimp only; omega, rfl, rfl, rfl, rfl, rfl, rfl, rfl⟩
  constructor <;> dsimp only <;> first | assumption | omega
theorem rgOk_of {r : Rg} (hr : r.Ok) : rgOk ⟨r.N, r.S, r.low, r.high, r.total, r.pure, r.worst⟩ r.fi r.th = true := by
  unfold rgOk
  simp only [Bool.and_eq_true, inB_iff, decide_eq_true_eq, List.all_eq_true]
  have := hr.n1; have := hr.n2; have := hr.s1; have := hr.s2; have := hr.s3; have := hr.l1; have := hr.l2; have := hr.h1; have := hr.h2; have := hr.t1; have := hr.t2
  have := hr.p1; have := hr.p2; have := hr.w1; have := hr.w2; have := hr.fl; have := hr.tl
  exact ⟨⟨⟨⟨⟨⟨⟨⟨⟨by omega, by omega⟩, by omega⟩, by omega⟩, by omega⟩, by omega⟩, by omega⟩, by omega⟩, hr.fw, by omega⟩, hr.tw, by omega⟩
theorem check_ok (r : Rg) (hr : r.Ok) (A B : Option Addr) (n c m d : Nat) (w : World) (hF : SlE intE 1 w A n r.fi) (hT : SlE intE 1 w B m r.th) :
    Calls Try.prog 35 #[.agg #[.int .i64 r.N, .int .i64 r.S, .int .i64 r.low, .int .i64 r.high, .int .i64 r.total, .int .i64 r.pure, .int .i64 r.worst, .slice A n c, .slice B m d]] w fun e w' => e = .returned (.int .i64 0) ∧ Below w.heap.size w w' := by
  have h := check_any ⟨r.N, r.S, r.low, r.high, r.total, r.pure, r.worst⟩ A B n c m d r.fi r.th w hF hT (by rw [hF.1, hr.fl]; have := hr.n2; omega) (by rw [hT.1, hr.tl]; have := hr.n2; omega)
  rw [rgOk_of hr] at h
  exact h
theorem check_bad (x : Rn) (A B : Option Addr) (n c m d : Nat) (fi th : List Int) (w : World) (hF : SlE intE 1 w A n fi) (hT : SlE intE 1 w B m th) (hn : n ≤ 9223372036854775807) (hm : m ≤ 9223372036854775807) (h : rgOk x fi th = false) :
    Calls Try.prog 35 #[.agg #[.int .i64 x.N, .int .i64 x.S, .int .i64 x.low, .int .i64 x.high, .int .i64 x.total, .int .i64 x.pure, .int .i64 x.worst, .slice A n c, .slice B m d]] w fun e w' => e = .returned (.int .i64 1) ∧ Below w.heap.size w w' := by
  have h1 := check_any x A B n c m d fi th w hF hT hn hm
  rw [h] at h1
  exact h1
theorem refCheck_ok (r : Rg) (hr : r.Ok) (A B : Option Addr) (n c m d : Nat) (w : World) (hF : SlE intE 1 w A n r.fi) (hT : SlE intE 1 w B m r.th) :
    Calls Try.prog 17 #[.agg #[.int .i64 r.N, .int .i64 r.S, .int .i64 r.low, .int .i64 r.high, .int .i64 r.total, .int .i64 r.pure, .int .i64 r.worst, .slice A n c, .slice B m d]] w fun e w' => e = .returned (.int .i64 0) ∧ Below w.heap.size w w' := by
  have h := refCheck_any ⟨r.N, r.S, r.low, r.high, r.total, r.pure, r.worst⟩ A B n c m d r.fi r.th w hF hT (by rw [hF.1, hr.fl]; have := hr.n2; omega) (by rw [hT.1, hr.tl]; have := hr.n2; omega)
  rw [rgOk_of hr] at h
  exact h
theorem refCheck_bad (x : Rn) (A B : Option Addr) (n c m d : Nat) (fi th : List Int) (w : World) (hF : SlE intE 1 w A n fi) (hT : SlE intE 1 w B m th) (hn : n ≤ 9223372036854775807) (hm : m ≤ 9223372036854775807) (h : rgOk x fi th = false) :
    Calls Try.prog 17 #[.agg #[.int .i64 x.N, .int .i64 x.S, .int .i64 x.low, .int .i64 x.high, .int .i64 x.total, .int .i64 x.pure, .int .i64 x.worst, .slice A n c, .slice B m d]] w fun e w' => e = .returned (.int .i64 1) ∧ Below w.heap.size w w' := by
  have h1 := refCheck_any x A B n c m d fi th w hF hT hn hm
  rw [h] at h1
  exact h1
theorem below_box {w w1 : World} {o : Obj} (hb : Below (w.alloc o).heap.size (w.alloc o) w1) : Below w.heap.size w w1 := (below_new w o).trans (hb.mono (by simp))
set_option maxHeartbeats 1000000 in
theorem errors_bad (x : Rn) (A B D : Option Addr) (n c m d q e : Nat) (fi th : List Int) (w : World) (hF : SlE intE 1 w A n fi) (hT : SlE intE 1 w B m th) (hn : n ≤ 9223372036854775807) (hm : m ≤ 9223372036854775807) (h : rgOk x fi th = false) :
    Calls Try.prog 33 #[.agg #[.int .i64 x.N, .int .i64 x.S, .int .i64 x.low, .int .i64 x.high, .int .i64 x.total, .int .i64 x.pure, .int .i64 x.worst, .slice A n c, .slice B m d], .slice D q e] w fun en w' => en = .returned (.tuple #[.slice none 0 0, .int .i64 1]) ∧ Below w.heap.size w w' := by
  refine calls_cps ?_
  intro R hR
  go_enter Try.func33, Try.ntmps33
  go_wp2_with fail
  (with_reducible refine (check_bad x A B n c m d fi th _ (hF.alloc _) (hT.alloc _) hn hm h).mono ?_)
  rintro en w1 ⟨rfl, hb1⟩
  have Hf := Lib.hid (hR.out _ _ ⟨rfl, below_box hb1⟩)
  clear hR hb1
  go_wp2
  exact Hf.out
set_option maxRecDepth 8000 in
set_option maxHeartbeats 1000000 in
theorem errors_no (r : Rg) (hr : r.Ok) (A B D : Option Addr) (n c m d q e : Nat) (st : List Int) (w : World) (hF : SlE intE 1 w A n r.fi) (hT : SlE intE 1 w B m r.th) (hS : SlE intE 1 w D q st) (hq : q ≤ 1000000) (hf : r.fitsB st = false) :
    Calls Try.prog 33 #[.agg #[.int .i64 r.N, .int .i64 r.S, .int .i64 r.low, .int .i64 r.high, .int .i64 r.total, .int .i64 r.pure, .int .i64 r.worst, .slice A n c, .slice B m d], .slice D q e] w fun en w' => en = .returned (.tuple #[.slice none 0 0, .int .i64 2]) ∧ Below w.heap.size w w' := by
  refine calls_cps ?_
  intro R hR
  have Hbox := Lib.hid (heap_alloc_new w (.cells #[.int .i64 r.N, .int .i64 r.S, .int .i64 r.low, .int .i64 r.high, .int .i64 r.total, .int .i64 r.pure, .int .i64 r.worst, .slice A n c, .slice B m d] 24))
  have Hfits := Lib.hid hf
  clear hf
  go_enter Try.func33, Try.ntmps33
  go_wp2_with fail
  (with_reducible refine (check_ok r hr A B n c m d _ (hF.alloc _) (hT.alloc _)).mono ?_)
  rintro en w1 ⟨rfl, hb1⟩
  obtain ⟨c0, c1, c2, c3, c4, c5, c6, c7, c8, cf⟩ := ring9 (below_cells hb1 (by simp) Hbox.out)
  have hS1 := (hS.alloc (.cells #[.int .i64 r.N, .int .i64 r.S, .int .i64 r.low, .int .i64 r.high, .int .i64 r.total, .int .i64 r.pure, .int .i64 r.worst, .slice A n c, .slice B m d] 24)).below hb1
  have Hb1 := Lib.hid (below_box hb1)
  clear hb1
  go_wp2_with fail
  (with_reducible refine (fits_any r hr A B D n c m d q e st _ hS1 hq).mono ?_)
  rintro en w2 ⟨rfl, hb2⟩
  rw [Hfits.out]
  have Hf := Lib.hid (hR.out _ _ ⟨rfl, Hb1.out.trans (hb2.mono Hb1.out.size)⟩)
  clear hR hb2
  go_wp2
  exact Hf.out
set_option maxRecDepth 8000 in
set_option maxHeartbeats 2000000 in
theorem errors_ok (r : Rg) (hr : r.Ok) (A B D : Option Addr) (n c m d q e : Nat) (st : List Int) (w : World) (hF : SlE intE 1 w A n r.fi) (hT : SlE intE 1 w B m r.th) (hS : SlE intE 1 w D q st) (hf : r.fitsB st = true) :
    Calls Try.prog 33 #[.agg #[.int .i64 r.N, .int .i64 r.S, .int .i64 r.low, .int .i64 r.high, .int .i64 r.total, .int .i64 r.pure, .int .i64 r.worst, .slice A n c, .slice B m d], .slice D q e] w fun en w' => ∃ A' c', en = .returned (.tuple #[.slice A' r.N c', .int .i64 0]) ∧ w'.ownsRow w.heap.size 3 1 (.slice A' r.N c') r.N ((r.errs st).flatMap intE) ∧ Below w.heap.size w w' := by
  refine calls_cps ?_
  intro R hR
  have Hbox := Lib.hid (heap_alloc_new w (.cells #[.int .i64 r.N, .int .i64 r.S, .int .i64 r.low, .int .i64 r.high, .int .i64 r.total, .int .i64 r.pure, .int .i64 r.worst, .slice A n c, .slice B m d] 24))
  have Hfits := Lib.hid hf
  obtain ⟨hg, hlen, hsum⟩ := fitsB_iff.1 hf
  have Hg := Lib.hid hg
  have Hq := Lib.hid (hS.1.trans hlen)
  have hn1 := hr.n1
  have hn2 := hr.n2
  have hq24 : q ≤ 1000000 := by rw [Hq.out]; omega
  clear hf hg hlen hsum
  go_enter Try.func33, Try.ntmps33
  go_wp2_with fail
  (with_reducible refine (check_ok r hr A B n c m d _ (hF.alloc _) (hT.alloc _)).mono ?_)
  rintro en w1 ⟨rfl, hb1⟩
  have hbox1 := below_cells hb1 (by simp) Hbox.out
  obtain ⟨c0, c1, c2, c3, c4, c5, c6, c7, c8, cf⟩ := ring9 hbox1
  have hS1 := (hS.alloc (.cells #[.int .i64 r.N, .int .i64 r.S, .int .i64 r.low, .int .i64 r.high, .int .i64 r.total, .int .i64 r.pure, .int .i64 r.worst, .slice A n c, .slice B m d] 24)).below hb1
  have hz1 := (Array.getElem?_eq_some_iff.1 hbox1).1
  have Hb1 := Lib.hid (below_box hb1)
  clear hb1 hS hF hT
  go_wp2_with fail
  (with_reducible refine (fits_any r hr A B D n c m d q e st _ hS1 hq24).mono ?_)
  rintro en w2 ⟨rfl, hb2⟩
  rw [Hfits.out]
  clear c0 c1 c2 c3 c4 c5 c6 c7 c8 cf
  have Hbox2 := Lib.hid (below_cells hb2 hz1 hbox1)
  have HS2 := Lib.hid (hS1.below hb2)
  have Hb2 := Lib.hid (Hb1.out.trans (hb2.mono Hb1.out.size))
  have hz2 : w.heap.size < w2.heap.size := (Array.getElem?_eq_some_iff.1 Hbox2.out).1
  obtain ⟨c0, c1, c2, c3, c4, c5, c6, c7, c8, cf⟩ := ring9 Hbox2.out
  clear hb2 hbox1 hS1 hz1
  go_wp2_with fail
  go_loopw [7, 20] (fun s7 s20 wr => ∃ (k : Nat) (A' : Option Addr) (c' : Nat), k ≤ r.N ∧ s20 = .int .i64 k ∧ s7 = .slice A' k c' ∧ wr.ownsRow w2.heap.size 3 1 (.slice A' k c') k (((List.range k).map (fun i => r.err st i r.S)).flatMap intE) ∧ Below w2.heap.size w2 wr) (fun _ i _ => r.N - (intOf i).toNat)
  case atStart => exact ⟨0, none, 0, Nat.zero_le _, rfl, rfl, ⟨rfl, .inl ⟨rfl, rfl⟩⟩, Below.refl _ _⟩
  case round =>
    clear c0 c1 c2 c3 c4 c5 c6 c7 c8 cf
    obtain ⟨k, A', c', hk, rfl, rfl, ho, hb⟩ := hrel
    obtain ⟨wo, rfl⟩ : ∃ wo : World, wo = wr := ⟨_, rfl⟩
    by_cases hlt : k < r.N
    · obtain ⟨c0, c1, c2, c3, c4, c5, c6, c7, c8, cf⟩ := ring9 (below_cells hb hz2 Hbox2.out)
      have hSo := HS2.out.below hb
      go_wp2_with fail
      (with_reducible refine (off_any r hr A B D n c m d q e st k _ hSo Hq.out Hg.out hlt).mono ?_)
      rintro en w3 ⟨rfl, hb3⟩
      have ho3 := Lib.hid (ownsRow_below ho hb3)
      have hb23 := Lib.hid (hb.trans (hb3.mono hb.size))
      have hz3 : w2.heap.size ≤ w3.heap.size := hb23.out.size
      clear c0 c1 c2 c3 c4 c5 c6 c7 c8 cf hSo hb3 ho hb
      go_wp2_with (at_builtin; refine wpList_app rfl (.tmp 23) (.tmp 28) _ rfl elemInt w2.heap.size _ _ _ rfl (ho3.out.kept (World.grownBy_alloc w3 _ none) (by cases (Value.slice A' k c').ownBlock <;> simp)) _ _ _ _ rfl (Sl.new _ _ _ 1 1 rfl) (by simp [Value.oneCell']) (by unfold maxLen; omega) (by omega) (by simp; omega) ?_; intro A4 c4 w4 ho4 hg4 _; have HB4 := Lib.hid (below_own (hb23.out.alloc hz3 _) (ho3.out.kept (World.grownBy_alloc w3 _ none) (by cases (Value.slice A' k c').ownBlock <;> simp)) (Nat.le_refl _) (by simp; omega) hg4); have HO4 := Lib.hid ho4; clear ho4 hg4)
      exact ⟨⟨k + 1, A4, c4, by omega, by go_num, rfl, by rw [errs_snoc, List.flatMap_append]; exact HO4.out, HB4.out⟩, by simp [intOf]; omega⟩
    · obtain rfl : k = r.N := by omega
      have Hf := Lib.hid (hR.out (.returned (.tuple #[.slice A' r.N c', .int .i64 0])) wo ⟨A', c', rfl, own_base ho Hb2.out.size, Hb2.out.trans (hb.mono Hb2.out.size)⟩)
      clear ho hb hR
      go_wp2
      exact Hf.out
end Go.Proofs.Ytgmphiklkllnlaa
