/-
  The contract of temper's circle.follow: the lexicographically least steps of the least cost behind a beginning; condition: there are some.
-/
import Derived.Test.YtojbldoekalbnaaGreatTBeg
namespace Go.Proofs.YtojbldoekalbnaaGreat
open Go.RowKit
theorem fol_step {σ : Type} {Y : Lay σ} (hp : Y.Pos) {n t : Nat} {s : σ} (h : 0 ≤ Y.val (n + 1) t s) :
    ∃ s' p, (Y.lo t ≤ (Y.best n t s).2 ∧ (Y.best n t s).2 ≤ Y.hi t) ∧ Y.tr t s (Y.best n t s).2 = some (s', p) ∧ 0 ≤ Y.val n (t + 1) s' ∧ Y.follow (n + 1) t s = (Y.best n t s).2 :: Y.follow n (t + 1) s' := by
  have hpk := pick_ok (Y := Y) hp (val := Y.val n (t + 1)) (t := t) (s := s) (lo := Y.lo t) (Y.cnt t) (Y.lo t) (-1, 0) (Int.le_refl _) (.inl ⟨rfl, fun x s' p h1 h2 _ => by omega⟩)
  have hv : Y.val (n + 1) t s = (Y.best n t s).1 := rfl
  rw [show Y.pick (Y.val n (t + 1)) t s (Y.cnt t) (Y.lo t) (-1, 0) = Y.best n t s from rfl] at hpk
  rcases hpk with ⟨h1, _⟩ | ⟨h1, s', p, h2, h3, h4, h5, h6, h7⟩
  · omega
  · exact ⟨s', p, ⟨h2, by unfold Lay.cnt at h3; omega⟩, h4, h5, by rw [Lay.follow, h4]⟩
/-- What follow keeps. -/
def FolI (r : Rg) (first : List Int) (t n : Nat) (s : Nat × Nat) (out : List Int) : Prop := 0 ≤ (r.lay first).val n t s ∧ out ++ ((r.lay first).follow n t s).take (r.N - t) = r.wayB first
theorem FolI.step {r : Rg} (hr : r.Ok) {first : List Int} {t z cc sm : Nat} {out : List Int} (h : FolI r first t (z + 1) (cc, sm) out) (ht : t < r.N) :
    ∃ a : Int, ((r.lay first).best z t (cc, sm)).2 = a ∧ r.low ≤ a ∧ a ≤ r.high ∧ sm + (a - r.low).toNat < r.sums ∧ FolI r first (t + 1) z ((cc * 4 + (a - r.low).toNat) % r.codes, sm + (a - r.low).toNat) (out ++ [a]) := by
  obtain ⟨h1, h2⟩ := h
  obtain ⟨s', p, k1, k2, k3, k4⟩ := fol_step (lay_pos hr first) h1
  refine ⟨_, rfl, ?_⟩
  obtain ⟨a, ha⟩ : ∃ a, ((r.lay first).best z t (cc, sm)).2 = a := ⟨_, rfl⟩
  rw [ha] at k1 k2 k4 ⊢
  rw [lay_tr] at k2
  simp only [if_pos ht] at k2
  have hl : (r.lay first).lo t = r.low := by simp [Rg.lay, ht]
  have hh : (r.lay first).hi t = r.high := by simp [Rg.lay, ht]
  rw [hl, hh] at k1
  by_cases hc : -r.worst ≤ r.offC cc a (r.S - 1) ∧ r.offC cc a (r.S - 1) ≤ r.worst ∧ sm + (a - r.low).toNat < r.sums
  · rw [if_pos hc] at k2
    simp only [Option.some.injEq, Prod.mk.injEq] at k2
    obtain ⟨rfl, -⟩ := k2
    refine ⟨k1.1, k1.2, hc.2.2, k3, ?_⟩
    rw [k4, show r.N - t = (r.N - (t + 1)) + 1 by omega, List.take_succ_cons] at h2
    rw [List.append_assoc]
    exact h2
  · rw [if_neg hc] at k2; cases k2
theorem sum0_lt {r : Rg} (hr : r.Ok) {first : List Int} (hf : first.length ≤ r.N) (hg : ∀ x ∈ first, r.low ≤ x ∧ x ≤ r.high) : r.sum0 first < r.sums := by
  have h2 := hr.h2
  have key : ∀ (l : List Int) (z : Nat), (∀ x ∈ l, r.low ≤ x ∧ x ≤ r.high) → l.foldl (fun c s => c + (s - r.low).toNat) z ≤ z + 3 * l.length := by
    intro l
    induction l with
    | nil => intro z _; simp
    | cons a l ih =>
      intro z h
      have ha := h a (by simp)
      have := ih (z + (a - r.low).toNat) (fun x hx => h x (by simp [hx]))
      simp only [List.foldl_cons, List.length_cons]
      omega
  have := key first 0 hg
  unfold Rg.sum0 Rg.sums
  omega
theorem code0_lt {r : Rg} (hr : r.Ok) {first : List Int} (hf : first.length + 1 = r.S) (hg : ∀ x ∈ first, r.low ≤ x ∧ x ≤ r.high) : r.code0 first < r.codes := by
  have h2 := hr.h2
  have key : ∀ k, k ≤ first.length → r.code0 (first.take k) < 4 ^ k := by
    intro k
    induction k with
    | zero => intro _; simp [Rg.code0]
    | succ k ih =>
      intro hk
      have hx : first[k]? = some (first[k]'(by omega)) := List.getElem?_eq_getElem (by omega)
      have hb := hg _ (List.getElem_mem (show k < first.length by omega))
      have := ih (by omega)
      rw [code0_take hx, Nat.pow_succ]
      omega
  have := key first.length (Nat.le_refl _)
  rw [List.take_length] at this
  unfold Rg.codes
  rwa [← hf, Nat.add_sub_cancel]
set_option maxRecDepth 8000 in
set_option maxHeartbeats 8000000 in
theorem follow_any (r : Rg) (hr : r.Ok) (A B D : Option Addr) (n c m d q e : Nat) (first : List Int) (hg : ∀ x ∈ first, r.low ≤ x ∧ x ≤ r.high) (b rb : Nat) (gs : Nat → Nat) (w : World)
    (hR : Rst w r first b rb (r.N + r.S) (r.codes * r.sums) gs #[.int .i64 r.N, .int .i64 r.S, .int .i64 r.low, .int .i64 r.high, .int .i64 r.total, .int .i64 r.pure, .int .i64 r.worst, .slice A n c, .slice B m d, .slice D q e, .int .i64 (r.codes : Nat), .int .i64 (r.sums : Nat), .slice (some ⟨rb, 0, none⟩) (r.N + r.S) (r.N + r.S)] (r.S - 1))
    (hF : SlE intE 1 w A n r.fi) (hT : SlE intE 1 w B m r.th) (hS : SlE intE 1 w D q first) (hq : q + 1 = r.S) (hv : 0 ≤ r.valB first) :
    Calls Tryz.prog 50 #[.pointer (some ⟨b, 0, none⟩), .int .i64 (r.code0 first : Nat)] w fun en w' => ∃ A' c', en = .returned (.slice A' r.N c') ∧ w'.ownsRow w.heap.size 3 1 (.slice A' r.N c') r.N ((r.wayB first).flatMap intE) ∧ Below w.heap.size w w' := by
  refine calls_cps ?_
  intro R hR0
  have Hok := Lib.hid hr
  have Hg := Lib.hid hg
  have Hq := Lib.hid hq
  have Hl := Lib.hid hS.1
  have hN := hr.n2
  have h2 := hr.h2
  have r1 := hr.l1
  have r2 := hr.l2
  have s1 := hr.s1
  have s2 := hr.s2
  have s3 := hr.s3
  have hfl : first.length + 1 = r.S := by rw [← hS.1]; exact hq
  have Hc0 := Lib.hid (code0_lt hr hfl hg)
  have Hs0 := Lib.hid (sum0_lt hr (by omega) hg)
  obtain ⟨hc1, hc2⟩ := codes_64 hr
  have hsm : r.sums ≤ 73 := by unfold Rg.sums; omega
  have HI0 := Lib.hid (show FolI r first (r.S - 1) r.N (r.code0 first, r.sum0 first) first from ⟨hv, rfl⟩)
  obtain ⟨bd, od, rfl, -, -⟩ := hS.2.2 (by omega)
  have hbl : b < w.heap.size := (Array.getElem?_eq_some_iff.1 hR.circ).1
  have HR := Lib.hid hR
  have HF := Lib.hid hF
  have HT := Lib.hid hT
  have HS := Lib.hid hS
  obtain ⟨c0, c1, c2, c3, c4, c5, c6, c7, c8, c9, c10, c11, c12, cf⟩ := circ13 hR.circ
  have hq3 : q ≤ 3 := by omega
  have hqS : r.S - 1 = q := by omega
  rw [hqS] at HI0
  have HqS := Lib.hid hqS
  clear hr hg hq hfl hR hF hT hS hv hqS
  obtain ⟨z0, hz0⟩ : ∃ z, r.code0 first = z := ⟨_, rfl⟩
  rw [hz0] at Hc0 HI0 ⊢
  clear hz0
  go_enter Tryz.func50, Tryz.ntmps50
  go_wp2_with fail
  (with_reducible refine (clone_any ⟨bd, od, none⟩ q e first _ HS.out (by omega)).mono ?_)
  rintro en w1 ⟨A1, e1, rfl, ho1, hb1⟩
  have HB1 := Lib.hid hb1
  have Ho1 := Lib.hid ho1
  obtain ⟨bo, oo, hA1, -, -⟩ := (SlE.of_own ho1 Hl.out).2.2 (by have := Hq.out; omega)
  clear hA1 c0 c1 c2 c3 c4 c5 c6 c7 c8 c9 c10 c11 c12 cf
  obtain ⟨c0, c1, c2, c3, c4, c5, c6, c7, c8, c9, c10, c11, c12, cf⟩ := circ13 (HR.out.below hb1).circ
  clear hb1 ho1
  go_wp2_with fail
  (with_reducible refine (above_any r Hok.out A B A1 n c m d q e1 first _ (SlE.of_own Ho1.out Hl.out) (by omega) Hg.out).mono ?_)
  rintro en w2 ⟨rfl, hb2⟩
  have HB2 := Lib.hid (HB1.out.trans (hb2.mono HB1.out.size))
  have Ho2 := Lib.hid (ownsRow_below Ho1.out hb2)
  clear hb2 c0 c1 c2 c3 c4 c5 c6 c7 c8 c9 c10 c11 c12 cf
  obtain ⟨y0, hy0⟩ : ∃ z, r.sum0 first = z := ⟨_, rfl⟩
  rw [hy0] at Hs0 HI0 ⊢
  clear hy0
  go_wp2_with fail
  go_loopw [1, 5, 6, 7] (fun s1 s5 s6 s7 wr => ∃ (t cc sm : Nat) (out : List Int) (A' : Option Addr) (c' : Nat), q ≤ t ∧ t ≤ r.N ∧ s7 = .int .i64 (t : Nat) ∧ s1 = .int .i64 (cc : Nat) ∧ s6 = .int .i64 (sm : Nat) ∧ s5 = .slice A' t c' ∧ cc < r.codes ∧ sm < r.sums ∧
    Hid (FolI r first t (r.N + q - t) (cc, sm) out) ∧ wr.ownsRow w.heap.size 3 1 (.slice A' t c') t (out.flatMap intE) ∧ Below w.heap.size w wr) (fun _ _ _ i _ => r.N - (intOf i).toNat)
  case atStart => exact ⟨q, z0, y0, first, A1, e1, Nat.le_refl _, by omega, rfl, rfl, rfl, rfl, Hc0.out, Hs0.out, Lib.hid (by rw [Nat.add_sub_cancel]; exact HI0.out), Ho2.out, HB2.out⟩
  case round =>
    obtain ⟨t, cc, sm, out, A', c', ht1, ht2, rfl, rfl, rfl, rfl, hcc, hsmm, HI, ho, hb⟩ := hrel
    obtain ⟨wo, rfl⟩ : ∃ wo : World, wo = wr := ⟨_, rfl⟩
    obtain ⟨c0, c1, c2, c3, c4, c5, c6, c7, c8, c9, c10, c11, c12, cf⟩ := circ13 (HR.out.below hb).circ
    have HO := Lib.hid ho
    have HB := Lib.hid hb
    clear ho hb
    by_cases hlt : t < r.N
    · obtain ⟨z, hz⟩ : ∃ z, r.N + q - t = z + 1 := ⟨r.N + q - t - 1, by omega⟩
      have hz2 : r.N + q - (t + 1) = z := by omega
      obtain ⟨a, ha, ha1, ha2, ha3, HI2⟩ := FolI.step Hok.out (by have := HI.out; rwa [hz] at this) hlt
      have HI2 := Lib.hid HI2
      have Ha := Lib.hid ha
      have Hz := Lib.hid hz
      have Hz2 := Lib.hid hz2
      clear ha hz hz2
      obtain ⟨hr1, -⟩ := (HR.out.below HB.out).row (j := t + 1) (by have := Hq.out; omega) (by omega)
      have hx1 := ((HR.out.below HB.out).own (t + 1) (by have := Hq.out; omega) (by omega)).sl (show r.codes * r.sums = (r.rowV first (r.N + r.S - 1 - (t + 1)) (t + 1)).length by rw [rowV_len])
      have hF1 := HF.out.below HB.out
      have hT1 := HT.out.below HB.out
      have hS1 := HS.out.below HB.out
      have hcirc := (HR.out.below HB.out).circ
      have hzz : r.N + r.S - 1 - (t + 1) = z := by have := Hz.out; have := Hq.out; omega
      rw [hzz] at hx1
      clear hzz
      go_wp2_with fail
      (with_reducible refine (best_any r Hok.out A B _ n c m d q e first Hg.out b rb (gs (t + 1)) (r.N + r.S) (r.codes * r.sums) z cc sm t _ hcirc hF1 hT1 hS1 Hq.out hr1 rfl rfl hx1 (by have := Hz.out; have := Hq.out; omega) hcc hsmm (by have := Hq.out; omega)).mono ?_)
      rintro en w3 ⟨rfl, hb3⟩
      rw [Ha.out]
      have HB3 := Lib.hid (HB.out.trans (hb3.mono HB.out.size))
      have HO3 := Lib.hid (ownsRow_below HO.out hb3)
      clear hb3 hr1 hx1 hF1 hT1 hS1 hcirc c0 c1 c2 c3 c4 c5 c6 c7 c8 c9 c10 c11 c12 cf
      have hF1 := HF.out.below HB3.out
      have hT1 := HT.out.below HB3.out
      have hcirc := (HR.out.below HB3.out).circ
      go_wp2_with fail
      (with_reducible refine (next_any r Hok.out A B _ n c m d q e (.slice (some ⟨rb, 0, none⟩) (r.N + r.S) (r.N + r.S)) b cc t a _ hcirc hF1 hT1 hcc (by have := Hq.out; omega) (by omega) ⟨ha1, by omega⟩).mono ?_)
      rintro en w4 ⟨rfl, hb4⟩
      have HB4 := Lib.hid (HB3.out.trans (hb4.mono HB3.out.size))
      have HO4 := Lib.hid (ownsRow_below HO3.out hb4)
      have hz4 : w.heap.size ≤ w4.heap.size := HB4.out.size
      obtain ⟨Z, hZ⟩ : ∃ Z, (cc * 4 + (a - r.low).toNat) % r.codes = Z := ⟨_, rfl⟩
      have hZc : Z < r.codes := by rw [← hZ]; exact Nat.mod_lt _ (by omega)
      rw [hZ] at HI2 ⊢
      clear hb4 hF1 hT1 hcirc hZ
      obtain ⟨c0, c1, c2, c3, c4, c5, c6, c7, c8, c9, c10, c11, c12, cf⟩ := circ13 (HR.out.below HB4.out).circ
      have Hc := Lib.hid (show (sm : Int) + (a - r.low) = ((sm + (a - r.low).toNat : Nat) : Int) by omega)
      go_wp2_with (at_builtin; refine wpList_app rfl (.tmp 58) (.tmp 60) _ rfl elemInt w.heap.size _ _ _ rfl (HO4.out.kept (World.grownBy_alloc w4 _ none) (by cases (Value.slice A' t c').ownBlock <;> simp)) _ _ _ _ rfl (Sl.new _ _ _ 1 1 rfl) (by simp [Value.oneCell']) (by unfold maxLen; omega) (by omega) (by simp; omega) ?_; intro A5 c5' w5 ho5 hg5 _; have HB5 := Lib.hid (below_own (HB4.out.alloc hz4 _) (HO4.out.kept (World.grownBy_alloc w4 _ none) (by cases (Value.slice A' t c').ownBlock <;> simp)) (Nat.le_refl _) (by simp; omega) hg5); have HO5 := Lib.hid ho5; clear ho5 hg5)
      exact ⟨⟨t + 1, Z, sm + (a - r.low).toNat, out ++ [a], A5, c5', by omega, by omega, by go_num, rfl, by rw [Hc.out], rfl, hZc, ha3, Lib.hid (by rw [Hz2.out]; exact HI2.out), by rw [List.flatMap_append]; exact HO5.out, HB5.out⟩, by simp [intOf]; omega⟩
    · obtain rfl : t = r.N := by omega
      have hout : out = r.wayB first := by
        have := HI.out.2
        rwa [Nat.sub_self, List.take_zero, List.append_nil] at this
      have Hf := Lib.hid (hR0.out (.returned (.slice A' r.N c')) wo ⟨A', c', rfl, by rw [← hout]; exact HO.out, HB.out⟩)
      clear hout hR0
      go_wp2_with fail
      exact Hf.out
end Go.Proofs.YtojbldoekalbnaaGreat
