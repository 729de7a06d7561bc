/-
  The contract of match.Voice: the quills that Best finds in the table, and how much of each is cut off, or the error; condition: both lists read.
-/
import Derived.Test.YtjdhcdoekfikpaaMTblW
import Derived.Test.YtjdhcdoekfikpaaMLFewer
namespace Go.Proofs.Ytjdhcdoekfikpaa
open Go.RowKit

def offV (js qs : List (Int × Int)) (l : List Nat) (i : Nat) : Int := (qs.getD (l.getD i 0) (0, 0)).2 - (js.getD i (0, 0)).2
def offL (js qs : List (Int × Int)) (l : List Nat) (n : Nat) : List Int := (List.range n).map (offV js qs l)
theorem offL_succ (js qs : List (Int × Int)) (l : List Nat) (n : Nat) : offL js qs l (n + 1) = offL js qs l n ++ [offV js qs l n] := by
  unfold offL
  rw [List.range_succ, List.map_append]
  rfl
theorem offL_len (js qs : List (Int × Int)) (l : List Nat) (n : Nat) : (offL js qs l n).length = n := by simp [offL]
theorem ct_tbl {be tr : Int} {js qs : List (Int × Int)} {i c : Nat} {j q : Int × Int} (hj : js[i]? = some j) (hq : qs[c]? = some q) : ct (tbl be tr js qs) i c = ent be tr j q := by
  unfold ct tbl
  rw [List.getD_eq_getElem?_getD (l := js.map (tbRow be tr qs)), List.getElem?_map, hj]
  show (tbRow be tr qs j).getD c (-1) = _
  unfold tbRow
  rw [List.getD_eq_getElem?_getD, List.getElem?_map, hq]
  rfl
theorem tbl_len (be tr : Int) (js qs : List (Int × Int)) : (tbl be tr js qs).length = js.length := by simp [tbl]
theorem kuhn_of_best' {T : List (List Int)} {m L : Nat} (hl : T.length = L) {x : List Nat × Int} (h : bestO T m = some x) : kuhn (gT T) m (List.range L) = L := by
  by_cases hk : kuhn (gT T) m (List.range L) = L
  · exact hk
  · rw [(bestO_iff T m).2 (by rw [hl]; exact hk)] at h; cases h
/-- What a chosen quill leaves is not less than nothing. -/
theorem off_ok {be tr : Int} {js qs : List (Int × Int)} {l : List Nat} (h : Asg (tbl be tr js qs) qs.length l) {i : Nat} (hi : i < js.length) : l.getD i 0 < qs.length ∧ 0 ≤ offV js qs l i := by
  obtain ⟨h1, h2⟩ := h.ok i (by rw [tbl_len]; exact hi)
  refine ⟨h1, ?_⟩
  rw [ct_tbl (List.getElem?_eq_getElem hi) (List.getElem?_eq_getElem h1)] at h2
  unfold ent at h2
  unfold offV
  rw [getD_get _ _ _ hi, getD_get qs _ _ h1]
  split at h2
  · omega
  · omega
theorem prOkB_iff' {x y : Int} (h : prOkB (x, y) = true) : (0 ≤ x ∧ x ≤ 10000) ∧ (0 ≤ y ∧ y ≤ 10000) := by
  unfold prOkB at h
  rwa [Bool.and_eq_true, inR_iff, inR_iff] at h
theorem own_drew1 {W : World} {base e size n : Nat} {v : Value} {xs : List Value} (h : W.ownsRow base e size v n xs) : W.drew.ownsRow base e size v n xs := h
def VoEnd (js qs : List (Int × Int)) (be tr : Int) (n : Nat) (w' : World) (e : Ending) : Prop :=
  (tbOkB js qs be tr = false ∧ e = .returned (.tuple #[.slice none 0 0, .slice none 0 0, .int .i64 0, .int .i64 1])) ∨
  (tbOkB js qs be tr = true ∧ bestO (tbl be tr js qs) qs.length = none ∧ e = .returned (.tuple #[.slice none 0 0, .slice none 0 0, .int .i64 0, .int .i64 6])) ∨
  (tbOkB js qs be tr = true ∧ ∃ l s, bestO (tbl be tr js qs) qs.length = some (l, s) ∧ ∃ B c A d, e = .returned (.tuple #[.slice B n c, .slice A n d, .int .i64 s, .int .i64 0]) ∧ SlE intE 1 w' B n (castL l) ∧ SlE intE 1 w' A n (offL js qs l n))
set_option maxRecDepth 100000 in
set_option maxHeartbeats 8000000 in
theorem mVoice_any (A1 A2 : Option Addr) (n1 n2 c1 c2 : Nat) (js qs : List (Int × Int)) (be tr : Int) (w : World) (h1 : SlE prE 2 w A1 n1 js) (h2 : SlE prE 2 w A2 n2 qs) (hn1 : n1 ≤ 9223372036854775807) (hn2 : n2 ≤ 9223372036854775807) :
    Calls Try.prog 43 #[.slice A1 n1 c1, .slice A2 n2 c2, .int .i64 be, .int .i64 tr] w fun e w' => VoEnd js qs be tr n1 w' e ∧ Below w.heap.size w w' := by
  refine calls_cps ?_
  intro R hR
  have Hl1 := Lib.hid h1.1
  have Hl2 := Lib.hid h2.1
  have H1 := Lib.hid h1
  have H2 := Lib.hid h2
  clear h1 h2
  go_enter Try.func43, Try.ntmps43
  go_wp2_with fail
  refine (mTable_any A1 A2 n1 n2 c1 c2 js qs be tr w H1.out H2.out hn1 hn2).mono ?_
  rintro e w1 ⟨⟨hno, rfl⟩ | ⟨hyes, A, c, rfl, hs⟩, hb1⟩
  · have Hf := Lib.hid (hR.out (.returned (.tuple #[.slice none 0 0, .slice none 0 0, .int .i64 0, .int .i64 1])) w1 ⟨.inl ⟨hno, rfl⟩, hb1⟩)
    clear hno hb1
    go_wp2
    refine bodyPost_ret (v := .tuple #[.slice none 0 0, .slice none 0 0, .int .i64 0, .int .i64 1]) ?_ rfl Hf.out
    simp [results, Try.results43, go_sem]
  · have Hyes := Lib.hid hyes
    have hok := tbl_ok hyes
    obtain ⟨T, hT⟩ : ∃ T, tbl be tr js qs = T := ⟨_, rfl⟩
    have hTl : T.length = n1 := by rw [← hT, tbl_len, Hl1.out]
    rw [← Hl2.out] at hok
    rw [hT] at hs hok
    have Hs := Lib.hid hs
    have Hok := Lib.hid hok
    have HT := Lib.hid hT
    have HTl := Lib.hid hTl
    have Hb1 := Lib.hid hb1
    have hn64 : n1 ≤ 64 := by rw [← hTl]; exact Nat.le_trans hok.nm hok.m64
    have hm64 := hok.m64
    clear hyes hs hok hT hTl hb1
    by_cases hKL : kuhn (gT T) n2 (List.range n1) = n1
    · have HK := Lib.hid hKL
      clear hKL
      go_wp2_with fail
      refine (best_yes A n1 c n2 T w1 Hs.out Hok.out HK.out).mono ?_
      rintro e w2 ⟨B1, B2, B3, d1, d2, d3, l, s, lu, lv, rfl, hB, s1, _, _, _, _, _, _, _, _, hb2⟩
      have Hx := Lib.hid (heap_alloc_new w2 (.cells #[.slice B1 n1 d1, .slice B2 n1 d2, .slice B3 n2 d3, .int .i64 s] 28))
      have hba := hb2.trans ((below_new w2 (.cells #[.slice B1 n1 d1, .slice B2 n1 d2, .slice B3 n2 d3, .int .i64 s] 28)).mono hb2.size)
      have Hb2 := Lib.hid (Hb1.out.trans (hba.mono Hb1.out.size))
      have Hs1 := Lib.hid (s1.below (below_new w2 (.cells #[.slice B1 n1 d1, .slice B2 n1 d2, .slice B3 n2 d3, .int .i64 s] 28)))
      obtain ⟨w3, hw3⟩ : ∃ w3, w2.alloc (.cells #[.slice B1 n1 d1, .slice B2 n1 d2, .slice B3 n2 d3, .int .i64 s] 28) = w3 := ⟨_, rfl⟩
      obtain ⟨gb, hgb⟩ : ∃ gb, w2.heap.size = gb := ⟨_, rfl⟩
      have Hw3 := Lib.hid hw3
      have Hgb := Lib.hid hgb
      rw [hw3] at Hx Hb2 Hs1
      rw [hgb] at Hx
      have Hoff := Lib.hid (show ∀ i, i < n1 → l.getD i 0 < n2 ∧ 0 ≤ offV js qs l i from fun i hi => by
        have h := hB.best.asg
        rw [← HT.out, Hl2.out] at h
        rw [Hl2.out]
        exact off_ok h (by rw [← Hl1.out]; exact hi))
      have HB := Lib.hid (bestO_eq hB.best)
      have Hq := Lib.hid (by
        have h := Hyes.out
        unfold tbOkB at h
        simp only [Bool.and_eq_true, List.all_eq_true] at h
        exact (⟨h.1.2, h.2⟩ : (∀ x ∈ js, prOkB x = true) ∧ ∀ x ∈ qs, prOkB x = true))
      clear hB s1 hb2 hba hw3 hgb
      obtain ⟨r0, r1, r2, r3, r4⟩ := cells4 Hx.out
      go_wp2_with (rw [Hw3.out, Hgb.out])
      go_loopg [15, 40] n1 (fun gk s15 s40 wr => ∃ (i : Nat) (A : Option Addr) (c : Nat), i + gk = n1 ∧ s40 = .int .i64 ((i : Nat) : Int) ∧ s15 = .slice A i c ∧ wr.ownsRow w3.heap.size 3 1 (.slice A i c) i ((offL js qs l i).flatMap intE) ∧ Below w3.heap.size w3 wr)
      case atStart => exact ⟨0, none, 0, by omega, rfl, rfl, ⟨rfl, .inl ⟨rfl, rfl⟩⟩, Below.refl _ _⟩
      case round =>
        obtain ⟨i, Ao, co, hgk, rfl, rfl, ho, hb⟩ := hrel
        obtain ⟨wi, rfl⟩ : ∃ wi : World, wi = wr := ⟨_, rfl⟩
        have Ho := Lib.hid ho
        have Hb := Lib.hid hb
        have hsz := hb.size
        clear ho hb r0 r1 r2 r3 r4
        by_cases hli : i < n1
        · obtain ⟨bt, ot, rfl, t0⟩ := cast_at2 (Hs1.out.below Hb.out) hli
          obtain ⟨hl1, hl2⟩ := Hoff.out i hli
          have hbw : Below w.heap.size w wi := Hb2.out.trans (Hb.out.mono Hb2.out.size)
          obtain ⟨bj, oj, jx, jy, rfl, _, hj, _, j1⟩ := (H1.out.below hbw).at2 hli
          obtain ⟨bq, oq, qx, qy, rfl, _, hqq, _, q1⟩ := (H2.out.below hbw).at2 hl1
          have hoff : offV js qs l i = qy - jy := by
            unfold offV
            rw [List.getD_eq_getElem?_getD (l := qs), hqq, List.getD_eq_getElem?_getD (l := js), hj]
            rfl
          have HO := Lib.hid (show offL js qs l (i + 1) = offL js qs l i ++ [qy - jy] by rw [offL_succ, hoff])
          have hb5 := (prOkB_iff' (Hq.out.1 _ (List.mem_of_getElem? hj))).2
          have hb6 := (prOkB_iff' (Hq.out.2 _ (List.mem_of_getElem? hqq))).2
          obtain ⟨lc, hlc⟩ : ∃ lc, l.getD i 0 = lc := ⟨_, rfl⟩
          rw [hlc] at t0 hl1 q1
          have i1 : (i : Int) < (n1 : Int) := by omega
          have i2 : (lc : Int) < (n2 : Int) := by omega
          have z1 : IntKind.i64.wrap (qy - jy) = qy - jy := IntWalk.i64_in _ (by omega)
          have m1 := hb5.1
          have m2 := hb5.2
          have m3 := hb6.1
          have m4 := hb6.2
          have Hod := Lib.hid (show (wi.alloc (.cells #[.int .i64 (qy - jy)] 3)).drew.ownsRow w3.heap.size 3 1 (.slice Ao i co) i ((offL js qs l i).flatMap intE) from own_drew1 (Ho.out.kept (World.grownBy_alloc wi _ none) (by cases (Value.slice Ao i co).ownBlock <;> simp)))
          have Hbd := Lib.hid (show Below w3.heap.size w3 (wi.alloc (.cells #[.int .i64 (qy - jy)] 3)).drew from (Hb.out.alloc hsz _).drew)
          have Hsl := Lib.hid (show Sl (wi.alloc (.cells #[.int .i64 (qy - jy)] 3)).drew 1 (some ⟨wi.heap.size, 0, none⟩) 1 [.int .i64 (qy - jy)] from (Sl.new wi #[.int .i64 (qy - jy)] 3 1 1 rfl).drew)
          have hszd : w3.heap.size ≤ (wi.alloc (.cells #[.int .i64 (qy - jy)] 3)).drew.heap.size := by show w3.heap.size ≤ (wi.alloc (.cells #[.int .i64 (qy - jy)] 3)).heap.size; rw [World.size_alloc]; omega
          have Hone := Lib.hid (show ∀ u ∈ [Value.int .i64 (qy - jy)], u.oneCell' = true from by simp [Value.oneCell'])
          have Hstep := Lib.hid (fun (A7 : Option Addr) (c7 : Nat) (w7 : World) (ho7 : w7.ownsRow w3.heap.size 3 1 (.slice A7 (i + 1) c7) (i + 1) ((offL js qs l i).flatMap intE ++ [.int .i64 (qy - jy)])) (hg7 : (wi.alloc (.cells #[.int .i64 (qy - jy)] 3)).drew.grownBy w7 (Value.slice Ao i co).ownBlock) => (⟨below_own Hbd.out Hod.out (Nat.le_refl _) hszd hg7, by rw [HO.out, List.flatMap_append]; exact ho7⟩ : Below w3.heap.size w3 w7 ∧ w7.ownsRow w3.heap.size 3 1 (.slice A7 (i + 1) c7) (i + 1) ((offL js qs l (i + 1)).flatMap intE)))
          clear hl2 hbw hj hqq hoff hb5 hb6 hlc
          go_wp2_with fail
          go_region_law ((refine step_app rfl (.tmp 45) (.tmp 57) 26 rfl elemInt w3.heap.size (.slice Ao i co) i _ ?_ Hod.out (some ⟨wi.heap.size, 0, none⟩) 1 1 [.int .i64 (qy - jy)] ?_ Hsl.out Hone.out (by unfold maxLen; omega) (by omega) hszd ?_; (· (simp [Act.eval])); (· (simp [Act.eval])); intro A7 c7 w7 ho7 hg7 _; obtain ⟨hb7, ho8⟩ := Hstep.out A7 c7 w7 ho7 hg7))
          all_goals
            have HO7 := Lib.hid ho8
            have HB7 := Lib.hid hb7
            clear ho7 hg7 ho8 hb7
            go_wp2_with fail
            go_roundg (gk - 1)
            case measure => omega
            case rel => exact ⟨i + 1, A7, c7, by omega, by go_num, rfl, HO7.out, HB7.out⟩
        · obtain rfl : i = n1 := by omega
          have hx := (Hb.out.block gb (Array.getElem?_eq_some_iff.1 Hx.out).1).trans Hx.out
          obtain ⟨r0, r1, r2, r3, r4⟩ := cells4 hx
          have Hf := Lib.hid (show ∀ q, R (.returned (.tuple #[.slice B1 i d1, .slice Ao i co, .int .i64 s, .int .i64 0])) (wi.drewN q) from fun q => hR.out _ _ ⟨.inr (.inr ⟨Hyes.out, l, s, by rw [HT.out, ← Hl2.out]; exact HB.out, B1, d1, Ao, co, rfl, (Hs1.out.below Hb.out).drewN q, (SlE.of_own Ho.out (offL_len _ _ _ _).symm).drewN q⟩), below_drewN (Hb2.out.trans (Hb.out.mono Hb2.out.size)) q⟩)
          clear hx
          go_wp2_with fail
          go_quiet (fail)
          go_wp2
          refine bodyPost_ret (v := .tuple #[.slice B1 i d1, .slice Ao i co, .int .i64 s, .int .i64 0]) ?_ rfl (Hf.out _)
          simp [results, Try.results43, go_sem]
    · have Hno := Lib.hid hKL
      clear hKL
      go_wp2_with fail
      refine (best_none A n1 c n2 T w1 Hs.out Hok.out Hno.out).mono ?_
      rintro e w2 ⟨rfl, hb2⟩
      have hba := hb2.trans ((below_new w2 (.cells #[.slice none 0 0, .slice none 0 0, .slice none 0 0, .int .i64 0] 28)).mono hb2.size)
      have Hf := Lib.hid (hR.out (.returned (.tuple #[.slice none 0 0, .slice none 0 0, .int .i64 0, .int .i64 6])) _ ⟨.inr (.inl ⟨Hyes.out, by rw [HT.out, ← Hl2.out]; exact (bestO_iff T n2).2 (by rw [HTl.out]; exact Hno.out), rfl⟩), Hb1.out.trans (hba.mono Hb1.out.size)⟩)
      clear hb2 hba
      go_wp2
      refine bodyPost_ret (v := .tuple #[.slice none 0 0, .slice none 0 0, .int .i64 0, .int .i64 6]) ?_ rfl Hf.out
      simp [results, Try.results43, go_sem]
end Go.Proofs.Ytjdhcdoekfikpaa
