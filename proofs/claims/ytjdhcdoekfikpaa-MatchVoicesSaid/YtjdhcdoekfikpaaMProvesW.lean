/-
  The contract of match.Proves: whether prices prove a matching, or the error; condition: the table and the matching read.
-/
import Derived.Test.YtjdhcdoekfikpaaMFg
import Derived.Test.YtjdhcdoekfikpaaMRProves
namespace Go.Proofs.Ytjdhcdoekfikpaa
open Go.RowKit

def inFar (x : Int) : Prop := -2000000000000000000 ≤ x ∧ x ≤ 2000000000000000000
def rngK (l : List Int) (k : Nat) : Prop := ∀ i, i < k → inFar (l.getD i 0)
theorem rngK_succ {l : List Int} {k : Nat} {x : Int} (h : rngK l k) (hx : l[k]? = some x) (h1 : inFar x) : rngK l (k + 1) := fun i hi => by
  by_cases e : i = k
  · subst e; rw [List.getD_eq_getElem?_getD, hx]; exact h1
  · exact h i (by omega)
theorem rng_left {a b : List Int} {i : Nat} (h : rngK (a ++ b) (a.length + b.length)) (hi : i < a.length) : inFar (a.getD i 0) := by
  have := h i (by omega)
  rwa [List.getD_eq_getElem?_getD, List.getElem?_append_left hi, ← List.getD_eq_getElem?_getD] at this
theorem rng_right {a b : List Int} {j : Nat} (h : rngK (a ++ b) (a.length + b.length)) (hj : j < b.length) : inFar (b.getD j 0) := by
  have := h (a.length + j) (by omega)
  rwa [List.getD_eq_getElem?_getD, List.getElem?_append_right (by omega), Nat.add_sub_cancel_left, ← List.getD_eq_getElem?_getD] at this
theorem mem_getI {l : List Int} {n : Nat} (hn : l.length = n) (x : Int) : x ∈ l ↔ ∃ i, i < n ∧ l.getD i 0 = x := by
  subst hn
  constructor
  · intro h
    obtain ⟨i, hi, e⟩ := List.getElem_of_mem h
    exact ⟨i, hi, by rw [getD_get _ _ _ hi]; exact e⟩
  · rintro ⟨i, hi, e⟩
    rw [getD_get _ _ _ hi] at e
    rw [← e]; exact List.getElem_mem hi
/-- The columns' prices so far: not above 0, and 0 where no row has the column. -/
def prK (lt lv : List Int) (k : Nat) : Prop := ∀ j, j < k → lv.getD j 0 ≤ 0 ∧ (lv.getD j 0 = 0 ∨ (j : Int) ∈ lt)
theorem prK_succ {lt lv : List Int} {k : Nat} {x : Int} (hx : lv.getD k 0 = x) : prK lt lv (k + 1) ↔ prK lt lv k ∧ x ≤ 0 ∧ (x = 0 ∨ (k : Int) ∈ lt) := by
  subst hx
  constructor
  · intro h; exact ⟨fun j hj => h j (by omega), h k (by omega)⟩
  · rintro ⟨h1, h2⟩ j hj
    by_cases e : j = k
    · subst e; exact h2
    · exact h1 j (by omega)
theorem all_succ {P : Nat → Prop} {k : Nat} : (∀ j, j < k + 1 → P j) ↔ (∀ j, j < k → P j) ∧ P k := by
  constructor
  · intro h; exact ⟨fun j hj => h j (by omega), h k (by omega)⟩
  · rintro ⟨h1, h2⟩ j hj
    by_cases e : j = k
    · subst e; exact h2
    · exact h1 j (by omega)
theorem prOk_of {T : List (List Int)} {n m : Nat} {lt lu lv : List Int} {s : Int} (hlt : lt.length = n) (hlu : lu.length = n) (hlv : lv.length = m) (hr : rngK (lu ++ lv) (n + m)) :
    PrOk T n m lt lu lv s ↔ (totS T lt n = s ∧ prK lt lv m) ∧ ∀ i, i < n → ∀ j, j < m → prX T lt lu lv i j := by
  rw [← hlu, ← hlv] at hr
  constructor
  · rintro ⟨h1, _, h3, h4⟩
    exact ⟨⟨h1, fun j hj => ⟨(h3 j hj).2.1, (h3 j hj).2.2.elim (fun h => .inr ((mem_getI hlt _).2 h)) .inl⟩⟩, h4⟩
  · rintro ⟨⟨h1, h3⟩, h4⟩
    exact ⟨h1, fun i hi => rng_left hr (by omega), fun j hj => ⟨(rng_right hr (by omega)).1, (h3 j hj).1, (h3 j hj).2.elim .inr (fun h => .inl ((mem_getI hlt _).1 h))⟩, h4⟩
theorem not_prOk {T : List (List Int)} {n m : Nat} {lt lu lv : List Int} {s x : Int} {k : Nat} (hlu : lu.length = n) (_hlv : lv.length = m) (hk : k < n + m) (hx : (lu ++ lv)[k]? = some x) (hn : ¬ inFar x) : ¬ PrOk T n m lt lu lv s := by
  rintro ⟨_, h2, h3, _⟩
  apply hn
  by_cases h : k < n
  · rw [List.getElem?_append_left (by omega)] at hx
    have := h2 k h
    rw [List.getD_eq_getElem?_getD, hx] at this
    exact this
  · rw [List.getElem?_append_right (by omega)] at hx
    have := h3 (k - n) (by omega)
    rw [hlu] at hx
    rw [List.getD_eq_getElem?_getD, hx] at this
    have h1 : -2000000000000000000 ≤ x := this.1
    have h2 : x ≤ 0 := this.2.1
    exact ⟨h1, by omega⟩
def mt (A1 A2 A3 : Option Addr) (L1 L2 L3 c1 c2 c3 : Nat) (s : Int) : Value := .agg #[.slice A1 L1 c1, .slice A2 L2 c2, .slice A3 L3 c3, .int .i64 s]
set_option maxRecDepth 100000 in
set_option maxHeartbeats 2000000 in
theorem mProves_no (A : Option Addr) (n c : Nat) (T : List (List Int)) (A1 A2 A3 : Option Addr) (L1 L2 L3 c1 c2 c3 : Nat) (s : Int) (w : World) (hT : SlR w A n T) (hn : n ≤ 9223372036854775807) (hrow : ∀ r ∈ T, r.length ≤ 9223372036854775807) (ht : tabB T = false) :
    Calls Try.prog 44 #[.slice A n c, .agg #[.slice A1 L1 c1, .slice A2 L2 c2, .slice A3 L3 c3, .int .i64 s]] w fun e w' => e = .returned (.tuple #[.bool false, .int .i64 1]) ∧ Below w.heap.size w w' := by
  refine calls_cps ?_
  intro R hR
  have hb := below_new w (.cells #[.slice A1 L1 c1, .slice A2 L2 c2, .slice A3 L3 c3, .int .i64 s] 28)
  have HT := Lib.hid (hT.below hb)
  have Hf := Lib.hid (hR.out (.returned (.tuple #[.bool false, .int .i64 1])) _ ⟨rfl, hb⟩)
  clear hT hb hR
  go_enter Try.func44, Try.ntmps44
  go_wp2_with fail
  refine (check_any A n c T _ HT.out hn hrow).mono ?_
  rw [if_neg (by rw [ht]; simp)]
  rintro e w1 ⟨rfl, rfl⟩
  go_wp2
  exact Hf.out
set_option maxRecDepth 100000 in
set_option maxHeartbeats 4000000 in
theorem mProves_form (A : Option Addr) (n c m : Nat) (T : List (List Int)) (A1 A2 A3 : Option Addr) (L1 L2 L3 c1 c2 c3 : Nat) (lt : List Int) (s : Int) (w : World) (hT : SlR w A n T) (hok : TOk T m)
    (h1 : SlE intE 1 w A1 L1 lt) (hL1 : L1 ≤ 9223372036854775807) (hno : ¬ (TotOk T m lt ∧ L2 = n ∧ L3 = m)) :
    Calls Try.prog 44 #[.slice A n c, .agg #[.slice A1 L1 c1, .slice A2 L2 c2, .slice A3 L3 c3, .int .i64 s]] w fun e w' => e = .returned (.tuple #[.bool false, .int .i64 2]) ∧ Below w.heap.size w w' := by
  refine calls_cps ?_
  intro R hR
  have hn1 : 1 ≤ n := by rw [hT.1]; exact hok.n1
  have hm64 := hok.m64
  have hnm : n ≤ m := by rw [hT.1]; exact hok.nm
  have hb := below_new w (.cells #[.slice A1 L1 c1, .slice A2 L2 c2, .slice A3 L3 c3, .int .i64 s] 28)
  have HT := Lib.hid (hT.below hb)
  have H1 := Lib.hid (h1.below hb)
  have HX := Lib.hid (heap_alloc_new w (.cells #[.slice A1 L1 c1, .slice A2 L2 c2, .slice A3 L3 c3, .int .i64 s] 28))
  have Hb := Lib.hid hb
  have Hok := Lib.hid hok
  have hrow : ∀ r ∈ T, r.length ≤ 9223372036854775807 := fun r hr => by rw [hok.rect r hr]; omega
  have Hrow := Lib.hid hrow
  have Ht := Lib.hid (show tabB T = true from tabB_iff.2 (by rw [hok.wid]; exact hok))
  obtain ⟨b, o, A0, c0, rfl, _⟩ := hT.head (by omega)
  have Hno := Lib.hid hno
  clear hT h1 hb hok hrow hno
  go_enter Try.func44, Try.ntmps44
  go_wp2_with fail
  refine (check_any _ n c T _ HT.out (by omega) Hrow.out).mono ?_
  rw [if_pos Ht.out]
  rintro e w1 ⟨rfl, rfl⟩
  obtain ⟨r0, r1, r2, r3, r4⟩ := cells4 HX.out
  go_wp2_with fail
  refine (total_any _ n c m T A1 L1 c1 lt _ HT.out Hok.out H1.out hL1).mono ?_
  rintro e w2 ⟨hcase, hb2⟩
  have hx2 := (hb2.block _ (by simp)).trans HX.out
  have HT2 := Lib.hid (HT.out.below hb2)
  have Hf := Lib.hid (show ∀ q, R (.returned (.tuple #[.bool false, .int .i64 2])) (w2.drewN q) from fun q => hR.out _ _ ⟨rfl, below_drewN (Hb.out.trans (hb2.mono Hb.out.size)) q⟩)
  clear hb2 hR r0 r1 r2 r3 r4
  obtain ⟨r0, r1, r2, r3, r4⟩ := cells4 hx2
  clear hx2
  obtain ⟨b', o', A0', c0', e', hh⟩ := HT2.out.head (by omega)
  simp only [Option.some.injEq, Addr.mk.injEq, and_true] at e'
  obtain ⟨rfl, rfl⟩ := e'
  rw [Hok.out.wid] at hh
  rcases hcase with ⟨htot, rfl⟩ | ⟨htot, rfl⟩
  · by_cases hL2 : L2 = n
    · have hL3 : ¬ L3 = m := fun h => Hno.out ⟨htot, hL2, h⟩
      have g1 : ((L2 : Int) != (n : Int)) = false := by simp [hL2]
      have g2 : ((L3 : Int) != (m : Int)) = true := by simp; omega
      obtain ⟨t, ht⟩ : ∃ t, totS T lt n = t := ⟨_, rfl⟩
      rw [ht]
      clear htot hL2 hL3 ht
      go_wp2_with fail
      go_quiet (fail)
      go_wp2
      exact Hf.out _
    · have g1 : ((L2 : Int) != (n : Int)) = true := by simp; omega
      obtain ⟨t, ht⟩ : ∃ t, totS T lt n = t := ⟨_, rfl⟩
      rw [ht]
      clear htot hL2 ht
      go_wp2_with fail
      go_quiet (fail)
      go_wp2
      exact Hf.out _
  · clear htot
    go_wp2_with fail
    go_quiet (fail)
    go_wp2
    exact Hf.out _
set_option maxRecDepth 100000 in
set_option maxHeartbeats 16000000 in
theorem mProves_any (A : Option Addr) (n c m : Nat) (T : List (List Int)) (A1 A2 A3 : Option Addr) (c1 c2 c3 : Nat) (lt lu lv : List Int) (s : Int) (w : World) (hT : SlR w A n T) (hok : TOk T m)
    (h1 : SlE intE 1 w A1 n lt) (h2 : SlE intE 1 w A2 n lu) (h3 : SlE intE 1 w A3 m lv) (htot : TotOk T m lt) :
    Calls Try.prog 44 #[.slice A n c, .agg #[.slice A1 n c1, .slice A2 n c2, .slice A3 m c3, .int .i64 s]] w fun e w' => (PrOk T n m lt lu lv s ∧ e = .returned (.tuple #[.bool true, .int .i64 0]) ∨ ¬ PrOk T n m lt lu lv s ∧ e = .returned (.tuple #[.bool false, .int .i64 0])) ∧ Below w.heap.size w w' := by
  refine calls_cps ?_
  intro R hR
  have hn1 : 1 ≤ n := by rw [hT.1]; exact hok.n1
  have hm64 := hok.m64
  have hnm : n ≤ m := by rw [hT.1]; exact hok.nm
  have hb := below_new w (.cells #[.slice A1 n c1, .slice A2 n c2, .slice A3 m c3, .int .i64 s] 28)
  have HT := Lib.hid (hT.below hb)
  have H1 := Lib.hid (h1.below hb)
  have H2 := Lib.hid (h2.below hb)
  have H3 := Lib.hid (h3.below hb)
  have HX := Lib.hid (heap_alloc_new w (.cells #[.slice A1 n c1, .slice A2 n c2, .slice A3 m c3, .int .i64 s] 28))
  have Hb := Lib.hid hb
  have Hok := Lib.hid hok
  have hrow : ∀ r ∈ T, r.length ≤ 9223372036854775807 := fun r hr => by rw [hok.rect r hr]; omega
  have Hrow := Lib.hid hrow
  have Ht := Lib.hid (show tabB T = true from tabB_iff.2 (by rw [hok.wid]; exact hok))
  have Hlt := Lib.hid h1.1
  have Hlu := Lib.hid h2.1
  have Hlv := Lib.hid h3.1
  obtain ⟨b, o, A0, c0, rfl, _⟩ := hT.head (by omega)
  have Htot := Lib.hid htot
  clear hT h1 h2 h3 hb hok hrow htot
  go_enter Try.func44, Try.ntmps44
  go_wp2_with fail
  refine (check_any _ n c T _ HT.out (by omega) Hrow.out).mono ?_
  rw [if_pos Ht.out]
  rintro e w1 ⟨rfl, rfl⟩
  obtain ⟨r0, r1, r2, r3, r4⟩ := cells4 HX.out
  go_wp2_with fail
  refine (total_any _ n c m T A1 n c1 lt _ HT.out Hok.out H1.out (by omega)).mono ?_
  rintro e w2 ⟨⟨_, rfl⟩ | ⟨hno, _⟩, hb2⟩
  rotate_left
  · exact absurd Htot.out hno
  obtain ⟨t, ht⟩ : ∃ t, totS T lt n = t := ⟨_, rfl⟩
  rw [ht]
  have Htt := Lib.hid ht
  have hx2 := (hb2.block _ (by simp)).trans HX.out
  have HT2 := Lib.hid (HT.out.below hb2)
  have H12 := Lib.hid (H1.out.below hb2)
  have H22 := Lib.hid (H2.out.below hb2)
  have H32 := Lib.hid (H3.out.below hb2)
  have HX2 := Lib.hid hx2
  have Hb2 := Lib.hid (Hb.out.trans (hb2.mono Hb.out.size))
  clear hb2 ht r0 r1 r2 r3 r4
  obtain ⟨r0, r1, r2, r3, r4⟩ := cells4 hx2
  clear hx2
  obtain ⟨b', o', A0', c0', e', hh⟩ := HT2.out.head (by omega)
  simp only [Option.some.injEq, Addr.mk.injEq, and_true] at e'
  obtain ⟨rfl, rfl⟩ := e'
  rw [Hok.out.wid] at hh
  have g1 : ((n : Int) != (n : Int)) = false := by simp
  have g2 : ((m : Int) != (m : Int)) = false := by simp
  go_wp2_with fail
  go_quiet (fail)
  rename_i nq
  have HT3 := Lib.hid (show SlR (w2.drewN nq) _ n T from HT2.out)
  have H13 := Lib.hid (show SlE intE 1 (w2.drewN nq) A1 n lt from H12.out)
  have H23 := Lib.hid (show SlE intE 1 (w2.drewN nq) A2 n lu from H22.out)
  have H33 := Lib.hid (show SlE intE 1 (w2.drewN nq) A3 m lv from H32.out)
  have HX3 := Lib.hid (show (w2.drewN nq).heap[w.heap.size]? = _ from HX2.out)
  have Hb3 := Lib.hid (show Below w.heap.size w (w2.drewN nq) from below_drewN Hb2.out nq)
  clear r0 r1 r2 r3 r4 hh g1 g2
  generalize w2.drewN nq = w3 at *
  obtain ⟨r0, r1, r2, r3, r4⟩ := cells4 HX3.out
  go_wp2_with fail
  have hbn := below_new w3 (.cells #[.slice A2 n c2, .slice A3 m c3] 26)
  obtain ⟨v0, v1, _⟩ := cells2 (heap_alloc_new w3 (.cells #[.slice A2 n c2, .slice A3 m c3] 26))
  refine (concatI_any w3.heap.size 0 2 A2 A3 n c2 m c3 (lu.flatMap intE) (lv.flatMap intE) _ (by simp) v0 v1 (H23.out.2.below hbn) (H33.out.2.below hbn) (int_one _) (int_one _) (by omega) (by omega)).mono ?_
  rintro e w4 ⟨A4, c4, rfl, ho4, hb4⟩
  have hbb := hbn.trans (hb4.mono hbn.size)
  rw [← List.flatMap_append] at ho4
  have Hs4 := Lib.hid (SlE.of_own ho4 (by rw [List.length_append, ← Hlu.out, ← Hlv.out]))
  have HT4 := Lib.hid (HT3.out.below hbb)
  have H14 := Lib.hid (H13.out.below hbb)
  have H24 := Lib.hid (H23.out.below hbb)
  have H34 := Lib.hid (H33.out.below hbb)
  have hx4 := (hbb.block _ (Array.getElem?_eq_some_iff.1 HX3.out).1).trans HX3.out
  have Hb4 := Lib.hid (Hb3.out.trans (hbb.mono Hb3.out.size))
  have Hno := Lib.hid (show ¬ PrOk T n m lt lu lv s → R (.returned (.tuple #[.bool false, .int .i64 0])) w4 from fun h => hR.out _ _ ⟨.inr ⟨h, rfl⟩, Hb4.out⟩)
  have Hyes := Lib.hid (show PrOk T n m lt lu lv s → R (.returned (.tuple #[.bool true, .int .i64 0])) w4 from fun h => hR.out _ _ ⟨.inl ⟨h, rfl⟩, Hb4.out⟩)
  clear hR ho4 hb4 hbb hbn v0 v1 r0 r1 r2 r3 r4
  obtain ⟨r0, r1, r2, r3, r4⟩ := cells4 hx4
  clear hx4
  go_wp2_with fail
  go_loop [10, 58] (fun _ s58 => ∃ k : Nat, k ≤ n + m ∧ s58 = .int .i64 ((k : Nat) : Int) ∧ Hid (rngK (lu ++ lv) k)) (fun _ s58 => (n + m) - (intOf s58).toNat)
  case atStart => exact ⟨0, by omega, rfl, Lib.hid (fun i hi => by omega)⟩
  case round =>
    obtain ⟨k, hk, rfl, Hk⟩ := hrel
    by_cases hlt : k < n + m
    · obtain ⟨b4, o4, x, rfl, _, hx, q0⟩ := Hs4.out.at1 hlt
      have i1 : (k : Int) < ((n + m : Nat) : Int) := by omega
      have i1' : (k : Int) < (n : Int) + (m : Int) := by omega
      by_cases hxr : inFar x
      · have HR := Lib.hid (rngK_succ Hk.out hx hxr)
        have e1 : -2000000000000000000 ≤ x := hxr.1
        have e2 : x ≤ 2000000000000000000 := hxr.2
        clear hx hxr
        go_wp2
        exact ⟨⟨k + 1, by omega, by go_num, HR⟩, by simp [intOf]; omega⟩
      · have Hf := Lib.hid (Hno.out (not_prOk Hlu.out.symm Hlv.out.symm hlt hx hxr))
        by_cases e1 : x < -2000000000000000000
        · clear hx hxr
          go_wp2
          exact Hf.out
        · have e2 : 2000000000000000000 < x := by
            by_cases e2 : 2000000000000000000 < x
            · exact e2
            · exact absurd ⟨by omega, by omega⟩ hxr
          have e3 : -2000000000000000000 ≤ x := by omega
          clear hx hxr e1
          go_wp2
          exact Hf.out
    · obtain rfl : k = n + m := by omega
      have Hpo := Lib.hid (prOk_of (T := T) (s := s) Hlt.out.symm Hlu.out.symm Hlv.out.symm Hk.out)
      have hkk := Hk.out
      rw [show n + m = lu.length + lv.length by rw [← Hlu.out, ← Hlv.out]] at hkk
      have Hru := Lib.hid (show ∀ i, i < n → inFar (lu.getD i 0) from fun i hi => rng_left hkk (by rw [← Hlu.out]; exact hi))
      have Hrv := Lib.hid (show ∀ i, i < m → inFar (lv.getD i 0) from fun i hi => rng_right hkk (by rw [← Hlv.out]; exact hi))
      rw [Htt.out] at Hpo
      obtain ⟨ts, hts⟩ : ∃ ts, (t == s) = ts := ⟨_, rfl⟩
      have Hts := Lib.hid (show ts = true ↔ t = s from by rw [← hts]; simp)
      clear hkk hlt hk
      go_wp2_with fail
      go_loop [11, 12, 13, 76] (fun s11 _ _ s76 => ∃ (k : Nat) (pf : Bool), k ≤ m ∧ s76 = .int .i64 ((k : Nat) : Int) ∧ s11 = .bool pf ∧ Hid (pf = true ↔ (t = s ∧ prK lt lv k))) (fun _ _ _ s76 => m - (intOf s76).toNat)
      case atStart => exact ⟨0, ts, by omega, rfl, rfl, Lib.hid ⟨fun h => ⟨Hts.out.1 h, fun j hj => by omega⟩, fun h => Hts.out.2 h.1⟩⟩
      case round =>
        obtain ⟨k, pf, hk, rfl, rfl, Hpf⟩ := hrel
        by_cases hlt : k < m
        · obtain ⟨bv, ov, y, rfl, _, hy, qv⟩ := H34.out.at1 hlt
          have hgy : lv.getD k 0 = y := by rw [List.getD_eq_getElem?_getD, hy]; rfl
          have Hst := Lib.hid (prK_succ (lt := lt) hgy)
          have i1 : (k : Int) < (m : Int) := by omega
          clear hy hgy
          cases pf with
          | false =>
            have HP := Lib.hid (show (false = true ↔ (t = s ∧ prK lt lv (k + 1))) from ⟨(fun h => by cases h), fun h => Hpf.out.2 ⟨h.1, (Hst.out.1 h.2).1⟩⟩)
            go_wp2
            exact ⟨⟨k + 1, false, by omega, by go_num, rfl, HP⟩, by simp [intOf]; omega⟩
          | true =>
            by_cases hy0 : y ≤ 0
            · by_cases hyz : y = 0
              · have g1 : (y == 0) = true := by simp [hyz]
                have HP := Lib.hid (show (true = true ↔ (t = s ∧ prK lt lv (k + 1))) from ⟨fun _ => ⟨(Hpf.out.1 rfl).1, Hst.out.2 ⟨(Hpf.out.1 rfl).2, hy0, .inl hyz⟩⟩, fun _ => rfl⟩)
                clear hyz
                go_wp2
                exact ⟨⟨k + 1, true, by omega, by go_num, rfl, HP⟩, by simp [intOf]; omega⟩
              · have g1 : (y == 0) = false := by simpa using hyz
                obtain ⟨cb, hcb⟩ : ∃ cb, decide ((k : Int) ∈ lt) = cb := ⟨_, rfl⟩
                have HP := Lib.hid (show (cb = true ↔ (t = s ∧ prK lt lv (k + 1))) from ⟨fun h => ⟨(Hpf.out.1 rfl).1, Hst.out.2 ⟨(Hpf.out.1 rfl).2, hy0, .inr (by rw [h] at hcb; exact of_decide_eq_true hcb)⟩⟩, fun h => by
                  rw [← hcb]
                  exact decide_eq_true ((Hst.out.1 h.2).2.2.elim (fun h => absurd h hyz) id)⟩)
                have hC := contains_any A1 n c1 lt (k : Int) w4 H14.out (by omega)
                rw [hcb] at hC
                have HC := Lib.hid hC
                clear hyz hcb hC
                go_wp2_with fail
                refine HC.out.mono ?_
                rintro e w5 ⟨rfl, rfl⟩
                go_wp2
                exact ⟨⟨k + 1, cb, by omega, by go_num, rfl, HP⟩, by simp [intOf]; omega⟩
            · have hyp : 0 < y := by omega
              have HP := Lib.hid (show (false = true ↔ (t = s ∧ prK lt lv (k + 1))) from ⟨(fun h => by cases h), fun h => absurd (Hst.out.1 h.2).2.1 hy0⟩)
              clear hy0
              go_wp2
              exact ⟨⟨k + 1, false, by omega, by go_num, rfl, HP⟩, by simp [intOf]; omega⟩
        · obtain rfl : k = m := by omega
          have HB := Lib.hid (show pf = true ↔ (t = s ∧ prK lt lv k) from Hpf.out)
          clear hlt hk Hpf
          go_wp2_with fail
          go_loop [11, 14, 15, 16, 17, 18, 100] (fun s11 _ _ _ _ _ s100 => ∃ (i : Nat) (pg : Bool), i ≤ n ∧ s100 = .int .i64 ((i : Nat) : Int) ∧ s11 = .bool pg ∧ Hid (pg = true ↔ (pf = true ∧ ∀ a, a < i → ∀ b, b < k → prX T lt lu lv a b))) (fun _ _ _ _ _ _ s100 => n - (intOf s100).toNat)
          case atStart => exact ⟨0, pf, by omega, rfl, rfl, Lib.hid ⟨fun h => ⟨h, fun a ha => by omega⟩, fun h => h.1⟩⟩
          case round =>
            obtain ⟨i, pg, hi, rfl, rfl, Hpg⟩ := hrel
            by_cases hli : i < n
            · obtain ⟨bu, ou, x, rfl, _, hx, qu⟩ := H24.out.at1 hli
              have hgx : lu.getD i 0 = x := by rw [List.getD_eq_getElem?_getD, hx]; rfl
              have hrx := Hru.out i hli
              rw [hgx] at hrx
              have e1 : -2000000000000000000 ≤ x := hrx.1
              have e2 : x ≤ 2000000000000000000 := hrx.2
              have Hgx := Lib.hid hgx
              have i1 : (i : Int) < (n : Int) := by omega
              clear hx hgx hrx
              go_wp2_with fail
              go_loop [11, 16, 17, 18, 108] (fun s11 _ _ _ s108 => ∃ (j : Nat) (ph : Bool), j ≤ k ∧ s108 = .int .i64 ((j : Nat) : Int) ∧ s11 = .bool ph ∧ Hid (ph = true ↔ (pg = true ∧ ∀ b, b < j → prX T lt lu lv i b))) (fun _ _ _ _ s108 => k - (intOf s108).toNat)
              case atStart => exact ⟨0, pg, by omega, rfl, rfl, Lib.hid ⟨fun h => ⟨h, fun a ha => by omega⟩, fun h => h.1⟩⟩
              case round =>
                obtain ⟨j, ph, hj, rfl, rfl, Hph⟩ := hrel
                by_cases hlj : j < k
                · obtain ⟨b', o', Ai, ci, bi, oi, e5, _, _, t1, rfl, t2⟩ := table_at HT4.out Hok.out.rect (Below.refl _ _) hli hlj
                  simp only [Option.some.injEq, Addr.mk.injEq, and_true] at e5
                  obtain ⟨rfl, rfl⟩ := e5
                  obtain ⟨bv, ov, y, rfl, _, hy, qv⟩ := H34.out.at1 hlj
                  obtain ⟨bt, ot, z, rfl, _, hz, qt⟩ := H14.out.at1 hli
                  have hgy : lv.getD j 0 = y := by rw [List.getD_eq_getElem?_getD, hy]; rfl
                  have hgz : lt.getD i 0 = z := by rw [List.getD_eq_getElem?_getD, hz]; rfl
                  have hry := Hrv.out j hlj
                  rw [hgy] at hry
                  have e3 : -2000000000000000000 ≤ y := hry.1
                  have e4 : y ≤ 2000000000000000000 := hry.2
                  obtain ⟨v, hv⟩ : ∃ v, ct T i j = v := ⟨_, rfl⟩
                  rw [hv] at t2
                  have hvb := Hok.out.costOk i j (by rw [← HT4.out.1]; exact hli) hlj
                  have hzv : z = (j : Int) → 0 ≤ v := fun h => by
                    have h1 := (Htot.out.2 i (by rw [← HT4.out.1]; exact hli)).2.2.1
                    rw [hgz, h, Int.toNat_natCast, hv] at h1
                    exact h1
                  rw [hv] at hvb
                  obtain ⟨b1, hb1⟩ : ∃ b1, (v == -1) = b1 := ⟨_, rfl⟩
                  obtain ⟨b2, hb2⟩ : ∃ b2, decide (x + y ≤ v) = b2 := ⟨_, rfl⟩
                  obtain ⟨b3, hb3⟩ : ∃ b3, (z != (j : Int)) = b3 := ⟨_, rfl⟩
                  obtain ⟨b4, hb4⟩ : ∃ b4, (x + y == v) = b4 := ⟨_, rfl⟩
                  have HP := Lib.hid (show ((ph && (b1 || b2)) && (b3 || b4)) = true ↔ (pg = true ∧ ∀ b, b < j + 1 → prX T lt lu lv i b) from by
                    rw [all_succ, ← and_assoc, ← Hph.out, Bool.and_eq_true, Bool.and_eq_true, Bool.or_eq_true, Bool.or_eq_true, ← hb1, ← hb2, ← hb3, ← hb4]
                    unfold prX
                    rw [hv, Hgx.out, hgy, hgz]
                    simp only [beq_iff_eq, decide_eq_true_eq, bne_iff_ne, ne_eq]
                    constructor
                    · rintro ⟨⟨h1, h2⟩, h3⟩
                      exact ⟨h1, by omega, by omega⟩
                    · rintro ⟨h1, h2, h3⟩
                      exact ⟨⟨h1, by omega⟩, by omega⟩)
                  have i2 : (j : Int) < (k : Int) := by omega
                  clear hy hz hgy hgz hry hv hvb hzv
                  cases ph <;> cases b1 <;> cases b2 <;> cases b3 <;> cases b4
                  all_goals
                    go_wp2_with fail
                    exact ⟨⟨j + 1, _, by omega, by go_num, rfl, HP⟩, by simp [intOf]; omega⟩
                · obtain rfl : j = k := by omega
                  have HP := Lib.hid (show ph = true ↔ (pf = true ∧ ∀ a, a < i + 1 → ∀ b, b < j → prX T lt lu lv a b) from by
                    rw [all_succ, ← and_assoc, ← Hpg.out]
                    exact Hph.out)
                  clear hlj hj Hph
                  go_wp2
                  exact ⟨⟨i + 1, ph, by omega, by go_num, rfl, HP⟩, by simp [intOf]; omega⟩
            · obtain rfl : i = n := by omega
              have hiff : pg = true ↔ PrOk T i k lt lu lv s := by
                rw [Hpo.out, ← HB.out]
                exact Hpg.out
              cases pg with
              | true =>
                have Hf := Lib.hid (Hyes.out (hiff.1 rfl))
                clear hiff
                go_wp2
                exact Hf.out
              | false =>
                have Hf := Lib.hid (Hno.out (fun h => by have := hiff.2 h; cases this))
                clear hiff
                go_wp2
                exact Hf.out
end Go.Proofs.Ytjdhcdoekfikpaa
