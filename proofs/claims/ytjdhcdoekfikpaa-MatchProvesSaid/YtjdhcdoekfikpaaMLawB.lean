/-
  What the laws of match share: the table that a law cuts, one line for each call.
-/
import Derived.Test.YtjdhcdoekfikpaaMTab
namespace Go.Proofs.Ytjdhcdoekfikpaa
open Go.RowKit

/-- The law's own copy: the table T1 of L rows reads. -/
structure Tc (w0 w : World) (A : Option Addr) (L c : Nat) (T1 : List (List Int)) : Prop where
  rc : SlRc w A L T1
  l66 : L ≤ 66
  bel : Below w0.heap.size w0 w
theorem Tc.below {w0 w w1 : World} {A : Option Addr} {L c : Nat} {T1 : List (List Int)} (h : Tc w0 w A L c T1) (hb : Below w.heap.size w w1) : Tc w0 w1 A L c T1 := ⟨h.rc.below hb, h.l66, h.bel.trans (hb.mono h.bel.size)⟩
theorem Tc.qt {w0 w w1 : World} {A : Option Addr} {L c : Nat} {T1 : List (List Int)} (h : Tc w0 w A L c T1) (hq : Qt w w1) : Tc w0 w1 A L c T1 := h.below hq.below
theorem table_tc (A : Option Addr) (n c : Nat) (T : List (List Int)) (x y : Int) (R C : Nat) (hx : x = (R : Int)) (hy : y = (C : Int)) (hR : R ≤ 66) (hC : C ≤ 66) (w : World) (hT : SlRc w A n T) (hn : n ≤ 9223372036854775807) :
    Calls Try.prog 20 #[.slice A n c, .int .i64 x, .int .i64 y] w fun e w' => ∃ A' c', e = .returned (.slice A' (tabL R C T).length c') ∧ Tc w w' A' (tabL R C T).length c' (tabL R C T) := by
  subst hx hy
  refine (table_any A n c T R C hR hC w hT hn).mono ?_
  rintro e w' ⟨A', c', rfl, ht, hb⟩
  have hl : (tabL R C T).length = min R n := by rw [tabL_len, ← hT.1]
  rw [hl]
  exact ⟨A', c', rfl, ht.slrc, by omega, hb⟩
theorem Tc.n {w0 w : World} {A : Option Addr} {L c : Nat} {T1 : List (List Int)} (h : Tc w0 w A L c T1) : L = T1.length := h.rc.1
theorem most_noT (w0 : World) (A : Option Addr) (L c : Nat) (T : List (List Int)) (w : World) (h : Tc w0 w A L c T) (ht : tabB T = false) : Calls Try.prog 34 #[.slice A L c] w fun e w' => e = .returned (.tuple #[.int .i64 0, .int .i64 1]) ∧ Tc w0 w' A L c T :=
  (most_no A L c T w h.rc.slr (by have := h.l66; omega) h.rc.rowle ht).mono fun _ _ ⟨h1, h2⟩ => ⟨h1, h.below h2⟩
theorem most_yesT (w0 : World) (A : Option Addr) (L c m K : Nat) (T : List (List Int)) (w : World) (h : Tc w0 w A L c T) (hok : TOk T m) (hK : kuhn (gT T) m (List.range L) = K) : Calls Try.prog 34 #[.slice A L c] w fun e w' => e = .returned (.tuple #[.int .i64 (K : Int), .int .i64 0]) ∧ Tc w0 w' A L c T := by
  subst hK
  exact (most_yes A L c m T w h.rc.slr hok).mono fun _ _ ⟨h1, h2⟩ => ⟨h1, h.below h2⟩
theorem refCheck_noT (w0 : World) (A : Option Addr) (L c : Nat) (T : List (List Int)) (w : World) (h : Tc w0 w A L c T) (ht : tabB T = false) : Calls Try.prog 21 #[.slice A L c] w fun e w' => e = .returned (.int .i64 1) ∧ Tc w0 w' A L c T :=
  (refCheck_any A L c T w h.rc.slr (by have := h.l66; omega) h.rc.rowle).mono fun _ _ ⟨h1, h2⟩ => ⟨by rw [h1, if_neg (by rw [ht]; simp)], h.qt h2⟩
theorem refCheck_yesT (w0 : World) (A : Option Addr) (L c : Nat) (T : List (List Int)) (w : World) (h : Tc w0 w A L c T) (ht : tabB T = true) : Calls Try.prog 21 #[.slice A L c] w fun e w' => e = .returned (.int .i64 0) ∧ Tc w0 w' A L c T :=
  (refCheck_any A L c T w h.rc.slr (by have := h.l66; omega) h.rc.rowle).mono fun _ _ ⟨h1, h2⟩ => ⟨by rw [h1, if_pos ht], h.qt h2⟩
theorem best_noT (w0 : World) (A : Option Addr) (L c : Nat) (T : List (List Int)) (w : World) (h : Tc w0 w A L c T) (ht : tabB T = false) : Calls Try.prog 22 #[.slice A L c] w fun e w' => e = .returned (.tuple #[.agg #[.slice none 0 0, .slice none 0 0, .slice none 0 0, .int .i64 0], .int .i64 1]) ∧ Tc w0 w' A L c T :=
  (best_no A L c T w h.rc.slr (by have := h.l66; omega) h.rc.rowle ht).mono fun _ _ ⟨h1, h2⟩ => ⟨h1, h.below h2⟩
theorem best_noneT (w0 : World) (A : Option Addr) (L c m : Nat) (T : List (List Int)) (w : World) (h : Tc w0 w A L c T) (hok : TOk T m) (hno : kuhn (gT T) m (List.range L) ≠ L) : Calls Try.prog 22 #[.slice A L c] w fun e w' => e = .returned (.tuple #[.agg #[.slice none 0 0, .slice none 0 0, .slice none 0 0, .int .i64 0], .int .i64 6]) ∧ Tc w0 w' A L c T :=
  (best_none A L c m T w h.rc.slr hok hno).mono fun _ _ ⟨h1, h2⟩ => ⟨h1, h.below h2⟩
/-- A matching in memory. -/
structure Mm (w : World) (A1 A2 A3 : Option Addr) (n m c1 c2 c3 : Nat) (l : List Nat) (lu lv : List Int) : Prop where
  s1 : SlE intE 1 w A1 n (castL l)
  s2 : SlE intE 1 w A2 n lu
  s3 : SlE intE 1 w A3 m lv
  k1 : n ≤ c1
  k2 : n ≤ c2
  k3 : m ≤ c3
  d1 : c1 ≤ 9223372036854775807
  d2 : c2 ≤ 9223372036854775807
  d3 : c3 ≤ 9223372036854775807
theorem Mm.below {w w1 : World} {A1 A2 A3 : Option Addr} {n m c1 c2 c3 : Nat} {l : List Nat} {lu lv : List Int} (h : Mm w A1 A2 A3 n m c1 c2 c3 l lu lv) (hb : Below w.heap.size w w1) : Mm w1 A1 A2 A3 n m c1 c2 c3 l lu lv := ⟨h.s1.below hb, h.s2.below hb, h.s3.below hb, h.k1, h.k2, h.k3, h.d1, h.d2, h.d3⟩
theorem best_yesT (w0 : World) (A : Option Addr) (L c m : Nat) (T : List (List Int)) (w : World) (h : Tc w0 w A L c T) (hok : TOk T m) (hyes : kuhn (gT T) m (List.range L) = L) : Calls Try.prog 22 #[.slice A L c] w fun e w' => ∃ (A1 A2 A3 : Option Addr) (c1 c2 c3 : Nat) (l : List Nat) (s : Int) (lu lv : List Int),
    e = .returned (.tuple #[.agg #[.slice A1 L c1, .slice A2 L c2, .slice A3 m c3, .int .i64 s], .int .i64 0]) ∧ Bst T m l s lu lv ∧ Mm w' A1 A2 A3 L m c1 c2 c3 l lu lv ∧ Tc w0 w' A L c T :=
  (best_yes A L c m T w h.rc.slr hok hyes).mono fun _ _ ⟨A1, A2, A3, c1, c2, c3, l, s, lu, lv, h1, h2, h3, h4, h5, h6, h7, h8, h9, h10, h11, h12⟩ => ⟨A1, A2, A3, c1, c2, c3, l, s, lu, lv, h1, h2, ⟨h3, h4, h5, h6, h7, h8, h9, h10, h11⟩, h.below h12⟩
theorem hall_noT (w0 : World) (A : Option Addr) (L c : Nat) (T : List (List Int)) (w : World) (h : Tc w0 w A L c T) (ht : tabB T = false) : Calls Try.prog 28 #[.slice A L c] w fun e w' => e = .returned (.tuple #[.slice none 0 0, .int .i64 1]) ∧ Tc w0 w' A L c T :=
  (hall_no A L c T w h.rc.slr (by have := h.l66; omega) h.rc.rowle ht).mono fun _ _ ⟨h1, h2⟩ => ⟨h1, h.below h2⟩
theorem hall_noneT (w0 : World) (A : Option Addr) (L c m : Nat) (T : List (List Int)) (w : World) (h : Tc w0 w A L c T) (hok : TOk T m) (hk : kuhn (gT T) m (List.range L) = L) : Calls Try.prog 28 #[.slice A L c] w fun e w' => e = .returned (.tuple #[.slice none 0 0, .int .i64 6]) ∧ Tc w0 w' A L c T :=
  (hall_none A L c m T w h.rc.slr hok hk).mono fun _ _ ⟨h1, h2⟩ => ⟨h1, h.below h2⟩
theorem hall_someT (w0 : World) (A : Option Addr) (L c m : Nat) (T : List (List Int)) (w : World) (h : Tc w0 w A L c T) (hok : TOk T m) (hk : kuhn (gT T) m (List.range L) ≠ L) (S : List Nat) (hS : hallF (gT T) m (List.range L) (List.range L) = S) : Calls Try.prog 28 #[.slice A L c] w fun e w' =>
    ∃ A' c', e = .returned (.tuple #[.slice A' S.length c', .int .i64 0]) ∧ SlE intE 1 w' A' S.length (castL S) ∧ S.length ≤ c' ∧ c' ≤ 9223372036854775807 ∧ Tc w0 w' A L c T :=
  (hall_some A L c m T w h.rc.slr hok hk S hS).mono fun _ _ ⟨⟨A', c', h1, h2, h3, h4⟩, h5⟩ => ⟨A', c', h1, h2, h3, h4, h.below h5⟩
theorem lives_T (w0 : World) (A : Option Addr) (L c : Nat) (T : List (List Int)) (w : World) (h : Tc w0 w A L c T) : Calls Try.prog 24 #[] w fun e w' => e = .returned (.bool true) ∧ Tc w0 w' A L c T :=
  (lives_any w).mono fun _ _ ⟨h1, h2⟩ => ⟨h1, h.below h2⟩
theorem refAll_T (w0 : World) (A : Option Addr) (L c : Nat) (T : List (List Int)) (w : World) (h : Tc w0 w A L c T) (hL : L ≤ 64) : Calls Try.prog 30 #[.slice A L c] w fun e w' => ∃ A' c', e = .returned (.slice A' L c') ∧ SlE intE 1 w' A' L (castL (List.range L)) ∧ Tc w0 w' A L c T :=
  (refAll_any A L c hL w).mono fun _ _ ⟨A', c', h1, h2, h3⟩ => ⟨A', c', h1, SlE.of_own h2 (by rw [castL_len, List.length_range]), h.below h3⟩
theorem refMost_T (w0 : World) (A : Option Addr) (L c m K : Nat) (T : List (List Int)) (A2 : Option Addr) (L2 c2 : Nat) (rows : List Nat) (w : World) (h : Tc w0 w A L c T) (hok : TOk T m) (hA : SlE intE 1 w A2 L2 (castL rows)) (hL : L2 ≤ 1000) (hrows : ∀ r ∈ rows, r < L) (hK : kuhn (gT T) m rows = K) :
    Calls Try.prog 29 #[.slice A L c, .slice A2 L2 c2] w fun e w' => e = .returned (.int .i64 (K : Int)) ∧ Below w.heap.size w w' ∧ Tc w0 w' A L c T := by
  subst hK
  exact (refMost_any A L c m T A2 L2 c2 rows w h.rc.slr hok hA hL hrows).mono fun _ _ ⟨h1, h2⟩ => ⟨h1, h2, h.below h2⟩
theorem tok_of {T : List (List Int)} (h : tabB T = true) : ∃ m, TOk T m := ⟨wid T, tabB_iff.1 h⟩
end Go.Proofs.Ytjdhcdoekfikpaa
