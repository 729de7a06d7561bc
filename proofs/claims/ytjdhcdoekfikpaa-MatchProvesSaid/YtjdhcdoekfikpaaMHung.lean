/-
  Plain mathematics of the search along shortest ways (Kuhn, Munkres): its steps as functions on lists, and what each leaves. No program in sight.
-/
import Derived.Test.YtjdhcdoekfikpaaMAsg
namespace Go.Proofs.Ytjdhcdoekfikpaa

theorem or_down3 {P : Prop} {j k : Nat} (h : j = 0 ∨ k + 1 < j ∨ P) : j = 0 ∨ k < j ∨ P := by
  rcases h with h | h | h
  · exact .inl h
  · exact .inr (.inl (by omega))
  · exact .inr (.inr h)
theorem or_down2 {P : Prop} {j k : Nat} (h : k + 1 ≤ j ∨ P) : k ≤ j ∨ P := by
  rcases h with h | h
  · exact .inl (by omega)
  · exact .inr h
/-! ### near -/
def nearStep (d : Nat → Int) (used : List Bool) (fr j : Nat) (s : List Int × List Nat × Nat) : List Int × List Nat × Nat :=
  if used.getD j false = true then s
  else if d j < s.1.getD j 0 then (s.1.set j (d j), s.2.1.set j fr, if s.2.2 = 0 ∨ d j < (s.1.set j (d j)).getD s.2.2 0 then j else s.2.2)
  else (s.1, s.2.1, if s.2.2 = 0 ∨ s.1.getD j 0 < s.1.getD s.2.2 0 then j else s.2.2)
def nearF (d : Nat → Int) (used : List Bool) (fr : Nat) (least : List Int) (way : List Nat) : Nat → List Int × List Nat × Nat
  | 0 => (least, way, 0)
  | k + 1 => nearStep d used fr (k + 1) (nearF d used fr least way k)
/-- What near leaves, of the columns 1 to k. -/
structure NearP (d : Nat → Int) (used : List Bool) (fr : Nat) (least : List Int) (way : List Nat) (k : Nat) (s : List Int × List Nat × Nat) : Prop where
  l1 : s.1.length = least.length
  l2 : s.2.1.length = way.length
  low : ∀ j, 1 ≤ j → j ≤ k → used.getD j false = false → d j < least.getD j 0 → s.1.getD j 0 = d j ∧ s.2.1.getD j 0 = fr
  high : ∀ j, 1 ≤ j → j ≤ k → used.getD j false = false → ¬ d j < least.getD j 0 → s.1.getD j 0 = least.getD j 0 ∧ s.2.1.getD j 0 = way.getD j 0
  same : ∀ j, (j = 0 ∨ k < j ∨ used.getD j false = true) → s.1.getD j 0 = least.getD j 0 ∧ s.2.1.getD j 0 = way.getD j 0
  none : s.2.2 = 0 → ∀ j, 1 ≤ j → j ≤ k → used.getD j false = true
  some : s.2.2 ≠ 0 → s.2.2 ≤ k ∧ used.getD s.2.2 false = false ∧ ∀ j, 1 ≤ j → j ≤ k → used.getD j false = false → s.1.getD s.2.2 0 ≤ s.1.getD j 0
theorem near_ok (d : Nat → Int) (used : List Bool) (fr : Nat) (least : List Int) (way : List Nat) : ∀ k, k < least.length → k < way.length → NearP d used fr least way k (nearF d used fr least way k) := by
  intro k
  induction k with
  | zero => intro _ _; exact ⟨rfl, rfl, fun j h1 h2 => by omega, fun j h1 h2 => by omega, fun _ _ => ⟨rfl, rfl⟩, fun _ j h1 h2 => by omega, fun h => absurd rfl h⟩
  | succ k ih =>
    intro hk1 hk2
    have h := ih (by omega) (by omega)
    rw [nearF]
    generalize nearF d used fr least way k = s at h
    have hs := h.same (k + 1) (.inr (.inl (by omega)))
    unfold nearStep
    by_cases hu : used.getD (k + 1) false = true
    · rw [if_pos hu]
      refine ⟨h.l1, h.l2, fun j h1 h2 h3 h4 => ?_, fun j h1 h2 h3 h4 => ?_, fun j hj => ?_, fun h0 j h1 h2 => ?_, fun h0 => ?_⟩
      · exact h.low j h1 (by rcases Nat.lt_or_eq_of_le h2 with h' | h'; omega; subst h'; rw [hu] at h3; cases h3) h3 h4
      · exact h.high j h1 (by rcases Nat.lt_or_eq_of_le h2 with h' | h'; omega; subst h'; rw [hu] at h3; cases h3) h3 h4
      · by_cases e : j = k + 1
        · subst e; exact hs
        · exact h.same j (or_down3 hj)
      · by_cases e : j = k + 1
        · subst e; exact hu
        · exact h.none h0 j h1 (by omega)
      · obtain ⟨a1, a2, a3⟩ := h.some h0
        refine ⟨by omega, a2, fun j h1 h2 h3 => ?_⟩
        by_cases e : j = k + 1
        · subst e; rw [hu] at h3; cases h3
        · exact a3 j h1 (by omega) h3
    · have hu' : used.getD (k + 1) false = false := by simpa using hu
      rw [if_neg hu]
      by_cases hd : d (k + 1) < s.1.getD (k + 1) 0
      · rw [if_pos hd]
        have l1 := h.l1
        have l2 := h.l2
        have e1 : (s.1.set (k + 1) (d (k + 1))).getD (k + 1) 0 = d (k + 1) := getD_set_eq _ _ _ _ (by omega)
        have e2 : (s.2.1.set (k + 1) fr).getD (k + 1) 0 = fr := getD_set_eq _ _ _ _ (by omega)
        have n1 : ∀ j, j ≠ k + 1 → (s.1.set (k + 1) (d (k + 1))).getD j 0 = s.1.getD j 0 := fun j hj => getD_set_ne _ _ _ _ _ (fun e => hj e.symm)
        have n2 : ∀ j, j ≠ k + 1 → (s.2.1.set (k + 1) fr).getD j 0 = s.2.1.getD j 0 := fun j hj => getD_set_ne _ _ _ _ _ (fun e => hj e.symm)
        refine ⟨by simpa using l1, by simpa using l2, fun j h1 h2 h3 h4 => ?_, fun j h1 h2 h3 h4 => ?_, fun j hj => ?_, fun h0 => ?_, fun h0 => ?_⟩
        · by_cases e : j = k + 1
          · subst e; exact ⟨e1, e2⟩
          · have := h.low j h1 (by omega) h3 h4
            exact ⟨(n1 j e).trans this.1, (n2 j e).trans this.2⟩
        · by_cases e : j = k + 1
          · subst e; rw [hs.1] at hd; exact absurd hd h4
          · have := h.high j h1 (by omega) h3 h4
            exact ⟨(n1 j e).trans this.1, (n2 j e).trans this.2⟩
        · have e : j ≠ k + 1 := fun e => by
            subst e
            rcases hj with hj | hj | hj
            · omega
            · omega
            · exact hu hj
          have := h.same j (or_down3 hj)
          exact ⟨(n1 j e).trans this.1, (n2 j e).trans this.2⟩
        · exfalso
          revert h0
          show (if s.2.2 = 0 ∨ _ then k + 1 else s.2.2) = 0 → False
          by_cases hc : s.2.2 = 0 ∨ d (k + 1) < (s.1.set (k + 1) (d (k + 1))).getD s.2.2 0
          · rw [if_pos hc]; omega
          · rw [if_neg hc]; exact fun h0 => hc (.inl h0)
        · show (if s.2.2 = 0 ∨ _ then k + 1 else s.2.2) ≤ k + 1 ∧ used.getD (if s.2.2 = 0 ∨ _ then k + 1 else s.2.2) false = false ∧ ∀ j, 1 ≤ j → j ≤ k + 1 → used.getD j false = false → (s.1.set (k + 1) (d (k + 1))).getD (if s.2.2 = 0 ∨ _ then k + 1 else s.2.2) 0 ≤ (s.1.set (k + 1) (d (k + 1))).getD j 0
          by_cases hc : s.2.2 = 0 ∨ d (k + 1) < (s.1.set (k + 1) (d (k + 1))).getD s.2.2 0
          · rw [if_pos hc]
            refine ⟨Nat.le_refl _, hu', fun j h1 h2 h3 => ?_⟩
            rw [e1]
            by_cases e : j = k + 1
            · subst e; rw [e1]; exact Int.le_refl _
            · rw [n1 j e]
              rcases hc with hc | hc
              · have := h.none hc j h1 (by omega)
                rw [this] at h3; cases h3
              · by_cases h0' : s.2.2 = 0
                · have := h.none h0' j h1 (by omega)
                  rw [this] at h3; cases h3
                · obtain ⟨a1, a2, a3⟩ := h.some h0'
                  rw [n1 s.2.2 (by omega)] at hc
                  have := a3 j h1 (by omega) h3
                  omega
          · rw [if_neg hc]
            have h0' : s.2.2 ≠ 0 := fun h => hc (.inl h)
            obtain ⟨a1, a2, a3⟩ := h.some h0'
            refine ⟨by omega, a2, fun j h1 h2 h3 => ?_⟩
            rw [n1 s.2.2 (by omega)]
            by_cases e : j = k + 1
            · subst e; rw [e1]
              have : ¬ d (k + 1) < (s.1.set (k + 1) (d (k + 1))).getD s.2.2 0 := fun h => hc (.inr h)
              rw [n1 s.2.2 (by omega)] at this
              omega
            · rw [n1 j e]; exact a3 j h1 (by omega) h3
      · rw [if_neg hd]
        refine ⟨h.l1, h.l2, fun j h1 h2 h3 h4 => ?_, fun j h1 h2 h3 h4 => ?_, fun j hj => ?_, fun h0 => ?_, fun h0 => ?_⟩
        · by_cases e : j = k + 1
          · subst e; rw [hs.1] at hd; exact absurd h4 hd
          · exact h.low j h1 (by omega) h3 h4
        · by_cases e : j = k + 1
          · subst e; exact hs
          · exact h.high j h1 (by omega) h3 h4
        · have e : j ≠ k + 1 := fun e => by
            subst e
            rcases hj with hj | hj | hj
            · omega
            · omega
            · exact hu hj
          exact h.same j (or_down3 hj)
        · exfalso
          revert h0
          show (if s.2.2 = 0 ∨ _ then k + 1 else s.2.2) = 0 → False
          by_cases hc : s.2.2 = 0 ∨ s.1.getD (k + 1) 0 < s.1.getD s.2.2 0
          · rw [if_pos hc]; omega
          · rw [if_neg hc]; exact fun h0 => hc (.inl h0)
        · show (if s.2.2 = 0 ∨ _ then k + 1 else s.2.2) ≤ k + 1 ∧ used.getD (if s.2.2 = 0 ∨ _ then k + 1 else s.2.2) false = false ∧ ∀ j, 1 ≤ j → j ≤ k + 1 → used.getD j false = false → s.1.getD (if s.2.2 = 0 ∨ _ then k + 1 else s.2.2) 0 ≤ s.1.getD j 0
          by_cases hc : s.2.2 = 0 ∨ s.1.getD (k + 1) 0 < s.1.getD s.2.2 0
          · rw [if_pos hc]
            refine ⟨Nat.le_refl _, hu', fun j h1 h2 h3 => ?_⟩
            by_cases e : j = k + 1
            · subst e; exact Int.le_refl _
            · by_cases h0' : s.2.2 = 0
              · have := h.none h0' j h1 (by omega)
                rw [this] at h3; cases h3
              · have := (h.some h0').2.2 j h1 (by omega) h3
                have := hc.resolve_left h0'
                omega
          · rw [if_neg hc]
            have h0' : s.2.2 ≠ 0 := fun h => hc (.inl h)
            obtain ⟨a1, a2, a3⟩ := h.some h0'
            refine ⟨by omega, a2, fun j h1 h2 h3 => ?_⟩
            by_cases e : j = k + 1
            · subst e
              have : ¬ s.1.getD (k + 1) 0 < s.1.getD s.2.2 0 := fun h => hc (.inr h)
              omega
            · exact a3 j h1 (by omega) h3

/-! ### the shift of prices -/
abbrev Shs := List Int × List Int × List Int
def shiftStep (b : Int) (used : List Bool) (p : List Nat) (j : Nat) (s : Shs) : Shs :=
  if used.getD j false = true then (s.1.set (p.getD j 0) (s.1.getD (p.getD j 0) 0 + b), s.2.1.set j (s.2.1.getD j 0 - b), s.2.2) else (s.1, s.2.1, s.2.2.set j (s.2.2.getD j 0 - b))
def shiftF (b : Int) (used : List Bool) (p : List Nat) (s : Shs) : Nat → Shs
  | 0 => s
  | k + 1 => shiftStep b used p k (shiftF b used p s k)
/-- What the shift leaves, of the columns below k. -/
structure ShiftP (b : Int) (used : List Bool) (p : List Nat) (s : Shs) (k : Nat) (t : Shs) : Prop where
  l1 : t.1.length = s.1.length
  l2 : t.2.1.length = s.2.1.length
  l3 : t.2.2.length = s.2.2.length
  up : ∀ j, j < k → used.getD j false = true → t.1.getD (p.getD j 0) 0 = s.1.getD (p.getD j 0) 0 + b
  flat : ∀ i, (∀ j, j < k → used.getD j false = true → p.getD j 0 ≠ i) → t.1.getD i 0 = s.1.getD i 0
  down : ∀ j, j < k → used.getD j false = true → t.2.1.getD j 0 = s.2.1.getD j 0 - b
  keep : ∀ j, (k ≤ j ∨ used.getD j false = false) → t.2.1.getD j 0 = s.2.1.getD j 0
  less : ∀ j, j < k → used.getD j false = false → t.2.2.getD j 0 = s.2.2.getD j 0 - b
  hold : ∀ j, (k ≤ j ∨ used.getD j false = true) → t.2.2.getD j 0 = s.2.2.getD j 0
theorem shift_ok (b : Int) (used : List Bool) (p : List Nat) (s : Shs) : ∀ k, k ≤ s.2.1.length → k ≤ s.2.2.length → (∀ j, j < k → p.getD j 0 < s.1.length) →
    (∀ i j, i < k → j < k → used.getD i false = true → used.getD j false = true → p.getD i 0 = p.getD j 0 → i = j) → ShiftP b used p s k (shiftF b used p s k) := by
  intro k
  induction k with
  | zero => intro _ _ _ _; exact ⟨rfl, rfl, rfl, fun j h => by omega, fun _ _ => rfl, fun j h => by omega, fun _ _ => rfl, fun j h => by omega, fun _ _ => rfl⟩
  | succ k ih =>
    intro hk1 hk2 hp hinj
    have h := ih (by omega) (by omega) (fun j hj => hp j (by omega)) (fun i j hi hj => hinj i j (by omega) (by omega))
    rw [shiftF]
    generalize shiftF b used p s k = t at h
    have l1 := h.l1
    have l2 := h.l2
    have l3 := h.l3
    unfold shiftStep
    by_cases hu : used.getD k false = true
    · rw [if_pos hu]
      have hpk := hp k (by omega)
      have hflat := h.flat (p.getD k 0) (fun j hj hj' e => by have := hinj j k (by omega) (by omega) hj' hu e; omega)
      refine ⟨by simpa using l1, by simpa using l2, l3, fun j hj hju => ?_, fun i hi => ?_, fun j hj hju => ?_, fun j hj => ?_, fun j hj hju => ?_, fun j hj => ?_⟩
      · by_cases e : j = k
        · subst e; rw [getD_set_eq _ _ _ _ (by omega), hflat]
        · rw [getD_set_ne _ _ _ _ _ (fun e' => e (hinj j k (by omega) (by omega) hju hu e'.symm))]
          exact h.up j (by omega) hju
      · rw [getD_set_ne _ _ _ _ _ (hi k (by omega) hu)]
        exact h.flat i (fun j hj => hi j (by omega))
      · by_cases e : j = k
        · subst e; rw [getD_set_eq _ _ _ _ (by omega), h.keep j (.inl (Nat.le_refl _))]
        · rw [getD_set_ne _ _ _ _ _ (fun e' => e e'.symm)]; exact h.down j (by omega) hju
      · have e : k ≠ j := fun e => by
          subst e
          rcases hj with hj | hj
          · omega
          · rw [hu] at hj; cases hj
        rw [getD_set_ne _ _ _ _ _ e]; exact h.keep j (or_down2 hj)
      · have e : j ≠ k := fun e => by subst e; rw [hu] at hju; cases hju
        exact h.less j (by omega) hju
      · by_cases e : j = k
        · subst e; exact h.hold j (.inl (Nat.le_refl _))
        · exact h.hold j (or_down2 hj)
    · have hu' : used.getD k false = false := by simpa using hu
      rw [if_neg hu]
      have ne : ∀ j, j < k + 1 → used.getD j false = true → j < k := fun j hj hju => by
        rcases Nat.lt_or_eq_of_le (Nat.lt_succ_iff.1 hj) with h' | h'
        · exact h'
        · subst h'; exact absurd hju hu
      refine ⟨l1, l2, by simpa using l3, fun j hj hju => h.up j (ne j hj hju) hju, fun i hi => h.flat i (fun j hj => hi j (by omega)), fun j hj hju => h.down j (ne j hj hju) hju, fun j hj => ?_, fun j hj hju => ?_, fun j hj => ?_⟩
      · by_cases e : j = k
        · subst e; exact h.keep j (.inl (Nat.le_refl _))
        · exact h.keep j (or_down2 hj)
      · by_cases e : j = k
        · subst e; rw [getD_set_eq _ _ _ _ (by omega), h.hold j (.inl (Nat.le_refl _))]
        · rw [getD_set_ne _ _ _ _ _ (fun e' => e e'.symm)]; exact h.less j (by omega) hju
      · have e : k ≠ j := fun e => by
          subst e
          rcases hj with hj | hj
          · omega
          · exact hu hj
        rw [getD_set_ne _ _ _ _ _ e]; exact h.hold j (or_down2 hj)
end Go.Proofs.Ytjdhcdoekfikpaa
