/-
  Plain mathematics of trying all steps in their order: the cheapest of those tried so far, of several the least. No program in sight.
-/
import Derived.Test.YtgmphiklkllnlaaTOdo
namespace Go.Proofs.Ytgmphiklkllnlaa
def Rg.Acc (r : Rg) (ps : List Int → Prop) (b : List Int) (c : Int) : Prop :=
  (c = -1 ∧ ∀ st, r.Good st → ps st → False) ∨
  (0 ≤ c ∧ r.Good b ∧ ps b ∧ r.cost b = c ∧ ∀ st, r.Good st → ps st → c < r.cost st ∨ (c = r.cost st ∧ lexI b st))
theorem good_VL {r : Rg} {st : List Int} (h : r.Good st) : VL r.low r.high r.N st := ⟨h.len, h.rng⟩
theorem acc_start (r : Rg) {l : List Int} (h : l = List.replicate r.N r.low) (b : List Int) : r.Acc (fun p => slex p l) b (-1) := .inl ⟨rfl, fun st hst hp => by
  subst h
  exact hp.2 (lexI_lows (good_VL hst) hp.1)⟩
theorem slex_or {lo hi : Int} {n : Nat} {p l : List Int} (_hp : VL lo hi n p) (_hl : VL lo hi n l) (h : lexI p l) : slex p l ∨ p = l := by
  by_cases e : p = l
  · exact .inr e
  · exact .inl ⟨h, e⟩
theorem acc_no {r : Rg} {l b : List Int} {c : Int} (hl : VL r.low r.high r.N l) (h : r.Acc (fun p => slex p l) b c) (hn : ¬ r.Good l) : r.Acc (fun p => lexI p l) b c := by
  rcases h with ⟨h1, h2⟩ | ⟨h1, h2, h3, h4, h5⟩
  · refine .inl ⟨h1, fun st hst hp => ?_⟩
    rcases slex_or (good_VL hst) hl hp with k | k
    · exact h2 st hst k
    · subst k; exact hn hst
  · refine .inr ⟨h1, h2, h3.1, h4, fun st hst hp => ?_⟩
    rcases slex_or (good_VL hst) hl hp with k | k
    · exact h5 st hst k
    · subst k; exact absurd hst hn
theorem acc_keep {r : Rg} {l b : List Int} {c : Int} (hl : VL r.low r.high r.N l) (h : r.Acc (fun p => slex p l) b c) (hc : ¬ (c < 0 ∨ r.cost l < c)) : r.Acc (fun p => lexI p l) b c := by
  rcases h with ⟨h1, h2⟩ | ⟨h1, h2, h3, h4, h5⟩
  · exact absurd (.inl (by omega)) hc
  · refine .inr ⟨h1, h2, h3.1, h4, fun st hst hp => ?_⟩
    rcases slex_or (good_VL hst) hl hp with k | k
    · exact h5 st hst k
    · subst k
      by_cases e : c = r.cost st
      · exact .inr ⟨e, h3.1⟩
      · left; omega
theorem acc_take {r : Rg} (hcp : ∀ st, r.Good st → 0 ≤ r.cost st) {l b : List Int} {c : Int} (hl : VL r.low r.high r.N l) (h : r.Acc (fun p => slex p l) b c) (hg : r.Good l) (hc : c < 0 ∨ r.cost l < c) : r.Acc (fun p => lexI p l) l (r.cost l) := by
  refine .inr ⟨hcp l hg, hg, lexI.refl _, rfl, fun st hst hp => ?_⟩
  rcases slex_or (good_VL hst) hl hp with k | k
  · rcases h with ⟨h1, h2⟩ | ⟨h1, h2, h3, h4, h5⟩
    · exact absurd k (fun k => h2 st hst k)
    · left
      rcases h5 st hst k with t | ⟨t, _⟩ <;> omega
  · subst k; exact .inr ⟨rfl, lexI.refl _⟩
theorem acc_next {r : Rg} {l l' b : List Int} {c : Int} (hl : VL r.low r.high r.N l) (ho : odo r.low r.high l = some l') (h : r.Acc (fun p => lexI p l) b c) : r.Acc (fun p => slex p l') b c := by
  obtain ⟨k1, k2, k3⟩ := odo_some hl ho
  rcases h with ⟨h1, h2⟩ | ⟨h1, h2, h3, h4, h5⟩
  · exact .inl ⟨h1, fun st hst hp => h2 st hst (k3 st (good_VL hst) hp)⟩
  · refine .inr ⟨h1, h2, ⟨lexI.trans h3 k2.1, fun e => ?_⟩, h4, fun st hst hp => h5 st hst (k3 st (good_VL hst) hp)⟩
    subst e
    exact k2.2 (lexI.antisymm (by rw [hl.1, k1.1]) k2.1 h3)
theorem acc_end {r : Rg} {l b : List Int} {c : Int} (hl : VL r.low r.high r.N l) (ho : odo r.low r.high l = none) (h : r.Acc (fun p => lexI p l) b c) : (c = -1 ∧ ∀ st, ¬ r.Good st) ∨ (0 ≤ c ∧ r.Best b c) := by
  have k := odo_none hl ho
  rcases h with ⟨h1, h2⟩ | ⟨h1, h2, h3, h4, h5⟩
  · exact .inl ⟨h1, fun st hst => h2 st hst (k st (good_VL hst))⟩
  · exact .inr ⟨h1, h2, h4, fun st hst => h5 st hst (k st (good_VL hst))⟩
/-- The odometer half way: the first k as they were, the others begun anew. -/
def half (low : Int) (n : Nat) (l : List Int) (k : Nat) : List Int := l.take k ++ List.replicate (n - k) low
theorem half_len {low : Int} {n : Nat} {l : List Int} (hl : l.length = n) {k : Nat} (hk : k ≤ n) : (half low n l k).length = n := by
  unfold half; rw [List.length_append, List.length_take, List.length_replicate]; omega
theorem half_full {low : Int} {n : Nat} {l : List Int} (hl : l.length = n) : half low n l n = l := by
  unfold half; rw [Nat.sub_self, List.take_of_length_le (by omega)]; simp
theorem half_get {low : Int} {n : Nat} {l : List Int} (hl : l.length = n) {k : Nat} (hk : k < n) : (half low n l (k + 1)).getD k 0 = l.getD k 0 := by
  unfold half
  rw [List.getD_eq_getElem?_getD, List.getElem?_append_left (by rw [List.length_take]; omega), List.getElem?_take_of_lt (by omega), ← List.getD_eq_getElem?_getD]
theorem half_set {low v : Int} {n : Nat} {l : List Int} (hl : l.length = n) {k : Nat} (hk : k < n) : (half low n l (k + 1)).set k v = l.take k ++ v :: List.replicate (n - (k + 1)) low := by
  unfold half
  rw [List.take_succ_eq_append_getElem (by omega), List.append_assoc, List.singleton_append, List.set_append_right _ _ (by rw [List.length_take]; omega), List.length_take, show k - min k l.length = 0 by omega]
  rfl
theorem half_step {low : Int} {n : Nat} {l : List Int} (hl : l.length = n) {k : Nat} (hk : k < n) : (half low n l (k + 1)).set k low = half low n l k := by
  rw [half_set hl hk]
  unfold half
  rw [show n - k = (n - (k + 1)) + 1 by omega, List.replicate_succ]
theorem half_odo {low high : Int} {n : Nat} {l : List Int} (hl : l.length = n) {k : Nat} (hk : k < n) (hh : ∀ x ∈ l.drop (k + 1), x = high) (hx : l.getD k 0 < high) : odo low high l = some ((half low n l (k + 1)).set k (l.getD k 0 + 1)) := by
  rw [half_set hl hk]
  have e : l = l.take k ++ l.getD k 0 :: l.drop (k + 1) := by
    have h1 : l[k]? = some (l.getD k 0) := by rw [List.getD_eq_getElem?_getD, List.getElem?_eq_getElem (by omega)]; rfl
    obtain ⟨hk', h2⟩ := List.getElem?_eq_some_iff.1 h1
    rw [← h2, ← List.drop_eq_getElem_cons hk', List.take_append_drop]
  have h := odo_at (lo := low) (hi := high) (pre := l.take k) hh hx
  rw [← e] at h
  rw [h, List.length_drop, hl]
theorem drop_high {high : Int} {l : List Int} {k : Nat} (hk : k < l.length) (hh : ∀ x ∈ l.drop (k + 1), x = high) (hx : l.getD k 0 = high) : ∀ x ∈ l.drop k, x = high := by
  have h1 : l[k]? = some (l.getD k 0) := by rw [List.getD_eq_getElem?_getD, List.getElem?_eq_getElem hk]; rfl
  obtain ⟨hk', h2⟩ := List.getElem?_eq_some_iff.1 h1
  intro x hm
  rw [List.drop_eq_getElem_cons hk'] at hm
  rcases List.mem_cons.1 hm with rfl | hm
  · rw [h2]; exact hx
  · exact hh x hm
end Go.Proofs.Ytgmphiklkllnlaa
