/-
  Plain mathematics: finite sums of integers. No program in sight.
-/
namespace Go.Proofs.Ytjdhcdoekfikpaa
def sumN (f : Nat → Int) : Nat → Int
  | 0 => 0
  | n + 1 => sumN f n + f n
theorem sumN_congr {f g : Nat → Int} : ∀ m, (∀ i, i < m → f i = g i) → sumN f m = sumN g m
  | 0, _ => rfl
  | m + 1, h => by rw [sumN, sumN, sumN_congr m (fun i hi => h i (by omega)), h m (by omega)]
theorem sumN_add (f g : Nat → Int) : ∀ m, sumN (fun i => f i + g i) m = sumN f m + sumN g m
  | 0 => rfl
  | m + 1 => by rw [sumN, sumN, sumN, sumN_add f g m]; omega
theorem sumN_zero : ∀ m, sumN (fun _ => 0) m = 0
  | 0 => rfl
  | m + 1 => by rw [sumN, sumN_zero m]; rfl
theorem sumN_one (j : Nat) (x : Int) : ∀ m, sumN (fun i => if i = j then x else 0) m = if j < m then x else 0
  | 0 => by simp [sumN]
  | m + 1 => by
    rw [sumN, sumN_one j x m]
    by_cases h1 : j < m
    · rw [if_pos h1, if_neg (by omega), if_pos (by omega)]; omega
    · by_cases h2 : m = j
      · subst h2; rw [if_neg h1, if_pos rfl, if_pos (by omega)]; omega
      · rw [if_neg h1, if_neg h2, if_neg (by omega)]; rfl
theorem sumN_le {f g : Nat → Int} : ∀ m, (∀ i, i < m → f i ≤ g i) → sumN f m ≤ sumN g m
  | 0, _ => Int.le_refl _
  | m + 1, h => by
    have := sumN_le m (fun i hi => h i (by omega))
    have := h m (by omega)
    rw [sumN, sumN]; omega
theorem sumN_eq_of_le {f g : Nat → Int} : ∀ m, (∀ i, i < m → f i ≤ g i) → sumN f m = sumN g m → ∀ i, i < m → f i = g i
  | 0, _, _, i, hi => by omega
  | m + 1, h, e, i, hi => by
    have h1 := sumN_le m (fun i hi => h i (by omega))
    have h2 := h m (by omega)
    rw [sumN, sumN] at e
    by_cases hm : i = m
    · subst hm; omega
    · exact sumN_eq_of_le m (fun i hi => h i (by omega)) (by omega) i (by omega)
theorem sumN_bd {f : Nat → Int} {M : Int} : ∀ m : Nat, (∀ i, i < m → 0 ≤ f i ∧ f i ≤ M) → 0 ≤ sumN f m ∧ sumN f m ≤ M * m
  | 0, _ => by simp [sumN]
  | m + 1, h => by
    have h1 := sumN_bd m (fun i hi => h i (by omega))
    have h2 := h m (by omega)
    have e : M * ((m + 1 : Nat) : Int) = M * m + M := by rw [Int.natCast_add, Int.mul_add]; simp
    rw [sumN, e]; omega
/-- A sum over a list without repetitions, and over the rest. -/
theorem sumN_list (f : Nat → Int) (m : Nat) : ∀ l : List Nat, l.Nodup → (∀ j ∈ l, j < m) → sumN f m = (l.map f).sum + sumN (fun j => if j ∈ l then 0 else f j) m := by
  intro l
  induction l with
  | nil => intro _ _; simp
  | cons a r ih =>
    intro hn hm
    have ha := List.nodup_cons.1 hn
    rw [ih ha.2 (fun j hj => hm j (by simp [hj]))]
    have e : sumN (fun j => if j ∈ r then 0 else f j) m = sumN (fun j => (if j ∈ a :: r then 0 else f j) + if j = a then f a else 0) m := by
      refine sumN_congr m (fun j _ => ?_)
      by_cases h1 : j = a
      · subst h1; simp [ha.1]
      · simp [h1]
    rw [e, sumN_add, sumN_one, if_pos (hm a (by simp)), List.map_cons, List.sum_cons]
    omega
theorem sumN_range (f : Nat → Int) (m : Nat) : sumN f m = ((List.range m).map f).sum := by
  rw [sumN_list f m (List.range m) List.nodup_range (fun j hj => List.mem_range.1 hj), sumN_congr (g := fun _ => 0) m (fun i hi => by rw [if_pos (List.mem_range.2 hi)]), sumN_zero]
  omega
theorem sumN_map (f : Nat → Int) (l : List Nat) : (l.map f).sum = sumN (fun i => f (l.getD i 0)) l.length := by
  rw [sumN_range]
  congr 1
  apply List.ext_getElem
  · simp
  · intro i h1 h2
    have : i < l.length := by simpa using h1
    simp [this]
end Go.Proofs.Ytjdhcdoekfikpaa
