/-
  Plain mathematics of assignments: cost, the cheapest and lexicographically least one, prices that prove it. No program in sight.
-/
import Derived.Test.YtjdhcdoekfikpaaMHall
import Derived.Test.YtjdhcdoekfikpaaMSum
namespace Go.Proofs.Ytjdhcdoekfikpaa

def ct (T : List (List Int)) (i j : Nat) : Int := (T.getD i []).getD j (-1)
def gT (T : List (List Int)) (i j : Nat) : Bool := decide (0 ≤ ct T i j)
/-- An assignment: every row a column that it may have, no column twice. -/
structure Asg (T : List (List Int)) (m : Nat) (to : List Nat) : Prop where
  len : to.length = T.length
  nd : to.Nodup
  ok : ∀ i, i < T.length → to.getD i 0 < m ∧ 0 ≤ ct T i (to.getD i 0)
def costA (T : List (List Int)) (to : List Nat) : Int := sumN (fun i => ct T i (to.getD i 0)) T.length
/-- Lexicographically at most. -/
def lexLe (a b : List Nat) : Prop := a = b ∨ ∃ i, i < a.length ∧ i < b.length ∧ a.take i = b.take i ∧ a.getD i 0 < b.getD i 0
theorem lexLe.refl (a : List Nat) : lexLe a a := .inl rfl
theorem take_getD {a b : List Nat} {i j : Nat} (h : a.take i = b.take i) (hj : j < i) : a.getD j 0 = b.getD j 0 := by
  have h1 : (a.take i)[j]? = (b.take i)[j]? := by rw [h]
  rw [List.getElem?_take_of_lt hj, List.getElem?_take_of_lt hj] at h1
  rw [List.getD_eq_getElem?_getD, List.getD_eq_getElem?_getD, h1]
theorem lexLe.antisymm {a b : List Nat} (h1 : lexLe a b) (h2 : lexLe b a) : a = b := by
  rcases h1 with h1 | ⟨i, a1, a2, a3, a4⟩
  · exact h1
  · rcases h2 with h2 | ⟨j, b1, b2, b3, b4⟩
    · exact h2.symm
    · exfalso
      rcases Nat.lt_trichotomy i j with h | h | h
      · have := take_getD b3 h; omega
      · subst h; omega
      · have := take_getD a3 h; omega
/-- THE CHEAPEST ASSIGNMENT, of several the lexicographically least one. -/
structure IsBest (T : List (List Int)) (m : Nat) (to : List Nat) (c : Int) : Prop where
  asg : Asg T m to
  cost : costA T to = c
  least : ∀ to', Asg T m to' → c < costA T to' ∨ (c = costA T to' ∧ lexLe to to')
theorem IsBest.unique {T : List (List Int)} {m : Nat} {a b : List Nat} {c d : Int} (h1 : IsBest T m a c) (h2 : IsBest T m b d) : a = b ∧ c = d := by
  have e1 := h1.least b h2.asg
  have e2 := h2.least a h1.asg
  rw [h2.cost] at e1
  rw [h1.cost] at e2
  rcases e1 with e1 | ⟨e1, l1⟩ <;> rcases e2 with e2 | ⟨e2, l2⟩
  · omega
  · omega
  · omega
  · exact ⟨l1.antisymm l2, e1⟩
theorem IsBest.le {T : List (List Int)} {m : Nat} {a b : List Nat} {c : Int} (h : IsBest T m a c) (hb : Asg T m b) : c ≤ costA T b := by
  rcases h.least b hb with h | ⟨h, _⟩ <;> omega
theorem nodup_inj {l : List Nat} (h : l.Nodup) {i j : Nat} (hi : i < l.length) (hj : j < l.length) (e : l[i] = l[j]) : i = j := by
  have hp := List.pairwise_iff_getElem.1 h
  rcases Nat.lt_trichotomy i j with hlt | heq | hlt
  · exact absurd e (hp i j hi hj hlt)
  · exact heq
  · exact absurd e.symm (hp j i hj hi hlt)
/-- There is an assignment exactly if all rows can have columns at the same time. -/
theorem asg_iff (T : List (List Int)) (m : Nat) : (∃ to, Asg T m to) ↔ kuhn (gT T) m (List.range T.length) = T.length := by
  have hk := kuhn_full (gT T) m (List.range T.length) (nodup_range _)
  rw [List.length_range] at hk
  rw [hk]
  constructor
  · rintro ⟨to, h⟩
    refine ⟨fun i => to.getD i 0, fun r hr => ?_⟩
    have hr := List.mem_range.1 hr
    refine ⟨(h.ok r hr).1, decide_eq_true (h.ok r hr).2, fun q hq e => ?_⟩
    have hq := List.mem_range.1 hq
    have hl := h.len
    replace e : to.getD q 0 = to.getD r 0 := e
    rw [getD_get _ _ _ (by omega), getD_get _ _ _ (by omega)] at e
    exact nodup_inj h.nd _ _ e
  · rintro ⟨f, hf⟩
    refine ⟨(List.range T.length).map f, by simp, nodup_map (nodup_range _) (fun x hx y hy e => (hf y hy).2.2 x hx e), fun i hi => ?_⟩
    have := hf i (List.mem_range.2 hi)
    have e : ((List.range T.length).map f).getD i 0 = f i := by rw [getD_get _ _ _ (by simpa using hi)]; simp
    rw [e]
    exact ⟨this.1, by simpa [gT] using this.2.1⟩

/-! ### prices -/
/-- Prices that are allowed: none of a column above 0, and never above a cost. -/
structure Duals (T : List (List Int)) (m : Nat) (u v : Nat → Int) : Prop where
  neg : ∀ j, j < m → v j ≤ 0
  feas : ∀ i, i < T.length → ∀ j, j < m → 0 ≤ ct T i j → u i + v j ≤ ct T i j
def dual (T : List (List Int)) (m : Nat) (u v : Nat → Int) : Int := sumN u T.length + sumN v m
/-- An assignment of tight costs that uses each column whose price is below 0. -/
structure Opt (T : List (List Int)) (m : Nat) (u v : Nat → Int) (to : List Nat) : Prop where
  len : to.length = T.length
  nd : to.Nodup
  ok : ∀ i, i < T.length → to.getD i 0 < m ∧ 0 ≤ ct T i (to.getD i 0) ∧ u i + v (to.getD i 0) = ct T i (to.getD i 0)
  used : ∀ j, j < m → v j < 0 → j ∈ to
theorem Opt.asg {T : List (List Int)} {m : Nat} {u v : Nat → Int} {to : List Nat} (h : Opt T m u v to) : Asg T m to := ⟨h.len, h.nd, fun i hi => ⟨(h.ok i hi).1, (h.ok i hi).2.1⟩⟩
theorem mem_getD {to : List Nat} {j : Nat} (h : j ∈ to) : ∃ i, i < to.length ∧ to.getD i 0 = j := by
  obtain ⟨i, hi, e⟩ := List.mem_iff_getElem.1 h
  exact ⟨i, hi, by rw [getD_get _ _ _ hi]; exact e⟩
theorem Asg.lt {T : List (List Int)} {m : Nat} {to : List Nat} (h : Asg T m to) : ∀ j ∈ to, j < m := fun j hj => by
  obtain ⟨i, hi, e⟩ := mem_getD hj
  rw [← e]; exact (h.ok i (by rw [← h.len]; exact hi)).1
theorem dual_split (T : List (List Int)) (m : Nat) (u v : Nat → Int) (to : List Nat) (h : Asg T m to) : dual T m u v = sumN (fun i => u i + v (to.getD i 0)) T.length + sumN (fun j => if j ∈ to then 0 else v j) m := by
  unfold dual
  rw [sumN_list v m to h.nd h.lt, sumN_map, h.len, sumN_add]
  omega
theorem dual_le {T : List (List Int)} {m : Nat} {u v : Nat → Int} (hd : Duals T m u v) {to : List Nat} (h : Asg T m to) : dual T m u v ≤ costA T to := by
  rw [dual_split T m u v to h]
  have h1 : sumN (fun i => u i + v (to.getD i 0)) T.length ≤ costA T to := sumN_le _ (fun i hi => hd.feas i hi _ (h.ok i hi).1 (h.ok i hi).2)
  have h2 : sumN (fun j => if j ∈ to then 0 else v j) m ≤ sumN (fun _ => 0) m := sumN_le _ (fun j hj => by
    by_cases hm : j ∈ to
    · rw [if_pos hm]; exact Int.le_refl _
    · rw [if_neg hm]; exact hd.neg j hj)
  rw [sumN_zero] at h2
  omega
theorem dual_eq {T : List (List Int)} {m : Nat} {u v : Nat → Int} {to : List Nat} (h : Opt T m u v to) (hd : Duals T m u v) : costA T to = dual T m u v := by
  rw [dual_split T m u v to h.asg]
  have h1 : costA T to = sumN (fun i => u i + v (to.getD i 0)) T.length := sumN_congr _ (fun i hi => (h.ok i hi).2.2.symm)
  have h2 : sumN (fun j => if j ∈ to then 0 else v j) m = sumN (fun _ => 0) m := sumN_congr _ (fun j hj => by
    by_cases hm : j ∈ to
    · rw [if_pos hm]
    · rw [if_neg hm]
      have := hd.neg j hj
      by_cases hv : v j < 0
      · exact absurd (h.used j hj hv) hm
      · omega)
  rw [sumN_zero] at h2
  omega
theorem opt_of_cost {T : List (List Int)} {m : Nat} {u v : Nat → Int} (hd : Duals T m u v) {to : List Nat} (h : Asg T m to) (hc : costA T to = dual T m u v) : Opt T m u v to := by
  rw [dual_split T m u v to h] at hc
  have l1 : ∀ i, i < T.length → u i + v (to.getD i 0) ≤ ct T i (to.getD i 0) := fun i hi => hd.feas i hi _ (h.ok i hi).1 (h.ok i hi).2
  have l2 : ∀ j, j < m → (if j ∈ to then 0 else v j) ≤ (0 : Int) := fun j hj => by
    by_cases hm : j ∈ to
    · rw [if_pos hm]; exact Int.le_refl _
    · rw [if_neg hm]; exact hd.neg j hj
  have h1 := sumN_le T.length l1
  have h2 := sumN_le (g := fun _ => 0) m l2
  rw [sumN_zero] at h2
  have e1 : sumN (fun i => u i + v (to.getD i 0)) T.length = sumN (fun i => ct T i (to.getD i 0)) T.length := by unfold costA at hc; omega
  have e2 : sumN (fun j => if j ∈ to then 0 else v j) m = sumN (fun _ => 0) m := by rw [sumN_zero]; unfold costA at hc; omega
  refine ⟨h.len, h.nd, fun i hi => ⟨(h.ok i hi).1, (h.ok i hi).2, sumN_eq_of_le _ l1 e1 i hi⟩, fun j hj hv => ?_⟩
  have := sumN_eq_of_le (g := fun _ => 0) m l2 e2 j hj
  by_cases hm : j ∈ to
  · exact hm
  · rw [if_neg hm] at this; omega
/-- The best one, by prices: of those that the prices prove the lexicographically least. -/
theorem best_of_opt {T : List (List Int)} {m : Nat} {u v : Nat → Int} (hd : Duals T m u v) {to : List Nat} (h : Opt T m u v to) (hl : ∀ to', Opt T m u v to' → lexLe to to') : IsBest T m to (dual T m u v) :=
  ⟨h.asg, dual_eq h hd, fun to' h' => by
    have := dual_le hd h'
    by_cases e : costA T to' = dual T m u v
    · exact .inr ⟨e.symm, hl to' (opt_of_cost hd h' e)⟩
    · exact .inl (by omega)⟩
end Go.Proofs.Ytjdhcdoekfikpaa
