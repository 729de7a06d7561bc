import Derived.Test.YtojbldoekalbnaaGreatTDr
/-
  Plain mathematics of a ring: steps that fit, are allowed, and cost; how the layers' runs say it. No program in sight.
-/
namespace Go.Proofs.YtojbldoekalbnaaGreat
def Rg.err (r : Rg) (st : List Int) (i : Nat) : Nat → Int
  | 0 => r.pure
  | k + 1 => r.err st i k - st.getD ((i + k) % r.N) 0
structure Rg.Good (r : Rg) (st : List Int) : Prop where
  len : st.length = r.N
  rng : ∀ x ∈ st, r.low ≤ x ∧ x ≤ r.high
  sum : st.sum = r.total
  err : ∀ i, i < r.N → -r.worst ≤ r.err st i r.S ∧ r.err st i r.S ≤ r.worst
/-- What one note costs: its fifth and its third. -/
def Rg.one (r : Rg) (st : List Int) (i : Nat) : Int := r.fi.getD i 0 * st.getD i 0 * st.getD i 0 + r.th.getD i 0 * r.err st i r.S * r.err st i r.S
def Rg.cost (r : Rg) (st : List Int) : Int := totF (r.one st) 0 r.N
/-- The steps, gone round and round. -/
def roundF (r : Rg) (st : List Int) : Nat → Int := fun i => st.getD (i % r.N) 0
theorem totF_split (f : Nat → Int) : ∀ (n t m : Nat), totF f t (n + m) = totF f t n + totF f (t + n) m
  | 0, t, m => by simp [totF]
  | n + 1, t, m => by
    rw [show n + 1 + m = (n + m) + 1 by omega, totF, totF, totF_split f n (t + 1) m, show t + 1 + n = t + (n + 1) by omega]
    omega
theorem totF_cut (f : Nat → Int) {a b n : Nat} (t : Nat) (h : n = a + b) : totF f t n = totF f t a + totF f (t + a) b := by
  subst h; exact totF_split f a t b
theorem totF_add (f g : Nat → Int) : ∀ (n t : Nat), totF (fun i => f i + g i) t n = totF f t n + totF g t n
  | 0, _ => rfl
  | n + 1, t => by rw [totF, totF, totF, totF_add f g n (t + 1)]; omega
theorem totF_congr {f g : Nat → Int} : ∀ {n t : Nat}, (∀ i, t ≤ i → i < t + n → f i = g i) → totF f t n = totF g t n
  | 0, _, _ => rfl
  | n + 1, t, h => by rw [totF, totF, h t (Nat.le_refl _) (by omega), totF_congr (n := n) (t := t + 1) (fun i h1 h2 => h i (by omega) (by omega))]
theorem totF_shift (f : Nat → Int) (d : Nat) : ∀ (n t : Nat), totF f (t + d) n = totF (fun i => f (i + d)) t n
  | 0, _ => rfl
  | n + 1, t => by rw [totF, totF, show t + d + 1 = (t + 1) + d by omega, totF_shift f d n (t + 1)]
theorem totF_zero {f : Nat → Int} : ∀ {n t : Nat}, (∀ i, t ≤ i → i < t + n → f i = 0) → totF f t n = 0
  | 0, _, _ => rfl
  | n + 1, t, h => by rw [totF, h t (Nat.le_refl _) (by omega), totF_zero (n := n) (t := t + 1) (fun i h1 h2 => h i (by omega) (by omega))]; rfl
theorem listF_len (w : Nat → Int) : ∀ (n t : Nat), (listF w t n).length = n
  | 0, _ => rfl
  | n + 1, t => by simp [listF, listF_len w n (t + 1)]
theorem listF_get (w : Nat → Int) : ∀ (n t i : Nat), i < n → (listF w t n)[i]? = some (w (t + i))
  | 0, _, i, h => absurd h (by omega)
  | n + 1, t, 0, _ => by simp [listF]
  | n + 1, t, i + 1, h => by
    rw [listF, List.getElem?_cons_succ, listF_get w n (t + 1) i (by omega)]
    congr 2; omega
/-- The errors backwards are the errors forwards. -/
theorem err_errF {r : Rg} (hr : r.Ok) (st : List Int) (j : Nat) : r.errF (roundF r st) (j + (r.S - 1)) (r.S - 1) = r.err st j r.S := by
  have h1 := hr.s1
  have h2 := hr.s2
  obtain e | e | e : r.S = 2 ∨ r.S = 3 ∨ r.S = 4 := by omega
  all_goals
    simp only [e, Rg.errF, Rg.err, roundF, Nat.add_sub_cancel, Nat.sub_zero, Nat.add_zero, Nat.add_one_sub_one]
    omega
theorem sumF_sum {r : Rg} {st : List Int} (hw : ∀ i, r.low ≤ roundF r st i) : ∀ t, t ≤ r.N → (r.sumF (roundF r st) t : Int) = totF (fun i => st.getD i 0) 0 t - t * r.low
  | 0, _ => by simp [Rg.sumF, totF]
  | t + 1, h => by
    have ih := sumF_sum hw t (by omega)
    have hm := hw t
    have e : roundF r st t = st.getD t 0 := by unfold roundF; rw [Nat.mod_eq_of_lt (by omega)]
    have h1 : totF (fun i => st.getD i 0) 0 (t + 1) = totF (fun i => st.getD i 0) 0 t + st.getD t 0 := by
      rw [totF_split _ t 0 1]; simp [totF]
    have h2 : ((t + 1 : Nat) : Int) * r.low = t * r.low + r.low := by rw [Int.natCast_add, Int.add_mul]; simp
    rw [Rg.sumF, if_pos (by omega), h1, h2]
    rw [e] at hm ⊢
    omega
theorem sumF_top {r : Rg} {w : Nat → Int} : ∀ k, r.sumF w (r.N + k) = r.sumF w r.N
  | 0 => rfl
  | k + 1 => by rw [show r.N + (k + 1) = r.N + k + 1 by omega, Rg.sumF, if_neg (by omega), sumF_top k, Nat.add_zero]
theorem sum_totF : ∀ (st : List Int), st.sum = totF (fun i => st.getD i 0) 0 st.length
  | [] => rfl
  | a :: r => by
    rw [List.sum_cons, List.length_cons, totF, show (0 + 1 : Nat) = 0 + 1 from rfl, totF_shift _ 1 r.length 0, sum_totF r]
    simp
/-- What the beginning costs by itself: its fifths. -/
def Rg.beginC (r : Rg) (st : List Int) : Int := totF (fun i => r.fi.getD i 0 * st.getD i 0 * st.getD i 0) 0 (r.S - 1)
/-- The layers' prices and what the beginning costs make the cost. -/
theorem cost_tot {r : Rg} (hr : r.Ok) (st : List Int) : r.beginC st + totF (r.priceF (roundF r st)) (r.S - 1) r.N = r.cost st := by
  have h1 := hr.s1
  have h3 := hr.s3
  have hA : totF (r.priceF (roundF r st)) (r.S - 1) r.N =
      totF (fun i => r.th.getD ((i - (r.S - 1)) % r.N) 0 * r.errF (roundF r st) i (r.S - 1) * r.errF (roundF r st) i (r.S - 1)) (r.S - 1) r.N +
      totF (fun i => if i < r.N then r.fi.getD i 0 * roundF r st i * roundF r st i else 0) (r.S - 1) r.N := by
    rw [← totF_add]; rfl
  have hB : totF (fun i => r.th.getD ((i - (r.S - 1)) % r.N) 0 * r.errF (roundF r st) i (r.S - 1) * r.errF (roundF r st) i (r.S - 1)) (r.S - 1) r.N =
      totF (fun i => r.th.getD i 0 * r.err st i r.S * r.err st i r.S) 0 r.N := by
    rw [show totF _ (r.S - 1) r.N = totF _ (0 + (r.S - 1)) r.N by rw [Nat.zero_add], totF_shift]
    refine totF_congr (fun i _ hi => ?_)
    rw [err_errF hr, Nat.add_sub_cancel, Nat.mod_eq_of_lt (by omega)]
  have hC : totF (fun i => if i < r.N then r.fi.getD i 0 * roundF r st i * roundF r st i else 0) (r.S - 1) r.N =
      totF (fun i => r.fi.getD i 0 * st.getD i 0 * st.getD i 0) (r.S - 1) (r.N - (r.S - 1)) := by
    rw [totF_cut _ (r.S - 1) (show r.N = (r.N - (r.S - 1)) + (r.S - 1) by omega), totF_zero (t := r.S - 1 + _) (n := r.S - 1)]
    · rw [Int.add_zero]
      refine totF_congr (fun i h1 h2 => ?_)
      have hi : i < r.N := by omega
      rw [if_pos (by omega)]
      unfold roundF
      rw [Nat.mod_eq_of_lt hi]
    · intro i k1 k2
      exact if_neg (by omega)
  have hD : totF (fun i => r.fi.getD i 0 * st.getD i 0 * st.getD i 0) 0 r.N = r.beginC st + totF (fun i => r.fi.getD i 0 * st.getD i 0 * st.getD i 0) (r.S - 1) (r.N - (r.S - 1)) := by
    rw [totF_cut _ 0 (show r.N = (r.S - 1) + (r.N - (r.S - 1)) by omega), Nat.zero_add]
    rfl
  have hE : r.cost st = totF (fun i => r.fi.getD i 0 * st.getD i 0 * st.getD i 0) 0 r.N + totF (fun i => r.th.getD i 0 * r.err st i r.S * r.err st i r.S) 0 r.N := by
    rw [← totF_add]; rfl
  rw [hE, hA, hB, hC, hD]
  omega
/-- How the steps end a beginning: the rest of them, and the beginning once more. -/
def Rg.tail (r : Rg) (st : List Int) : List Int := listF (roundF r st) (r.S - 1) r.N
theorem getD_rng {r : Rg} {st : List Int} (hl : st.length = r.N) (h : ∀ x ∈ st, r.low ≤ x ∧ x ≤ r.high) (hn : 0 < r.N) (i : Nat) : r.low ≤ roundF r st i ∧ roundF r st i ≤ r.high := by
  have hi : i % r.N < st.length := by rw [hl]; exact Nat.mod_lt _ hn
  unfold roundF
  rw [List.getD_eq_getElem?_getD, List.getElem?_eq_getElem hi]
  exact h _ (List.getElem_mem hi)
theorem fine_err {r : Rg} (hr : r.Ok) (st : List Int) : r.fineF (roundF r st) (r.S - 1) r.N ↔ ∀ i, i < r.N → -r.worst ≤ r.err st i r.S ∧ r.err st i r.S ≤ r.worst := by
  constructor
  · intro h i hi
    have := h (i + (r.S - 1)) (by omega) (by omega)
    rwa [err_errF hr] at this
  · intro h i h1 h2
    have := h (i - (r.S - 1)) (by omega)
    rw [← err_errF hr, Nat.sub_add_cancel h1] at this
    exact this
/-- The run of the layers behind a beginning says whether the steps are good, and what they cost. -/
theorem run_good {r : Rg} (hr : r.Ok) {st : List Int} (hl : st.length = r.N) (hg : ∀ x ∈ st, r.low ≤ x ∧ x ≤ r.high) (first : List Int) (c : Int) :
    (r.lay first).run (r.S - 1) (r.codeF (roundF r st) (r.S - 1) (r.S - 1), r.sumF (roundF r st) (r.S - 1)) (r.tail st) = some c ↔ r.Good st ∧ r.beginC st + c = r.cost st := by
  have h1 := hr.n1
  have h2 := hr.h2
  have hrd := getD_rng hl hg (by omega)
  rw [Rg.tail, run_iff hr (fun i => ⟨(hrd i).1, by have := (hrd i).2; omega⟩) r.N (r.S - 1) c (Nat.le_refl _), fine_err hr, Nat.add_comm (r.S - 1), sumF_top,
    sumF_sum (fun i => (hrd i).1) r.N (Nat.le_refl _)]
  have hs : st.sum = totF (fun i => st.getD i 0) 0 r.N := by rw [sum_totF, hl]
  have hc := cost_tot hr st
  rw [← hs]
  constructor
  · rintro ⟨a, b, rfl⟩
    exact ⟨⟨hl, hg, by omega, a⟩, hc⟩
  · rintro ⟨g, e⟩
    exact ⟨g.err, by rw [g.sum], by omega⟩
/-- Steps in their range are admitted; behind the last one the first ones come again. -/
theorem adm_tail {r : Rg} (hr : r.Ok) {st : List Int} (hl : st.length = r.N) (hg : ∀ x ∈ st, r.low ≤ x ∧ x ≤ r.high) : (r.lay (st.take (r.S - 1))).adm (r.S - 1) (r.tail st) := by
  have h1 := hr.n1
  have h3 := hr.s3
  have hrd := getD_rng hl hg (by omega)
  have key : ∀ n t, t + n = r.N + (r.S - 1) → (r.lay (st.take (r.S - 1))).adm t (listF (roundF r st) t n) := by
    intro n
    induction n with
    | zero => intro t _; exact trivial
    | succ n ih =>
      intro t ht
      refine ⟨?_, ih (t + 1) (by omega)⟩
      simp only [Rg.lay]
      by_cases c : t < r.N
      · rw [if_pos c, if_pos c]; exact hrd t
      · rw [if_neg c, if_neg c]
        have e : roundF r st t = (st.take (r.S - 1)).getD (t - r.N) 0 := by
          unfold roundF
          rw [Nat.mod_eq_sub_mod (by omega), Nat.mod_eq_of_lt (by omega)]
          simp only [List.getD_eq_getElem?_getD]
          rw [List.getElem?_take_of_lt (by omega)]
        rw [e]; exact ⟨Int.le_refl _, Int.le_refl _⟩
  exact key r.N (r.S - 1) (by omega)
end Go.Proofs.YtojbldoekalbnaaGreat
