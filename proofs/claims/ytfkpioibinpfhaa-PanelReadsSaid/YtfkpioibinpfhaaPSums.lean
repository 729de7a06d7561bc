/-
  Plain mathematics of a plan's counts: the areas and the values of the shapes, as often as they are cut. No program in sight.
-/
import Derived.Test.YtfkpioibinpfhaaPCounts
namespace Go.Proofs.Ytfkpioibinpfhaa

def sumTo (f : Nat → Int) : Nat → Int
  | 0 => 0
  | n + 1 => sumTo f n + f n
theorem sumTo_congr {f g : Nat → Int} : ∀ m, (∀ i, i < m → f i = g i) → sumTo f m = sumTo g m
  | 0, _ => rfl
  | m + 1, h => by rw [sumTo, sumTo, sumTo_congr m (fun i hi => h i (by omega)), h m (by omega)]
theorem sumTo_add (f g : Nat → Int) : ∀ m, sumTo (fun i => f i + g i) m = sumTo f m + sumTo g m
  | 0 => rfl
  | m + 1 => by rw [sumTo, sumTo, sumTo, sumTo_add f g m]; omega
theorem sumTo_zero : ∀ m, sumTo (fun _ => 0) m = 0
  | 0 => rfl
  | m + 1 => by rw [sumTo, sumTo_zero m]; rfl
theorem sumTo_mul (t : Int) (f : Nat → Int) : ∀ m, sumTo (fun i => t * f i) m = t * sumTo f m
  | 0 => by simp [sumTo]
  | m + 1 => by rw [sumTo, sumTo, sumTo_mul t f m, Int.mul_add]
theorem sumTo_one (j : Nat) (x : Int) : ∀ m, sumTo (fun i => if i = j then x else 0) m = if j < m then x else 0
  | 0 => by simp [sumTo]
  | m + 1 => by
    rw [sumTo, sumTo_one j x m]
    by_cases h1 : j < m
    · rw [if_pos h1, if_neg (by omega), if_pos (by omega)]; omega
    · by_cases h2 : m = j
      · subst h2; rw [if_neg h1, if_pos rfl, if_pos (by omega)]; omega
      · rw [if_neg h1, if_neg h2, if_neg (by omega)]; rfl
theorem sumTo_bd {f : Nat → Int} {M : Int} : ∀ m, (∀ i, i < m → 0 ≤ f i ∧ f i ≤ M) → 0 ≤ sumTo f m ∧ sumTo f m ≤ M * m
  | 0, _ => by simp [sumTo]
  | m + 1, h => by
    have h1 := sumTo_bd m (fun i hi => h i (by omega))
    have h2 := h m (by omega)
    have e : M * ((m + 1 : Nat) : Int) = M * m + M := by rw [Int.natCast_add, Int.mul_add]; simp
    rw [sumTo, e]; omega
/-- How often shape i is cut. -/
def cntI (p : List Pc) (i : Nat) : Int := (((p.filter fun q => q.S == (i : Int)).length : Nat) : Int)
theorem cntI_bd (p : List Pc) (i : Nat) : 0 ≤ cntI p i ∧ cntI p i ≤ p.length := by
  unfold cntI
  have := List.length_filter_le (fun q : Pc => q.S == (i : Int)) p
  omega
theorem cntP_get {m i : Nat} (p : List Pc) (hi : i < m) : (cntP m p)[i]? = some (cntI p i) := by simp [cntP, cntI, hi]
theorem cntI_cons (q : Pc) (p : List Pc) (j i : Nat) (hq : q.S = (j : Int)) : cntI (q :: p) i = cntI p i + if i = j then 1 else 0 := by
  unfold cntI
  by_cases h : i = j
  · subst h; simp [hq]
  · have : ¬ (j : Int) = (i : Int) := by omega
    simp [hq, this, h]
theorem sum_cnt (g : Nat → Int) (m : Nat) : ∀ p : List Pc, (∀ q ∈ p, ∃ i, i < m ∧ q.S = ((i : Nat) : Int)) → sumTo (fun i => cntI p i * g i) m = p.foldl (fun a q => a + g q.S.toNat) 0 := by
  intro p
  induction p with
  | nil => intro _; rw [show (fun i => cntI [] i * g i) = fun _ => 0 from by funext i; simp [cntI]]; exact sumTo_zero m
  | cons q r ih =>
    intro h
    obtain ⟨j, hj, hq⟩ := h q (by simp)
    rw [sumTo_congr (g := fun i => cntI r i * g i + if i = j then g j else 0) m (fun i _ => by
      rw [cntI_cons q r j i hq]
      by_cases e : i = j
      · subst e; simp [Int.add_mul]
      · simp [e])]
    rw [sumTo_add, ih (fun q hq => h q (by simp [hq])), sumTo_one, if_pos hj, List.foldl_cons, foldl_add (fun q => g q.S.toNat) r (0 + g q.S.toNat), hq]
    simp only [Int.toNat_natCast]
    omega
def arI (ss : List Shp) (i : Nat) : Int := match ss[i]? with | some s => s.W * s.H | none => 0
def vaI (ss : List Shp) (i : Nat) : Int := match ss[i]? with | some s => s.V | none => 0
theorem foldl_congr {α : Type} {f g : α → Int} : ∀ (l : List α) (m : Int), (∀ q ∈ l, f q = g q) → l.foldl (fun a q => a + f q) m = l.foldl (fun a q => a + g q) m
  | [], _, _ => rfl
  | q :: r, m, h => by rw [List.foldl_cons, List.foldl_cons, h q (by simp)]; exact foldl_congr r _ (fun q hq => h q (by simp [hq]))
theorem ok_index {ss : List Shp} {p : List Pc} (h : ∀ q ∈ p, PcOk ss q) : ∀ q ∈ p, ∃ i, i < ss.length ∧ q.S = ((i : Nat) : Int) := fun q hq => by
  obtain ⟨_, _, _, _, i, s, h1, h2, _⟩ := h q hq
  exact ⟨i, (List.getElem?_eq_some_iff.1 h2).1, h1⟩
theorem area_cnt {ss : List Shp} {p : List Pc} (h : ∀ q ∈ p, PcOk ss q) : sumTo (fun i => cntI p i * arI ss i) ss.length = areaP p := by
  rw [sum_cnt _ _ p (ok_index h)]
  unfold areaP
  refine foldl_congr p 0 (fun q hq => ?_)
  obtain ⟨_, _, _, _, i, s, h1, h2, h3⟩ := h q hq
  rw [h1, h3, arI, Int.toNat_natCast, h2]
theorem worth_cnt {ss : List Shp} {p : List Pc} (h : ∀ q ∈ p, PcOk ss q) : sumTo (fun i => cntI p i * vaI ss i) ss.length = worthP ss p := by
  rw [sum_cnt _ _ p (ok_index h)]
  rfl
theorem areaV_sum (ss : List Shp) (ns : List Int) : ∀ k, k ≤ ss.length → k ≤ ns.length → areaV (ss.take k) (ns.take k) = sumTo (fun i => ns.getD i 0 * arI ss i) k := by
  intro k
  induction k with
  | zero => intro _ _; simp [areaV, sumTo]
  | succ k ih =>
    intro h1 h2
    have e1 : ss[k]? = some ss[k] := List.getElem?_eq_getElem (by omega)
    have e2 : ns[k]? = some ns[k] := List.getElem?_eq_getElem (by omega)
    rw [areaV_take ss ns k _ _ e1 e2, ih (by omega) (by omega), sumTo]
    have e3 : ns.getD k 0 * arI ss k = ss[k].W * ss[k].H * ns[k] := by
      rw [List.getD_eq_getElem?_getD, e2, arI, e1]
      exact Int.mul_comm _ _
    rw [e3]
theorem fitAll_of (w h : Int) (ss : List Shp) (ns : List Int) (hf : ∀ (i : Nat) (s : Shp) (n : Int), ss[i]? = some s → ns[i]? = some n → n ≤ 0 ∨ fitsB w h s = true) : ∀ k, k ≤ ss.length → k ≤ ns.length → fitAll w h (ss.take k) (ns.take k) = true := by
  intro k
  induction k with
  | zero => intro _ _; simp [fitAll]
  | succ k ih =>
    intro h1 h2
    have e1 : ss[k]? = some ss[k] := List.getElem?_eq_getElem (by omega)
    have e2 : ns[k]? = some ns[k] := List.getElem?_eq_getElem (by omega)
    rw [fitAll_take w h ss ns k _ _ e1 e2, ih (by omega) (by omega)]
    rcases hf k _ _ e1 e2 with h3 | h3 <;> simp [h3]
end Go.Proofs.Ytfkpioibinpfhaa
