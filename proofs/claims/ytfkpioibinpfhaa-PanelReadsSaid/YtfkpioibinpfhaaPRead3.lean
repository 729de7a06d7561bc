/-
  Plain mathematics of reading a plan by the document: a list of rectangles that wait; it agrees with the reading by parts. No program in sight.
-/
import Derived.Test.YtfkpioibinpfhaaPRead2
namespace Go.Proofs.Ytfkpioibinpfhaa

structure Rs where
  X : Int
  Y : Int
  W : Int
  H : Int
/-- What one cut makes of one rectangle: the rectangles that wait then, the next one first, and the piece. -/
def stepR (k : Int) (ss : List Shp) (q : Rs) (c a : Int) : Option (List Rs × List Pc) :=
  if c = 0 then (if a = 0 then some ([], []) else none)
  else if c = 1 then (if rdSh ss a q.W q.H false = true then some ([], [⟨q.X, q.Y, q.W, q.H, a⟩]) else none)
  else if c = 2 then (if rdSh ss a q.W q.H true = true then some ([], [⟨q.X, q.Y, q.W, q.H, a⟩]) else none)
  else if c = 3 then (if 1 ≤ a ∧ a < q.W then some (⟨q.X, q.Y, a, q.H⟩ :: (if 1 ≤ q.W - a - k then [⟨q.X + a + k, q.Y, q.W - a - k, q.H⟩] else []), []) else none)
  else if c = 4 then (if 1 ≤ a ∧ a < q.H then some (⟨q.X, q.Y, q.W, a⟩ :: (if 1 ≤ q.H - a - k then [⟨q.X, q.Y + a + k, q.W, q.H - a - k⟩] else []), []) else none)
  else none
def lay (k : Int) (ss : List Shp) : List Rs → Cuts → Option (List Pc)
  | stk, [] => if stk = [] then some [] else none
  | [], _ :: _ => none
  | q :: stk, (c, a) :: r => (stepR k ss q c a).bind fun u => (lay k ss (u.1 ++ stk) r).map fun p => u.2 ++ p
theorem lay_nil (k : Int) (ss : List Shp) (l : Cuts) : lay k ss [] l = if l = [] then some [] else none := by
  cases l <;> simp [lay]
theorem lay_rd (k : Int) (ss : List Shp) : ∀ (f : Nat) (l : Cuts) (q : Rs) (stk : List Rs), l.length < f → lay k ss (q :: stk) l = (rd k ss f q.X q.Y q.W q.H l).bind fun u => (lay k ss stk u.1).map fun p => u.2 ++ p := by
  intro f
  induction f with
  | zero => intro l q stk h; omega
  | succ f ih =>
    intro l q stk hl
    match l with
    | [] => simp [lay, rd]
    | (c, a) :: r =>
      simp only [List.length_cons] at hl
      simp only [lay, rd, stepR]
      by_cases c0 : c = 0
      · simp only [if_pos c0]
        by_cases a0 : a = 0 <;> simp [a0]
      simp only [if_neg c0]
      by_cases c1 : c = 1
      · simp only [if_pos c1]
        split <;> simp
      simp only [if_neg c1]
      by_cases c2 : c = 2
      · simp only [if_pos c2]
        split <;> simp
      simp only [if_neg c2]
      by_cases c3 : c = 3
      · simp only [if_pos c3]
        by_cases ha : 1 ≤ a ∧ a < q.W
        · simp only [if_pos ha, Option.bind_some, List.nil_append]
          by_cases hr : 1 ≤ q.W - a - k
          · simp only [if_pos hr, List.cons_append, List.nil_append]
            rw [ih r _ _ (by omega)]
            cases h1 : rd k ss f q.X q.Y a q.H r with
            | none => simp
            | some u =>
              have hlen := (rd_Rd k ss f _ _ _ _ r u.1 u.2 h1).len
              simp only [Option.bind_some]
              rw [ih u.1 _ _ (by omega)]
              cases h2 : rd k ss f (q.X + a + k) q.Y (q.W - a - k) q.H u.1 with
              | none => simp
              | some v => simp [Function.comp_def]
          · simp only [if_neg hr, List.cons_append, List.nil_append]
            rw [ih r _ _ (by omega)]
            cases h1 : rd k ss f q.X q.Y a q.H r with
            | none => simp
            | some u => simp [Function.comp_def]
        · simp [if_neg ha]
      simp only [if_neg c3]
      by_cases c4 : c = 4
      · simp only [if_pos c4]
        by_cases ha : 1 ≤ a ∧ a < q.H
        · simp only [if_pos ha, Option.bind_some, List.nil_append]
          by_cases hr : 1 ≤ q.H - a - k
          · simp only [if_pos hr, List.cons_append, List.nil_append]
            rw [ih r _ _ (by omega)]
            cases h1 : rd k ss f q.X q.Y q.W a r with
            | none => simp
            | some u =>
              have hlen := (rd_Rd k ss f _ _ _ _ r u.1 u.2 h1).len
              simp only [Option.bind_some]
              rw [ih u.1 _ _ (by omega)]
              cases h2 : rd k ss f q.X (q.Y + a + k) q.W (q.H - a - k) u.1 with
              | none => simp
              | some v => simp [Function.comp_def]
          · simp only [if_neg hr, List.cons_append, List.nil_append]
            rw [ih r _ _ (by omega)]
            cases h1 : rd k ss f q.X q.Y q.W a r with
            | none => simp
            | some u => simp [Function.comp_def]
        · simp [if_neg ha]
      simp [if_neg c4]
/-- The pieces of a plan, if it is one. -/
def planOut (k : Int) (ss : List Shp) (w h : Int) (l : Cuts) : Option (List Pc) := (rd k ss (l.length + 1) 0 0 w h l).bind fun u => if u.1 = [] then some u.2 else none
theorem lay_planOut (k : Int) (ss : List Shp) (w h : Int) (l : Cuts) : lay k ss [⟨0, 0, w, h⟩] l = planOut k ss w h l := by
  rw [lay_rd k ss (l.length + 1) l _ _ (by omega)]
  unfold planOut
  cases rd k ss (l.length + 1) 0 0 w h l with
  | none => rfl
  | some u =>
    simp only [Option.bind_some, lay_nil]
    split <;> simp
theorem planOut_Rd {k : Int} {ss : List Shp} {w h : Int} {l : Cuts} {p : List Pc} (hp : planOut k ss w h l = some p) : Rd k ss 0 0 w h l [] p := by
  unfold planOut at hp
  cases h1 : rd k ss (l.length + 1) 0 0 w h l with
  | none => rw [h1] at hp; cases hp
  | some u =>
    rw [h1] at hp
    simp only [Option.bind_some] at hp
    split at hp
    · rename_i hu
      injection hp with hp
      have := rd_Rd k ss _ _ _ _ _ l u.1 u.2 h1
      rw [hu, hp] at this
      exact this
    · cases hp
theorem planOut_best (k : Int) (ss : List Shp) (hk : 0 ≤ k) (w h : Int) (hw : 1 ≤ w) (hh : 1 ≤ h) : ∃ p, planOut k ss w h (planL k ss w h) = some p ∧ worthP ss p = val k ss w h := by
  obtain ⟨p, hr, hv⟩ := planL_Rd k ss hk _ 0 0 w h [] (Nat.le_refl _) hw hh
  rw [List.append_nil] at hr
  refine ⟨p, ?_, hv⟩
  unfold planOut
  rw [hr.rd _ (Nat.lt_succ_self _)]
  simp
end Go.Proofs.Ytfkpioibinpfhaa
