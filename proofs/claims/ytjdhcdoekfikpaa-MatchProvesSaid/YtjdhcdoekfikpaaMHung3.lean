/-
  Plain mathematics of the search along shortest ways: rows move along the way; all rows placed; the cheapest assignment with its prices. No program in sight.
-/
import Derived.Test.YtjdhcdoekfikpaaMHung2
import Derived.Test.YtjdhcdoekfikpaaMFirst
namespace Go.Proofs.Ytjdhcdoekfikpaa

def augF (way : List Nat) : Nat → Nat → List Nat → List Nat
  | 0, _, p => p
  | f + 1, col, p => if col = 0 then p else augF way f (way.getD col 0) (p.set col (p.getD (way.getD col 0) 0))
/-- But for the column col (a hole), every row up to r has just one column. -/
structure Hole (m r col : Nat) (p : List Nat) : Prop where
  len : p.length = m + 1
  le : ∀ j, j ≤ m → j ≠ col → p.getD j 0 ≤ r
  all : ∀ i, 1 ≤ i → i ≤ r → ∃ j, j ≤ m ∧ j ≠ col ∧ p.getD j 0 = i
  inj : ∀ i j, i ≤ m → j ≤ m → i ≠ col → j ≠ col → p.getD i 0 = p.getD j 0 → p.getD i 0 ≠ 0 → i = j
theorem Hole.move {m r col : Nat} {p : List Nat} (h : Hole m r col p) {w : Nat} (hw : w ≤ m) (hc : col ≤ m) (hne : w ≠ col) : Hole m r w (p.set col (p.getD w 0)) := by
  have hl := h.len
  have e1 : (p.set col (p.getD w 0)).getD col 0 = p.getD w 0 := getD_set_eq _ _ _ _ (by omega)
  have e2 : ∀ j, j ≠ col → (p.set col (p.getD w 0)).getD j 0 = p.getD j 0 := fun j hj => getD_set_ne _ _ _ _ _ (fun e => hj e.symm)
  refine ⟨by simpa using h.len, fun j hj hjw => ?_, fun i h1 h2 => ?_, fun i j hi hj hiw hjw he h0 => ?_⟩
  · by_cases e : j = col
    · subst e; rw [e1]; exact h.le w hw hne
    · rw [e2 j e]; exact h.le j hj e
  · obtain ⟨j, a1, a2, a3⟩ := h.all i h1 h2
    by_cases e : j = w
    · subst e; exact ⟨col, hc, fun e => hne e.symm, e1.trans a3⟩
    · exact ⟨j, a1, e, (e2 j a2).trans a3⟩
  · by_cases ei : i = col <;> by_cases ej : j = col
    · rw [ei, ej]
    · subst ei
      rw [e1, e2 j ej] at he
      rw [e1] at h0
      exact absurd (h.inj w j hw hj hne ej he h0).symm hjw
    · subst ej
      rw [e1, e2 i ei] at he
      rw [e2 i ei] at h0
      exact absurd (h.inj i w hi hw ei hne he h0) hiw
    · rw [e2 i ei, e2 j ej] at he
      rw [e2 i ei] at h0
      exact h.inj i j hi hj ei ej he h0
theorem path_split {way : List Nat} {w : Nat} : ∀ {ord : List Nat}, Path way ord → w ∈ ord → ∃ r, Path way (w :: r) ∧ (∀ j ∈ r, j ∈ ord) ∧ (w :: r).length ≤ ord.length
  | x :: o, h, hw => by
    by_cases e : w = x
    · subst e; exact ⟨o, h, fun j hj => List.mem_cons_of_mem _ hj, Nat.le_refl _⟩
    · obtain ⟨r, h1, h2, h3⟩ := path_split (ord := o) h.2.2 ((List.mem_cons.1 hw).resolve_left e)
      exact ⟨r, h1, fun j hj => List.mem_cons_of_mem _ (h2 j hj), Nat.le_trans h3 (Nat.le_succ _)⟩
/-- ROWS MOVE ALONG THE WAY: then the hole is column 0. tg: which row and column may come together. -/
theorem aug_ok {m r : Nat} {way : List Nat} {p0 : List Nat} {tg : Nat → Nat → Prop} : ∀ (f : Nat) (ord : List Nat) (col : Nat) (p : List Nat), ord.length < f → Path way ord → (∀ j ∈ ord, j ≤ m) → col ≤ m → col ∉ ord →
    ((col = 0 ∧ ord = []) ∨ (col ≠ 0 ∧ way.getD col 0 ∈ ord ∧ tg (p0.getD (way.getD col 0) 0) col)) → (∀ j ∈ ord, p.getD j 0 = p0.getD j 0) → (∀ j ∈ ord, p0.getD j 0 ≠ 0) → (∀ j ∈ ord, j ≠ 0 → tg (p0.getD (way.getD j 0) 0) j) →
    Hole m r col p → (∀ j, 1 ≤ j → j ≤ m → j ≠ col → p.getD j 0 ≠ 0 → tg (p.getD j 0) j) → (∀ j, 1 ≤ j → j ≤ m → p.getD j 0 = 0 → p0.getD j 0 = 0) →
    Hole m r 0 (augF way f col p) ∧ (∀ j, 1 ≤ j → j ≤ m → (augF way f col p).getD j 0 ≠ 0 → tg ((augF way f col p).getD j 0) j) ∧ (∀ j, 1 ≤ j → j ≤ m → (augF way f col p).getD j 0 = 0 → p0.getD j 0 = 0) := by
  intro f
  induction f with
  | zero => intro ord col p h; omega
  | succ f ih =>
    intro ord col p hf hP hm hc hno hcol hp h0 htp hH htg hz
    rw [augF]
    by_cases e : col = 0
    · subst e
      rw [if_pos rfl]
      exact ⟨hH, fun j h1 h2 h3 => htg j h1 h2 (by omega) h3, hz⟩
    · rw [if_neg e]
      obtain ⟨_, hw, ht⟩ := hcol.resolve_left (fun h => e h.1)
      obtain ⟨o, hPo, hos, hol⟩ := path_split hP hw
      have hwm := hm _ hw
      have hne : way.getD col 0 ≠ col := fun e' => hno (e' ▸ hw)
      have hl := hH.len
      have e1 : (p.set col (p.getD (way.getD col 0) 0)).getD col 0 = p.getD (way.getD col 0) 0 := getD_set_eq _ _ _ _ (by omega)
      have e2 : ∀ j, j ≠ col → (p.set col (p.getD (way.getD col 0) 0)).getD j 0 = p.getD j 0 := fun j hj => getD_set_ne _ _ _ _ _ (fun e => hj e.symm)
      have nc : ∀ j ∈ o, j ≠ col := fun j hj e' => hno (e' ▸ hos j hj)
      refine ih o (way.getD col 0) _ (by simp only [List.length_cons] at hol; omega) hPo.2.2 (fun j hj => hm j (hos j hj)) hwm hPo.2.1 ?_ (fun j hj => by rw [e2 j (nc j hj)]; exact hp j (hos j hj)) (fun j hj => h0 j (hos j hj)) (fun j hj hj0 => htp j (hos j hj) hj0) (hH.move hwm hc hne) (fun j h1 h2 h3 h4 => ?_) (fun j h1 h2 h3 => ?_)
      · rcases hPo.1 with h | ⟨h1, h2⟩
        · exact .inl h
        · exact .inr ⟨h1, h2, htp _ hw h1⟩
      · by_cases ej : j = col
        · subst ej; rw [e1, hp _ hw]; exact ht
        · rw [e2 j ej] at h4 ⊢; exact htg j h1 h2 ej h4
      · by_cases ej : j = col
        · subst ej
          rw [e1, hp _ hw] at h3
          exact absurd h3 (h0 _ hw)
        · rw [e2 j ej] at h3; exact hz j h1 h2 h3

/-! ### a row is placed -/
/-- The first k rows are placed. -/
structure MI (a : Nat → Nat → Int) (n m k : Nat) (u v : List Int) (p : List Nat) (way : List Nat) : Prop where
  lu : u.length = n + 1
  lv : v.length = m + 1
  lp : p.length = m + 1
  lw : way.length = m + 1
  le : ∀ j, 1 ≤ j → j ≤ m → p.getD j 0 ≤ k
  inj : ∀ i j, 1 ≤ i → i ≤ m → 1 ≤ j → j ≤ m → p.getD i 0 = p.getD j 0 → p.getD i 0 ≠ 0 → i = j
  all : ∀ i, 1 ≤ i → i ≤ k → ∃ j, 1 ≤ j ∧ j ≤ m ∧ p.getD j 0 = i
  feas : ∀ i j, 1 ≤ i → i ≤ n → 1 ≤ j → j ≤ m → u.getD i 0 + v.getD j 0 ≤ a i j
  tm : ∀ j, 1 ≤ j → j ≤ m → p.getD j 0 ≠ 0 → u.getD (p.getD j 0) 0 + v.getD j 0 = a (p.getD j 0) j
  vneg : ∀ j, 1 ≤ j → j ≤ m → v.getD j 0 ≤ 0
  vfree : ∀ j, 1 ≤ j → j ≤ m → p.getD j 0 = 0 → v.getD j 0 = 0
  u0 : ∀ i, k < i → u.getD i 0 = 0
  ub : ∀ i, 0 ≤ u.getD i 0 ∧ u.getD i 0 ≤ DEAR * k
  vb : ∀ j, -(DEAR * k) ≤ v.getD j 0 ∧ v.getD j 0 ≤ 0
theorem MI.start {a : Nat → Nat → Int} {n m : Nat} (ha : ∀ i j, 1 ≤ i → i ≤ n → 1 ≤ j → j ≤ m → 0 ≤ a i j ∧ a i j ≤ DEAR) : MI a n m 0 (List.replicate (n + 1) 0) (List.replicate (m + 1) 0) (List.replicate (m + 1) 0) (List.replicate (m + 1) 0) := by
  have g : ∀ (x y : Nat), (List.replicate x (0 : Int)).getD y 0 = 0 := fun x y => by rw [List.getD_eq_getElem?_getD, List.getElem?_replicate]; split <;> rfl
  have g' : ∀ (x y : Nat), (List.replicate x (0 : Nat)).getD y 0 = 0 := fun x y => by rw [List.getD_eq_getElem?_getD, List.getElem?_replicate]; split <;> rfl
  refine ⟨by simp, by simp, by simp, by simp, fun j _ _ => by rw [g']; exact Nat.le_refl _, fun i j _ _ _ _ _ h => absurd (g' _ _) h, fun i h1 h2 => by omega, fun i j h1 h2 h3 h4 => ?_, fun j _ _ h => absurd (g' _ _) h, fun j _ _ => by rw [g]; omega, fun j _ _ _ => g _ _, fun i _ => g _ _, fun i => by rw [g]; simp, fun j => by rw [g]; simp⟩
  rw [g, g]; have := (ha i j h1 h2 h3 h4).1; omega
def placeF (a : Nat → Nat → Int) (_n m r : Nat) (u v : List Int) (p way : List Nat) : List Int × List Int × List Nat × List Nat :=
  ((searchF a m (p.set 0 r) (m + 1) 0 u v (List.replicate (m + 1) BIG) way (List.replicate (m + 1) false)).1, (searchF a m (p.set 0 r) (m + 1) 0 u v (List.replicate (m + 1) BIG) way (List.replicate (m + 1) false)).2.1,
   augF (searchF a m (p.set 0 r) (m + 1) 0 u v (List.replicate (m + 1) BIG) way (List.replicate (m + 1) false)).2.2.1 (m + 2) (searchF a m (p.set 0 r) (m + 1) 0 u v (List.replicate (m + 1) BIG) way (List.replicate (m + 1) false)).2.2.2 (p.set 0 r),
   (searchF a m (p.set 0 r) (m + 1) 0 u v (List.replicate (m + 1) BIG) way (List.replicate (m + 1) false)).2.2.1)
theorem MI.pc {a : Nat → Nat → Int} {n m k : Nat} {u v : List Int} {p way : List Nat} (h : MI a n m k u v p way) (hk : k < n) (hnm : n ≤ m) : PC n m (k + 1) (p.set 0 (k + 1)) := by
  have hl := h.lp
  have e0 : (p.set 0 (k + 1)).getD 0 0 = k + 1 := getD_set_eq _ _ _ _ (by omega)
  have e1 : ∀ j, 1 ≤ j → (p.set 0 (k + 1)).getD j 0 = p.getD j 0 := fun j hj => getD_set_ne _ _ _ _ _ (by omega)
  refine ⟨by simpa using h.lp, e0, by omega, by omega, fun j h1 h2 => by rw [e1 j h1]; have := h.le j h1 h2; omega, fun i j hi hj he h0 => ?_, ?_⟩
  · by_cases ei : i = 0 <;> by_cases ej : j = 0
    · rw [ei, ej]
    · subst ei; rw [e0, e1 j (by omega)] at he; have := h.le j (by omega) hj; omega
    · subst ej; rw [e0, e1 i (by omega)] at he; have := h.le i (by omega) hi; omega
    · rw [e1 i (by omega), e1 j (by omega)] at he
      rw [e1 i (by omega)] at h0
      exact h.inj i j (by omega) hi (by omega) hj he h0
  · refine Classical.byContradiction fun hno => ?_
    have hall : ∀ j, 1 ≤ j → j ≤ m → p.getD j 0 ≠ 0 := fun j h1 h2 h3 => hno ⟨j, h1, h2, by rw [e1 j h1]; exact h3⟩
    have : (List.range m).length ≤ (List.range k).length := map_le (f := fun j => p.getD (j + 1) 0 - 1) (nodup_range m) (fun x hx y hy e => by
      have hx := List.mem_range.1 hx
      have hy := List.mem_range.1 hy
      have a1 := hall (x + 1) (by omega) (by omega)
      have a2 := hall (y + 1) (by omega) (by omega)
      replace e : p.getD (x + 1) 0 - 1 = p.getD (y + 1) 0 - 1 := e
      have := h.inj (x + 1) (y + 1) (by omega) (by omega) (by omega) (by omega) (by omega) a1
      omega) (fun x hx => by
      have hx := List.mem_range.1 hx
      have a1 := hall (x + 1) (by omega) (by omega)
      have a2 := h.le (x + 1) (by omega) (by omega)
      exact List.mem_range.2 (by omega))
    simp at this; omega
/-- What is known of the prices when the search for one more row's column has ended. -/
theorem place_ok {a : Nat → Nat → Int} {n m k : Nat} {u v : List Int} {p way : List Nat} (ha : ∀ i j, 1 ≤ i → i ≤ n → 1 ≤ j → j ≤ m → 0 ≤ a i j ∧ a i j ≤ DEAR) (hn : n ≤ 1000) (hnm : n ≤ m) (hk : k < n) (h : MI a n m k u v p way) :
    MI a n m (k + 1) (placeF a n m (k + 1) u v p way).1 (placeF a n m (k + 1) u v p way).2.1 (placeF a n m (k + 1) u v p way).2.2.1 (placeF a n m (k + 1) u v p way).2.2.2 := by
  have hD : DEAR = 1000000000000 := rfl
  have hp := h.pc hk hnm
  have hl := h.lp
  have e1 : ∀ j, 1 ≤ j → (p.set 0 (k + 1)).getD j 0 = p.getD j 0 := fun j hj => getD_set_ne _ _ _ _ _ (by omega)
  have gb : ∀ j, 1 ≤ j → j ≤ m → (List.replicate (m + 1) BIG).getD j 0 = BIG := fun j _ hj => by rw [List.getD_eq_getElem?_getD, List.getElem?_replicate, if_pos (by omega)]; rfl
  have hkd : DEAR * k ≤ DEAR * 1000 := Int.mul_le_mul_of_nonneg_left (by omega) (by omega)
  have hs0 : SI a n m (k + 1) u v (p.set 0 (k + 1)) [] 0 u v (List.replicate (m + 1) BIG) way (List.replicate (m + 1) false) 0 := by
    refine ⟨h.lu, h.lv, by simp, h.lw, by simp, by omega, by simp, fun j => ⟨fun h => absurd h fresh_false, fun h => by simp at h⟩, by simp, by simp, trivial, .inl ⟨rfl, rfl⟩, by simp, h.feas, fun j h1 h2 h3 => ?_, h.vneg, fun j h1 h2 h3 => ?_, fun h => absurd rfl h, fun _ => gb, Int.le_refl _, by omega, h.u0 _ (by omega), fun i => by omega, fun j => by omega, fun _ _ => rfl⟩
    · rw [e1 j h1] at h3 ⊢; exact h.tm j h1 h2 h3
    · rw [e1 j h1] at h3; exact h.vfree j h1 h2 h3
  obtain ⟨ord, least', used', dl, u', v', way', col', he, hs, hc0, hcz⟩ := search_ok hp ha (fun i => by have := (h.ub i).1; omega) (fun j => by have := (h.vb j).1; omega) (m + 1) [] 0 u v _ way _ 0 hs0 (by rw [hp.p0]; omega) (by simp)
  unfold placeF
  rw [he]
  show MI a n m (k + 1) u' v' (augF way' (m + 2) col' (p.set 0 (k + 1))) way'
  have hol : ord.length ≤ m + 1 := by
    have := length_le_of_nodup ord (List.range (m + 1)) hs.path.nodup (fun x hx => List.mem_range.2 (by have := hs.om x hx; omega))
    simpa using this
  have hnc := hs.nc
  have hH : Hole m (k + 1) col' (p.set 0 (k + 1)) := by
    refine ⟨hp.len, fun j hj _ => hp.le hj, fun i h1 h2 => ?_, fun i j hi hj _ _ e h0 => hp.inj i j hi hj e h0⟩
    by_cases ei : i = k + 1
    · subst ei; exact ⟨0, by omega, fun e => hc0 e.symm, hp.p0⟩
    · obtain ⟨j, a1, a2, a3⟩ := h.all i h1 (by omega)
      refine ⟨j, a2, fun e => ?_, by rw [e1 j a1]; exact a3⟩
      subst e
      rw [e1 j a1] at hcz; omega
  obtain ⟨A1, A2, A3⟩ := aug_ok (m := m) (r := k + 1) (way := way') (p0 := p.set 0 (k + 1)) (tg := fun i j => u'.getD i 0 + v'.getD j 0 = a i j) (m + 2) ord col' (p.set 0 (k + 1)) (by omega) hs.path hs.om hs.cm hnc
    (.inr (by
      rcases hs.hd with ⟨_, e⟩ | ⟨_, e2, e3, e4⟩
      · exact absurd e hc0
      · exact ⟨hc0, e3, e4⟩)) (fun _ _ => rfl) hs.op hs.tp hH (fun j h1 h2 _ h4 => hs.tm j h1 h2 h4) (fun _ _ _ h => h)
  have hdl0 := hs.d0
  have hdl1 := hs.d1
  have hsum : DEAR * ((k + 1 : Nat) : Int) = DEAR * k + DEAR := by rw [Int.natCast_add, Int.mul_add]; simp
  refine ⟨hs.lu, hs.lv, A1.len, hs.lw, fun j h1 h2 => A1.le j h2 (by omega), fun i j h1 h2 h3 h4 e h0 => A1.inj i j h2 h4 (by omega) (by omega) e h0, fun i h1 h2 => ?_, hs.feas, A2, hs.vneg, fun j h1 h2 h3 => hs.vfree j h1 h2 (A3 j h1 h2 h3), fun i hi => ?_, fun i => ?_, fun j => ?_⟩
  · obtain ⟨j, b1, b2, b3⟩ := A1.all i h1 h2
    exact ⟨j, by omega, b1, b3⟩
  · rw [hs.fl i hi]; exact h.u0 i (by omega)
  · have := hs.du i
    have := h.ub i
    omega
  · have := hs.dv j
    have := h.vb j
    omega
def solveF (a : Nat → Nat → Int) (n m : Nat) : Nat → List Int × List Int × List Nat × List Nat
  | 0 => (List.replicate (n + 1) 0, List.replicate (m + 1) 0, List.replicate (m + 1) 0, List.replicate (m + 1) 0)
  | k + 1 => placeF a n m (k + 1) (solveF a n m k).1 (solveF a n m k).2.1 (solveF a n m k).2.2.1 (solveF a n m k).2.2.2
theorem solve_ok {a : Nat → Nat → Int} {n m : Nat} (ha : ∀ i j, 1 ≤ i → i ≤ n → 1 ≤ j → j ≤ m → 0 ≤ a i j ∧ a i j ≤ DEAR) (hn : n ≤ 1000) (hnm : n ≤ m) : ∀ k, k ≤ n → MI a n m k (solveF a n m k).1 (solveF a n m k).2.1 (solveF a n m k).2.2.1 (solveF a n m k).2.2.2
  | 0, _ => MI.start ha
  | k + 1, hk => place_ok ha hn hnm (by omega) (solve_ok ha hn hnm k (by omega))

/-! ### the cheapest assignment -/
/-- A table whose costs are -1 to 10^9. -/
def CostOk (T : List (List Int)) (m : Nat) : Prop := ∀ i j, i < T.length → j < m → -1 ≤ ct T i j ∧ ct T i j ≤ 1000000000
theorem aF_bd {T : List (List Int)} {m : Nat} (h : CostOk T m) : ∀ i j, 1 ≤ i → i ≤ T.length → 1 ≤ j → j ≤ m → 0 ≤ aF T i j ∧ aF T i j ≤ DEAR := fun i j h1 h2 h3 h4 => by
  have := h (i - 1) (j - 1) (by omega) (by omega)
  have hD : DEAR = 1000000000000 := rfl
  unfold aF
  split <;> omega
/-- The column of row i, of a finished solver. -/
noncomputable def toOf (p : List Nat) (m i : Nat) : Nat := by
  classical
  exact if h : ∃ j, j < m ∧ p.getD (j + 1) 0 = i + 1 then Classical.choose h else 0
/-- THE PRICES AND ROWS OF A FINISHED SOLVER PROVE AN ASSIGNMENT, if the table has one. -/
theorem solver_opt {T : List (List Int)} {m : Nat} {u v : List Int} {p way : List Nat} (hc : CostOk T m) (hn : T.length ≤ 64) (h : MI (aF T) T.length m T.length u v p way) (hx : ∃ to, Asg T m to) :
    Duals T m (fun i => u.getD (i + 1) 0) (fun j => v.getD (j + 1) 0) ∧ Opt T m (fun i => u.getD (i + 1) 0) (fun j => v.getD (j + 1) 0) ((List.range T.length).map (toOf p m)) ∧
    (∀ j, j < m → p.getD (j + 1) 0 ≠ 0 → 0 ≤ ct T (p.getD (j + 1) 0 - 1) j) ∧ sumN (fun j => if p.getD (j + 1) 0 = 0 then 0 else ct T (p.getD (j + 1) 0 - 1) j) m = costA T ((List.range T.length).map (toOf p m)) := by
  have hD : DEAR = 1000000000000 := rfl
  have hbd := aF_bd hc
  have to1 : ∀ i, i < T.length → toOf p m i < m ∧ p.getD (toOf p m i + 1) 0 = i + 1 := fun i hi => by
    have hex : ∃ j, j < m ∧ p.getD (j + 1) 0 = i + 1 := by
      obtain ⟨j, h1, h2, h3⟩ := h.all (i + 1) (by omega) (by omega)
      exact ⟨j - 1, by omega, by rw [show j - 1 + 1 = j by omega]; exact h3⟩
    unfold toOf
    rw [dif_pos hex]
    exact Classical.choose_spec hex
  have to2 : ∀ j, j < m → p.getD (j + 1) 0 ≠ 0 → toOf p m (p.getD (j + 1) 0 - 1) = j := fun j hj h0 => by
    have hle := h.le (j + 1) (by omega) (by omega)
    obtain ⟨h1, h2⟩ := to1 (p.getD (j + 1) 0 - 1) (by omega)
    have := h.inj (toOf p m (p.getD (j + 1) 0 - 1) + 1) (j + 1) (by omega) (by omega) (by omega) (by omega) (by omega) (by omega)
    omega
  -- the sum of what is paid, by prices
  have hget : ∀ i, i < T.length → ((List.range T.length).map (toOf p m)).getD i 0 = toOf p m i := fun i hi => by rw [getD_get _ _ _ (by simpa using hi)]; simp
  have hnd : ((List.range T.length).map (toOf p m)).Nodup := nodup_map (nodup_range _) (fun x hx y hy e => by
    have a1 := (to1 x (List.mem_range.1 hx)).2
    have a2 := (to1 y (List.mem_range.1 hy)).2
    rw [e] at a1
    omega)
  have tight : ∀ i, i < T.length → u.getD (i + 1) 0 + v.getD (toOf p m i + 1) 0 = aF T (i + 1) (toOf p m i + 1) := fun i hi => by
    obtain ⟨h1, h2⟩ := to1 i hi
    have := h.tm (toOf p m i + 1) (by omega) (by omega) (by omega)
    rwa [h2] at this
  have hfree : sumN (fun j => if j ∈ (List.range T.length).map (toOf p m) then 0 else v.getD (j + 1) 0) m = 0 := by
    rw [sumN_congr (g := fun _ => 0) m (fun j hj => ?_), sumN_zero]
    by_cases hm : j ∈ (List.range T.length).map (toOf p m)
    · rw [if_pos hm]
    · rw [if_neg hm]
      refine h.vfree (j + 1) (by omega) (by omega) (Classical.byContradiction fun h0 => hm ?_)
      have hle := h.le (j + 1) (by omega) (by omega)
      exact List.mem_map.2 ⟨p.getD (j + 1) 0 - 1, List.mem_range.2 (by omega), to2 j hj h0⟩
  have hsum : sumN (fun i => aF T (i + 1) (toOf p m i + 1)) T.length = sumN (fun i => u.getD (i + 1) 0) T.length + sumN (fun j => v.getD (j + 1) 0) m := by
    rw [sumN_list (fun j => v.getD (j + 1) 0) m _ hnd (fun j hj => by obtain ⟨i, hi, rfl⟩ := List.mem_map.1 hj; exact (to1 i (List.mem_range.1 hi)).1), hfree, sumN_map, List.length_map, List.length_range]
    rw [sumN_congr (f := fun i => v.getD (((List.range T.length).map (toOf p m)).getD i 0 + 1) 0) (g := fun i => v.getD (toOf p m i + 1) 0) _ (fun i hi => by rw [hget i hi])]
    rw [Int.add_zero, ← sumN_add]
    exact sumN_congr _ (fun i hi => (tight i hi).symm)
  -- it is little, by an assignment that there is
  obtain ⟨to, hto⟩ := hx
  have hlow : sumN (fun i => u.getD (i + 1) 0) T.length + sumN (fun j => v.getD (j + 1) 0) m ≤ costA T to := by
    rw [sumN_list (fun j => v.getD (j + 1) 0) m to hto.nd hto.lt, sumN_map, hto.len]
    have h1 : sumN (fun i => u.getD (i + 1) 0 + v.getD (to.getD i 0 + 1) 0) T.length ≤ costA T to := sumN_le _ (fun i hi => by
      obtain ⟨h1, h2⟩ := hto.ok i hi
      have := h.feas (i + 1) (to.getD i 0 + 1) (by omega) (by omega) (by omega) (by omega)
      unfold aF at this
      simp only [Nat.add_sub_cancel] at this
      rw [if_neg (by omega)] at this
      exact this)
    rw [sumN_add] at h1
    have h2 : sumN (fun j => if j ∈ to then 0 else v.getD (j + 1) 0) m ≤ sumN (fun _ => 0) m := sumN_le _ (fun j hj => by
      by_cases hm : j ∈ to
      · rw [if_pos hm]; exact Int.le_refl _
      · rw [if_neg hm]; exact h.vneg (j + 1) (by omega) (by omega))
    rw [sumN_zero] at h2
    omega
  have hcost : costA T to ≤ 1000000000 * T.length := (sumN_bd _ (fun i hi => ⟨(hto.ok i hi).2, (hc i _ hi (hto.ok i hi).1).2⟩)).2
  have hpos : ∀ i, i < T.length → aF T (i + 1) (toOf p m i + 1) < DEAR := fun i hi => by
    have hnn : ∀ i, i < T.length → 0 ≤ aF T (i + 1) (toOf p m i + 1) := fun i hi => (hbd _ _ (by omega) (by omega) (by omega) (by have := (to1 i hi).1; omega)).1
    have hone : aF T (i + 1) (toOf p m i + 1) ≤ sumN (fun i => aF T (i + 1) (toOf p m i + 1)) T.length := by
      have h1 : sumN (fun k => if k = i then aF T (i + 1) (toOf p m i + 1) else 0) T.length ≤ sumN (fun i => aF T (i + 1) (toOf p m i + 1)) T.length := sumN_le _ (fun k hk => by
        by_cases e : k = i
        · subst e; rw [if_pos rfl]; exact Int.le_refl _
        · rw [if_neg e]; exact hnn k hk)
      rw [sumN_one, if_pos hi] at h1
      exact h1
    omega
  have hct : ∀ i, i < T.length → 0 ≤ ct T i (toOf p m i) ∧ aF T (i + 1) (toOf p m i + 1) = ct T i (toOf p m i) := fun i hi => by
    have h1 := hpos i hi
    have h2 := (hc i _ hi (to1 i hi).1).1
    unfold aF at h1 ⊢
    simp only [Nat.add_sub_cancel] at h1 ⊢
    by_cases e : ct T i (toOf p m i) = -1
    · rw [if_pos e] at h1; omega
    · rw [if_neg e]; exact ⟨by omega, rfl⟩
  refine ⟨⟨fun j hj => h.vneg (j + 1) (by omega) (by omega), fun i hi j hj h0 => ?_⟩, ⟨by simp, hnd, fun i hi => ?_, fun j hj hv => ?_⟩, fun j hj h0 => ?_, ?_⟩
  · have := h.feas (i + 1) (j + 1) (by omega) (by omega) (by omega) (by omega)
    unfold aF at this
    simp only [Nat.add_sub_cancel] at this
    rw [if_neg (by omega)] at this
    exact this
  · rw [hget i hi]
    exact ⟨(to1 i hi).1, (hct i hi).1, by have := tight i hi; rw [(hct i hi).2] at this; exact this⟩
  · have h0 : p.getD (j + 1) 0 ≠ 0 := fun e => by
      have := h.vfree (j + 1) (by omega) (by omega) e
      omega
    have hle := h.le (j + 1) (by omega) (by omega)
    exact List.mem_map.2 ⟨p.getD (j + 1) 0 - 1, List.mem_range.2 (by omega), to2 j hj h0⟩
  · have hle := h.le (j + 1) (by omega) (by omega)
    have := (hct (p.getD (j + 1) 0 - 1) (by omega)).1
    rwa [to2 j hj h0] at this
  · rw [sumN_list _ m _ hnd (fun j hj => by obtain ⟨i, hi, rfl⟩ := List.mem_map.1 hj; exact (to1 i (List.mem_range.1 hi)).1), sumN_map, List.length_map, List.length_range]
    have hz : sumN (fun j => if j ∈ (List.range T.length).map (toOf p m) then 0 else if p.getD (j + 1) 0 = 0 then 0 else ct T (p.getD (j + 1) 0 - 1) j) m = 0 := by
      rw [sumN_congr (g := fun _ => 0) m (fun j hj => ?_), sumN_zero]
      by_cases hm : j ∈ (List.range T.length).map (toOf p m)
      · rw [if_pos hm]
      · rw [if_neg hm, if_pos]
        refine Classical.byContradiction fun h0 => hm ?_
        have hle := h.le (j + 1) (by omega) (by omega)
        exact List.mem_map.2 ⟨p.getD (j + 1) 0 - 1, List.mem_range.2 (by omega), to2 j hj h0⟩
    rw [hz, Int.add_zero]
    refine sumN_congr _ (fun i hi => ?_)
    rw [hget i hi, (to1 i hi).2, if_neg (by omega), Nat.add_sub_cancel]
end Go.Proofs.Ytjdhcdoekfikpaa
