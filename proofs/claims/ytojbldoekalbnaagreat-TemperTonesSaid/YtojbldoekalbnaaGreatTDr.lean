import Derived.Test.YtojbldoekalbnaaGreatTDp
/-
  Plain mathematics of a ring: the layers of temper.Best, and what a run of them says of the steps. No program in sight.
-/
namespace Go.Proofs.YtojbldoekalbnaaGreat
/-- A ring, its notes and span as plain numbers. -/
structure Rg where
  N : Nat
  S : Nat
  low : Int
  high : Int
  total : Int
  pure : Int
  worst : Int
  fi : List Int
  th : List Int
structure Rg.Ok (r : Rg) : Prop where
  n1 : 3 ≤ r.N
  n2 : r.N ≤ 24
  s1 : 2 ≤ r.S
  s2 : r.S ≤ 4
  s3 : r.S < r.N
  l1 : -12 ≤ r.low
  l2 : r.low ≤ 12
  h1 : r.low ≤ r.high
  h2 : r.high ≤ r.low + 3
  t1 : -288 ≤ r.total
  t2 : r.total ≤ 288
  p1 : -100 ≤ r.pure
  p2 : r.pure ≤ 100
  w1 : 0 ≤ r.worst
  w2 : r.worst ≤ 1000
  fl : r.fi.length = r.N
  tl : r.th.length = r.N
  fw : ∀ x ∈ r.fi, 0 ≤ x ∧ x ≤ 1000
  tw : ∀ x ∈ r.th, 0 ≤ x ∧ x ≤ 1000
def Rg.sums (r : Rg) : Nat := r.N * 3 + 1
def Rg.codes (r : Rg) : Nat := 4 ^ (r.S - 1)
/-- The error of the third that a step ends, by the code of the steps before it. -/
def Rg.offC (r : Rg) (code : Nat) (a : Int) : Nat → Int
  | 0 => r.pure - a
  | k + 1 => r.offC code a k - (((code / 4 ^ k) % 4 : Nat) + r.low)
def Rg.lay (r : Rg) (first : List Int) : Lay (Nat × Nat) where
  tr := fun t s a =>
    if -r.worst ≤ r.offC s.1 a (r.S - 1) ∧ r.offC s.1 a (r.S - 1) ≤ r.worst ∧ (if t < r.N then s.2 + (a - r.low).toNat else s.2) < r.sums then
      some (((s.1 * 4 + (a - r.low).toNat) % r.codes, if t < r.N then s.2 + (a - r.low).toNat else s.2),
        r.th.getD ((t - (r.S - 1)) % r.N) 0 * r.offC s.1 a (r.S - 1) * r.offC s.1 a (r.S - 1) + if t < r.N then r.fi.getD t 0 * a * a else 0)
    else none
  fin := fun s => decide ((s.2 : Int) = r.total - r.N * r.low)
  lo := fun t => if t < r.N then r.low else first.getD (t - r.N) 0
  hi := fun t => if t < r.N then r.high else first.getD (t - r.N) 0
/-- The error of the third that ends at a place of the endless steps. -/
def Rg.errF (r : Rg) (w : Nat → Int) (t : Nat) : Nat → Int
  | 0 => r.pure - w t
  | k + 1 => r.errF w t k - w (t - 1 - k)
/-- The code of the steps before a place. -/
def Rg.codeF (r : Rg) (w : Nat → Int) (t : Nat) : Nat → Nat
  | 0 => 0
  | k + 1 => r.codeF w t k + (w (t - 1 - k) - r.low).toNat * 4 ^ k
def Rg.sumF (r : Rg) (w : Nat → Int) : Nat → Nat
  | 0 => 0
  | t + 1 => r.sumF w t + if t < r.N then (w t - r.low).toNat else 0
def Rg.priceF (r : Rg) (w : Nat → Int) (t : Nat) : Int :=
  r.th.getD ((t - (r.S - 1)) % r.N) 0 * r.errF w t (r.S - 1) * r.errF w t (r.S - 1) + if t < r.N then r.fi.getD t 0 * w t * w t else 0
def totF (f : Nat → Int) : Nat → Nat → Int
  | _, 0 => 0
  | t, n + 1 => f t + totF f (t + 1) n
def listF (w : Nat → Int) : Nat → Nat → List Int
  | _, 0 => []
  | t, n + 1 => w t :: listF w (t + 1) n
theorem sumF_le {r : Rg} {w : Nat → Int} (hw : ∀ i, r.low ≤ w i ∧ w i ≤ r.low + 3) : ∀ t, r.sumF w t ≤ 3 * (min t r.N)
  | 0 => by simp [Rg.sumF]
  | t + 1 => by
    have h := sumF_le hw t
    have h2 := hw t
    rw [Rg.sumF]
    by_cases c : t < r.N
    · rw [if_pos c]; omega
    · rw [if_neg c]; omega
theorem off_err {r : Rg} (hr : r.Ok) {w : Nat → Int} (hw : ∀ i, r.low ≤ w i ∧ w i ≤ r.low + 3) {t : Nat} (ht : r.S - 1 ≤ t) :
    r.offC (r.codeF w t (r.S - 1)) (w t) (r.S - 1) = r.errF w t (r.S - 1) ∧
    (r.codeF w t (r.S - 1) * 4 + (w t - r.low).toNat) % r.codes = r.codeF w (t + 1) (r.S - 1) := by
  have h1 := hr.s1
  have h2 := hr.s2
  obtain e | e | e : r.S = 2 ∨ r.S = 3 ∨ r.S = 4 := by omega
  · obtain ⟨u, rfl⟩ : ∃ u, t = u + 1 := ⟨t - 1, by omega⟩
    have a0 := hw u
    have a1 := hw (u + 1)
    simp only [e, Rg.codes, Nat.reduceSub, Rg.offC, Rg.errF, Rg.codeF, Nat.reducePow, Nat.add_sub_cancel, Nat.sub_zero] at *
    omega
  · obtain ⟨u, rfl⟩ : ∃ u, t = u + 2 := ⟨t - 2, by omega⟩
    have a0 := hw u
    have a1 := hw (u + 1)
    have a2 := hw (u + 2)
    simp only [e, Rg.codes, Nat.reduceSub, Rg.offC, Rg.errF, Rg.codeF, Nat.reducePow, Nat.reduceSubDiff, Nat.add_sub_cancel, Nat.sub_zero] at *
    omega
  · obtain ⟨u, rfl⟩ : ∃ u, t = u + 3 := ⟨t - 3, by omega⟩
    have a0 := hw u
    have a1 := hw (u + 1)
    have a2 := hw (u + 2)
    have a3 := hw (u + 3)
    simp only [e, Rg.codes, Nat.reduceSub, Rg.offC, Rg.errF, Rg.codeF, Nat.reducePow, Nat.reduceSubDiff, Nat.add_sub_cancel, Nat.sub_zero] at *
    omega
def Rg.fineF (r : Rg) (w : Nat → Int) (t n : Nat) : Prop := ∀ i, t ≤ i → i < t + n → -r.worst ≤ r.errF w i (r.S - 1) ∧ r.errF w i (r.S - 1) ≤ r.worst
theorem run_iff {r : Rg} (hr : r.Ok) {w : Nat → Int} (hw : ∀ i, r.low ≤ w i ∧ w i ≤ r.low + 3) {first : List Int} : ∀ (n t : Nat) (c : Int), r.S - 1 ≤ t →
    ((r.lay first).run t (r.codeF w t (r.S - 1), r.sumF w t) (listF w t n) = some c ↔
      r.fineF w t n ∧ (r.sumF w (t + n) : Int) = r.total - r.N * r.low ∧ c = totF (r.priceF w) t n)
  | 0, t, c, ht => by
    simp only [listF, Lay.run, Rg.lay, totF, Nat.add_zero, decide_eq_true_eq]
    constructor
    · intro h
      by_cases e : (r.sumF w t : Int) = r.total - r.N * r.low
      · rw [if_pos e] at h
        simp only [Option.some.injEq] at h
        exact ⟨fun i h1 h2 => absurd h2 (by omega), e, h.symm⟩
      · rw [if_neg e] at h; cases h
    · rintro ⟨-, h, rfl⟩
      rw [if_pos h]
  | n + 1, t, c, ht => by
    have ih := run_iff hr hw (first := first) n (t + 1)
    obtain ⟨he, hc⟩ := off_err hr hw ht
    have hsm := sumF_le hw t
    have hwt := hw t
    have hup : (if t < r.N then r.sumF w t + (w t - r.low).toNat else r.sumF w t) = r.sumF w (t + 1) := by
      rw [Rg.sumF]
      by_cases c : t < r.N
      · rw [if_pos c, if_pos c]
      · rw [if_neg c, if_neg c, Nat.add_zero]
    have hlt : r.sumF w (t + 1) < r.sums := by
      have := sumF_le hw (t + 1)
      unfold Rg.sums; omega
    rw [listF, Lay.run]
    by_cases hf : -r.worst ≤ r.errF w t (r.S - 1) ∧ r.errF w t (r.S - 1) ≤ r.worst
    · have htr : (r.lay first).tr t (r.codeF w t (r.S - 1), r.sumF w t) (w t) = some ((r.codeF w (t + 1) (r.S - 1), r.sumF w (t + 1)), r.priceF w t) := by
        simp only [Rg.lay, he, hc, hup]
        rw [if_pos ⟨hf.1, hf.2, hlt⟩]
        rfl
      rw [htr]
      dsimp only
      cases hru : (r.lay first).run (t + 1) (r.codeF w (t + 1) (r.S - 1), r.sumF w (t + 1)) (listF w (t + 1) n) with
      | none =>
        refine ⟨fun h => (by cases h), fun ⟨h1, h2, h3⟩ => ?_⟩
        have := (ih (totF (r.priceF w) (t + 1) n) (by omega)).2 ⟨fun i k1 k2 => h1 i (by omega) (by omega), by rw [← h2]; congr 2; omega, rfl⟩
        rw [hru] at this; cases this
      | some d =>
        obtain ⟨k1, k2, k3⟩ := (ih d (by omega)).1 hru
        dsimp only
        rw [Option.some.injEq, totF]
        constructor
        · rintro rfl
          refine ⟨fun i m1 m2 => ?_, by rw [← k2]; congr 2; omega, by rw [k3]⟩
          by_cases e : i = t
          · subst e; exact hf
          · exact k1 i (by omega) (by omega)
        · rintro ⟨-, -, rfl⟩; rw [k3]
    · have htr : (r.lay first).tr t (r.codeF w t (r.S - 1), r.sumF w t) (w t) = none := by
        simp only [Rg.lay, he]
        rw [if_neg (fun h => hf ⟨h.1, h.2.1⟩)]
      rw [htr]
      exact ⟨fun h => (by cases h), fun ⟨h1, _⟩ => absurd (h1 t (Nat.le_refl _) (by omega)) hf⟩
theorem wt_pos {l : List Int} (i : Nat) (hl : ∀ x ∈ l, 0 ≤ x ∧ x ≤ 1000) : 0 ≤ l.getD i 0 := by
  rw [List.getD_eq_getElem?_getD]
  cases h : l[i]? with
  | none => exact Int.le_refl _
  | some x => exact (hl x (List.mem_of_getElem? h)).1
theorem sq_pos {x : Int} (y : Int) (hx : 0 ≤ x) : 0 ≤ x * y * y := by
  rw [Int.mul_assoc]
  refine Int.mul_nonneg hx ?_
  rcases Int.le_total 0 y with c | c
  · exact Int.mul_nonneg c c
  · exact Int.mul_nonneg_of_nonpos_of_nonpos c c
theorem lay_pos {r : Rg} (hr : r.Ok) (first : List Int) : (r.lay first).Pos := by
  intro t s a s' p h
  by_cases c : -r.worst ≤ r.offC s.1 a (r.S - 1) ∧ r.offC s.1 a (r.S - 1) ≤ r.worst ∧ (if t < r.N then s.2 + (a - r.low).toNat else s.2) < r.sums
  · rw [show (r.lay first).tr t s a = _ from if_pos c] at h
    simp only [Option.some.injEq, Prod.mk.injEq] at h
    obtain ⟨-, rfl⟩ := h
    refine Int.add_nonneg (sq_pos _ (wt_pos _ hr.tw)) ?_
    split
    · exact sq_pos _ (wt_pos _ hr.fw)
    · exact Int.le_refl _
  · rw [show (r.lay first).tr t s a = _ from if_neg c] at h
    cases h
end Go.Proofs.YtojbldoekalbnaaGreat
