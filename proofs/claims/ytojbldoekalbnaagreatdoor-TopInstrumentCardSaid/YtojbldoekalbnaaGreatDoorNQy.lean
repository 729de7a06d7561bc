/-
  Contracts of the first reference's Mul, DivMod, Gcd and the second's of, reduce, Make, Mul; each states its condition.
-/
import Derived.Test.YtojbldoekalbnaaGreatDoorNQx
namespace Go.Proofs.YtojbldoekalbnaaGreatDoor
section
open Go.RowKit
end
section
open Go.RowKit
theorem limb_room (m k : Nat) : lim (m * 2 ^ (k + 1)) (k / 32) + 2 ^ (k % 32) < 4294967296 := by
  obtain ⟨r, hr⟩ : ∃ r, k % 32 = r := ⟨_, rfl⟩
  obtain ⟨q, hq⟩ : ∃ q, k / 32 = q := ⟨_, rfl⟩
  have hr32 : r < 32 := by omega
  rw [hr, hq]
  have e : m * 2 ^ (k + 1) = m * 2 ^ (r + 1) * pw q := by
    rw [pw_two, Nat.mul_assoc, ← Nat.pow_add, show r + 1 + 32 * q = k + 1 by omega]
  unfold lim
  rw [e, Nat.mul_div_cancel _ (pw_pos q)]
  have e2 : (4294967296 : Nat) = 2 ^ (31 - r) * 2 ^ (r + 1) := by
    rw [← Nat.pow_add, show 31 - r + (r + 1) = 32 by omega]
  have h1 : m * 2 ^ (r + 1) % 4294967296 = m % 2 ^ (31 - r) * 2 ^ (r + 1) := by
    rw [e2, Nat.mul_mod_mul_right]
  rw [h1]
  have h2 : m % 2 ^ (31 - r) < 2 ^ (31 - r) := Nat.mod_lt _ (Nat.pow_pos (by omega))
  have h3 : (m % 2 ^ (31 - r) + 1) * 2 ^ (r + 1) ≤ 2 ^ (31 - r) * 2 ^ (r + 1) := Nat.mul_le_mul_right _ h2
  rw [Nat.add_mul, Nat.one_mul, ← e2, Nat.pow_succ] at h3
  have h4 : 0 < 2 ^ r := Nat.pow_pos (by omega)
  rw [Nat.pow_succ]
  omega
/-- One binary digit of a long division. -/
theorem bin_step {a b k X : Nat} (hb : 0 < b) (hX : X = a / 2 ^ (k + 1) % b * 2 + a / 2 ^ k % 2) :
    (X < b → a / 2 ^ k / b = 2 * (a / 2 ^ (k + 1) / b) ∧ a / 2 ^ k % b = X) ∧ (b ≤ X → a / 2 ^ k / b = 2 * (a / 2 ^ (k + 1) / b) + 1 ∧ a / 2 ^ k % b = X - b) := by
  have e : a / 2 ^ k = 2 * (a / 2 ^ (k + 1)) + a / 2 ^ k % 2 := by
    rw [Nat.pow_succ, ← Nat.div_div_eq_div_mul]
    have := Nat.div_add_mod (a / 2 ^ k) 2
    omega
  obtain ⟨y, hy⟩ : ∃ y, a / 2 ^ (k + 1) = y := ⟨_, rfl⟩
  obtain ⟨z, hz⟩ : ∃ z, a / 2 ^ k % 2 = z := ⟨_, rfl⟩
  rw [hy, hz] at e hX
  rw [hy, e]
  have h1 := Nat.div_add_mod y b
  have h2 := Nat.mod_lt y hb
  obtain ⟨q, hq⟩ : ∃ q, y / b = q := ⟨_, rfl⟩
  obtain ⟨r, hr⟩ : ∃ r, y % b = r := ⟨_, rfl⟩
  rw [hq, hr] at h1
  rw [hr] at hX h2
  rw [hq]
  have hz1 : z ≤ 1 := by have := Nat.mod_lt (a / 2 ^ k) (show 0 < 2 by omega); omega
  have e2 : 2 * y + z = b * (2 * q) + X := by
    rw [← h1, Nat.mul_left_comm b 2 q]; omega
  refine ⟨fun h => ?_, fun h => ?_⟩
  · rw [e2, Nat.mul_add_div hb, Nat.mul_add_mod, Nat.div_eq_of_lt h, Nat.mod_eq_of_lt h]
    exact ⟨Nat.add_zero _, rfl⟩
  · have e3 : b * (2 * q) + X = b * (2 * q + 1) + (X - b) := by rw [Nat.mul_add, Nat.mul_one]; omega
    have h5 : X - b < b := by omega
    rw [e2, e3, Nat.mul_add_div hb, Nat.mul_add_mod, Nat.div_eq_of_lt h5, Nat.mod_eq_of_lt h5]
    exact ⟨Nat.add_zero _, rfl⟩
end
section
open Go.RowKit
/-- A signed number of the second reference. -/
def Bg (w : World) (V : Value) (x : Int) : Prop := ∃ A n c, V = .agg #[.bool (decide (x < 0)), .slice A n c] ∧ n ≤ c ∧ Nm w A n x.natAbs
theorem Bg.below {w w' : World} {V : Value} {x : Int} (h : Bg w V x) (hb : Below w.heap.size w w') : Bg w' V x := by
  obtain ⟨A, n, c, e, h1, h2⟩ := h
  exact ⟨A, n, c, e, h1, h2.below hb⟩
theorem set2_heap {W : World} {z : Nat} {t : TypeId} {u0 u1 : Value} (h : W.heap[z]? = some (.cells #[u0, u1] t (0, 0))) (a b : Value) : ((W.setCell ⟨z, 0, none⟩ a).setCell ⟨z, 1, none⟩ b).heap[z]? = some (.cells #[a, b] t (0, 0)) := by
  simp only [World.setCell, Array.getElem?_modify, h]
  simp
end
section
open Go.RowKit
theorem ln_small {v : Nat} (h : v < 4294967296) : ln v ≤ 1 := (ln_le_iff 1 v).2 (by rw [pw_one]; exact h)
def lowV (x : Int) (g most : Nat) : Int := if x.natAbs / g ≤ most then qd x g else 0
theorem qd_nat (a : Int) (g : Nat) : (qd a g).natAbs = a.natAbs / g := by
  unfold qd
  split
  · rw [Int.natAbs_neg, Int.natAbs_natCast]
  · rw [Int.natAbs_natCast]
/-- When a reduction is valid. -/
def lowB (a b c d : Int) (g : Nat) : Prop := a.natAbs / g ≤ 960 ∧ b.natAbs / g ≤ 960 ∧ c.natAbs / g ≤ 960 ∧ d.natAbs / g ≤ 24
theorem low_ok {a b c d : Int} (hd : 1 ≤ d) (h : lowB a b c d (g4 a b c d)) : redT a b c d = some (redV a b c d) := by
  have hg : 0 < g4 a b c d := g4_pos (by omega)
  have hdv := (g4_dvd a b c d).2.2.2
  refine redT_yes ((okB_iff _).2 ⟨redV_one hg, ?_, ?_, ?_, ?_, ?_⟩)
  · show 1 ≤ qd d (g4 a b c d)
    unfold qd
    rw [if_neg (by omega)]
    have := Nat.div_pos (Nat.le_of_dvd (by omega) hdv) hg
    omega
  · show qd d (g4 a b c d) ≤ 24
    have := h.2.2.2
    unfold qd
    rw [if_neg (by omega)]
    omega
  · show (qd a (g4 a b c d)).natAbs ≤ 960
    rw [qd_nat]; exact h.1
  · show (qd b (g4 a b c d)).natAbs ≤ 960
    rw [qd_nat]; exact h.2.1
  · show (qd c (g4 a b c d)).natAbs ≤ 960
    rw [qd_nat]; exact h.2.2.1
theorem low_no {a b c d : Int} (_hd : 1 ≤ d) (h : ¬ lowB a b c d (g4 a b c d)) : redT a b c d = none := by
  rcases hk : (redV a b c d).okB with _ | _
  · exact redT_no hk
  · refine absurd ?_ h
    have ho := (okB_iff _).1 hk
    have h1 : (qd a (g4 a b c d)).natAbs ≤ 960 := ho.two
    have h2 : (qd b (g4 a b c d)).natAbs ≤ 960 := ho.three
    have h3 : (qd c (g4 a b c d)).natAbs ≤ 960 := ho.five
    have h4 : 1 ≤ qd d (g4 a b c d) := ho.lo
    have h5 : qd d (g4 a b c d) ≤ 24 := ho.hi
    have h6 : (qd d (g4 a b c d)).natAbs ≤ 24 := by omega
    rw [qd_nat] at h1 h2 h3 h6
    exact ⟨h1, h2, h3, h6⟩
/-- Five blocks laid one after the other. -/
theorem five_new (w : World) (o0 o1 o2 o3 o4 : Obj) {W : World} (hW : ((((w.alloc o0).alloc o1).alloc o2).alloc o3).alloc o4 = W) : (W.heap[w.heap.size]? = some o0 ∧ W.heap[w.heap.size + 1]? = some o1 ∧ W.heap[w.heap.size + 2]? = some o2 ∧ W.heap[w.heap.size + 3]? = some o3 ∧ W.heap[w.heap.size + 4]? = some o4) ∧ w.heap.size + 4 < W.heap.size ∧ Below w.heap.size w W := by
  subst hW
  obtain ⟨⟨a0, a1, a2⟩, -, hb⟩ := three_new w o0 o1 o2 rfl
  obtain ⟨W3, hW3⟩ : ∃ W, ((w.alloc o0).alloc o1).alloc o2 = W := ⟨_, rfl⟩
  have s3 : W3.heap.size = w.heap.size + 3 := by rw [← hW3]; simp
  rw [hW3] at a0 a1 a2 hb ⊢
  have h1 := below_new W3 o3
  have h2 := below_new (W3.alloc o3) o4
  have s4 : (W3.alloc o3).heap.size = w.heap.size + 4 := by simp [s3]
  refine ⟨⟨?_, ?_, ?_, ?_, ?_⟩, by simp [s3], ?_⟩
  · exact (h2.block _ (by omega)).trans ((h1.block _ (by omega)).trans a0)
  · exact (h2.block _ (by omega)).trans ((h1.block _ (by omega)).trans a1)
  · exact (h2.block _ (by omega)).trans ((h1.block _ (by omega)).trans a2)
  · exact (h2.block _ (by omega)).trans (by rw [← s3]; exact heap_alloc_new W3 o3)
  · rw [← s4]; exact heap_alloc_new _ o4
  · exact (hb.trans (h1.mono (by omega))).trans (h2.mono (by omega))
theorem bg_agg {w : World} {V : Value} {x : Int} (h : Bg w V x) : ∃ p A n c, V = .agg #[.bool p, .slice A n c] ∧ Num w (.slice A n c) x.natAbs := by
  obtain ⟨A, n, c, e, h1, h2⟩ := h
  exact ⟨_, A, n, c, e, A, n, c, rfl, h1, h2⟩
end
section
open Go.RowKit
end
end Go.Proofs.YtojbldoekalbnaaGreatDoor
