/-
  Contracts of the first reference's Of, Small, Bits, Bit, Cmp, Add, Sub; each states its condition.
-/
import Derived.Test.YtojbldoekalbnaaGreatDoorNOy
namespace Go.Proofs.YtojbldoekalbnaaGreatDoor
section
open Go.RowKit
/-- A row of one's own of limbs. -/
def RowU (w : World) (base : Nat) (V : Value) (n : Nat) (f : Nat → Nat) : Prop := w.ownsRow base 102 1 V n ((List.range n).map fun i => Value.int .u32 (f i : Nat))
theorem RowU.start (w : World) : RowU (w.alloc (.cells #[] 102)) w.heap.size (.slice (some ⟨w.heap.size, 0, none⟩) 0 0) 0 (fun _ => 0) :=
  own_newAt w #[] 102 1 0 w.heap.size rfl (Nat.le_refl _) (by unfold maxLen; omega) rfl
theorem RowU.below {w w' : World} {base n : Nat} {V : Value} {f : Nat → Nat} (h : RowU w base V n f) (hb : Below w.heap.size w w') : RowU w' base V n f := ownsRow_below h hb
theorem RowU.snoc {w : World} {base n : Nat} {V : Value} {f : Nat → Nat} {x : Nat} (h : w.ownsRow base 102 1 V (n + 1) (((List.range n).map fun i => Value.int .u32 (f i : Nat)) ++ [Value.int .u32 (x : Nat)])) : RowU w base V (n + 1) (upd1 f n x) := by
  unfold RowU
  have e : (List.range (n + 1)).map (fun i => Value.int .u32 ((upd1 f n x i : Nat) : Int)) = ((List.range n).map fun i => Value.int .u32 (f i : Nat)) ++ [Value.int .u32 (x : Nat)] := by
    rw [List.range_succ, List.map_append]
    congr 1
    · refine List.map_congr_left fun i hi => ?_
      rw [upd1_ne (by have := List.mem_range.1 hi; omega)]
    · simp [upd1_self]
  rw [e]; exact h
theorem RowU.rd {w : World} {base n c : Nat} {A : Option Addr} {f : Nat → Nat} (h : RowU w base (.slice A n c) n f) (hl : Lm f n) : Rd w A n f := Rd.of_sl hl (Sl.of_own h)
theorem RowU.cap {w : World} {base n c : Nat} {A : Option Addr} {f : Nat → Nat} (h : RowU w base (.slice A n c) n f) : n ≤ c := by
  obtain ⟨A2, c2, e, h1, _, _⟩ := own_slice h
  injection e with _ _ e3
  omega
/-- What an append of one limb leaves. -/
theorem RowU.app_below {w w' w2 : World} {base n : Nat} {V : Value} {f : Nat → Nat} (hb : Below base w w') (h : RowU w' base V n f) (hw : base ≤ w'.heap.size) (hg : w'.grownBy w2 V.ownBlock) : Below base w w2 := below_own hb h (Nat.le_refl _) hw hg
/-- A number in a block from B on. -/
def NumB (B : Nat) (w : World) (V : Value) (v : Nat) : Prop := ∃ A n c, V = .slice A n c ∧ n ≤ c ∧ Nm w A n v ∧ (0 < n → ∀ ad : Addr, A = some ad → B ≤ ad.block)
theorem NumB.num {B : Nat} {w : World} {V : Value} {v : Nat} (h : NumB B w V v) : Num w V v := by
  obtain ⟨A, n, c, e, h1, h2, _⟩ := h
  exact ⟨A, n, c, e, h1, h2⟩
theorem NumB.set {B g k : Nat} {w : World} {V u : Value} {v : Nat} (h : NumB B w V v) (hg : g < B) : Num (w.setCell ⟨g, k, none⟩ u) V v := by
  obtain ⟨A, n, c, e, h1, h2, h3⟩ := h
  exact ⟨A, n, c, e, h1, h2.kx (S := fun j => j = g) (kx_set (S := fun j => j = g) (Kx.refl _ _) rfl _ _) (fun hn ad ha hs => by have := h3 hn ad ha; omega)⟩
theorem NumB.less {B B' : Nat} {w : World} {V : Value} {v : Nat} (h : NumB B w V v) (hb : B' ≤ B) : NumB B' w V v := by
  obtain ⟨A, n, c, e, h1, h2, h3⟩ := h
  exact ⟨A, n, c, e, h1, h2, fun hn ad ha => Nat.le_trans hb (h3 hn ad ha)⟩
/-- A call that hands back a number in new memory. -/
def GetsNew (w : World) (v : Nat) (e : Ending) (w' : World) : Prop := ∃ V, e = .returned V ∧ NumB w.heap.size w' V v ∧ Below w.heap.size w w'
theorem GetsNew.gets {w w' : World} {v : Nat} {e : Ending} (h : GetsNew w v e w') : GetsNum w v e w' := by
  obtain ⟨V, e, h1, h2⟩ := h
  exact ⟨V, e, h1.num, h2⟩
theorem top_step {a k : Nat} : a / pw k = a / pw (k + 1) * 4294967296 + lim a k := by
  unfold lim
  rw [pw_succ, Nat.mul_comm 4294967296 (pw k), ← Nat.div_div_eq_div_mul]
  have := Nat.div_add_mod (a / pw k) 4294967296
  omega
theorem bitsN_half {v : Nat} (h : 0 < v) : bitsN v = bitsN (v / 2) + 1 := by
  obtain ⟨j, hj⟩ : ∃ j, bitsN v = j + 1 := ⟨bitsN v - 1, by have := bitsN_pos h; omega⟩
  have a1 := two_le_of_bits (v := v) (k := j) (by omega)
  have a2 := lt_two_bits v
  rw [hj] at a2
  rcases j with _ | j
  · rw [Nat.zero_add, Nat.pow_one] at a2
    have e : v / 2 = 0 := by omega
    rw [hj, e, bitsN_zero]
  · rw [hj]
    congr 1
    refine (bitsN_eq ?_ ?_).symm
    · rw [Nat.pow_succ] at a1; omega
    · rw [Nat.pow_succ] at a2; omega
end
section
open Go.RowKit
theorem bit_of {a i : Nat} : lim a (i / 32) / 2 ^ (i % 32) % 2 = a / 2 ^ i % 2 := by
  have e : a / 2 ^ i = a / pw (i / 32) / 2 ^ (i % 32) := by
    rw [pw_two, Nat.div_div_eq_div_mul, ← Nat.pow_add, Nat.div_add_mod]
  rw [e]
  unfold lim
  obtain ⟨y, hy⟩ : ∃ y, a / pw (i / 32) = y := ⟨_, rfl⟩
  rw [hy]
  obtain ⟨r, hr⟩ : ∃ r, i % 32 = r := ⟨_, rfl⟩
  have hr32 : r < 32 := by omega
  rw [hr]
  have h32 : 4294967296 = 2 ^ r * (2 * 2 ^ (31 - r)) := by
    rw [Nat.mul_left_comm, ← Nat.pow_add, show r + (31 - r) = 31 by omega]
  have hd := Nat.div_add_mod y 4294967296
  obtain ⟨q, hq⟩ : ∃ q, y / 4294967296 = q := ⟨_, rfl⟩
  obtain ⟨m, hm⟩ : ∃ m, y % 4294967296 = m := ⟨_, rfl⟩
  rw [hq, hm] at hd
  rw [hm, ← hd]
  have e2 : 4294967296 * q + m = 2 ^ r * (2 * (2 ^ (31 - r) * q)) + m := by
    conv => lhs; rw [h32]
    rw [Nat.mul_assoc, Nat.mul_assoc]
  rw [e2, Nat.mul_add_div (Nat.pow_pos (by omega)), Nat.mul_add_mod]
end
section
open Go.RowKit
end
end Go.Proofs.YtojbldoekalbnaaGreatDoor
