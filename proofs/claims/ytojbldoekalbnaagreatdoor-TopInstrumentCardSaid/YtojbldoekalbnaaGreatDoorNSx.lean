/-
  Contracts of the references' Pow, Left, Root, Sides, Octave, Times, Freq, May, Closes and Tones; each states its condition.
-/
import Derived.Test.YtojbldoekalbnaaGreatDoorNQy
namespace Go.Proofs.YtojbldoekalbnaaGreatDoor
section
section
theorem ln_pow_g (a n : Nat) : ln (a ^ n) ≤ ln a * n + 1 := by
  rcases Nat.eq_zero_or_pos a with h | h
  · subst h
    refine Nat.le_trans ((ln_le_iff 1 _).2 ?_) (by omega)
    rw [pw_one]
    rcases Nat.eq_zero_or_pos n with h | h
    · subst h; decide
    · rw [Nat.zero_pow h]; decide
  · rw [ln_le_iff]
    refine Nat.lt_of_le_of_lt (Nat.pow_le_pow_left (Nat.le_of_lt (lt_pw_ln a)) n) ?_
    unfold pw
    rw [← Nat.pow_mul]
    exact Nat.pow_lt_pow_right (by omega) (by omega)
theorem half_pow (a n k : Nat) : (n / 2 ^ k % 2 = 0 → a ^ (n / 2 ^ (k + 1)) * a ^ (n / 2 ^ (k + 1)) = a ^ (n / 2 ^ k)) ∧ (n / 2 ^ k % 2 = 1 → a ^ (n / 2 ^ (k + 1)) * a ^ (n / 2 ^ (k + 1)) * a = a ^ (n / 2 ^ k)) := by
  have e : n / 2 ^ (k + 1) = n / 2 ^ k / 2 := by rw [Nat.pow_succ, Nat.div_div_eq_div_mul]
  obtain ⟨m, hm⟩ : ∃ m, n / 2 ^ k = m := ⟨_, rfl⟩
  rw [e, hm, ← Nat.pow_add]
  refine ⟨fun h => by congr 1; omega, fun h => ?_⟩
  rw [← Nat.pow_succ]; congr 1; omega
/-- The bits of the root from the top: one step. -/
theorem root_bit (r i : Nat) : (r / 2 ^ (i + 1) * 2 ^ (i + 1) + 2 ^ i ≤ r → r / 2 ^ (i + 1) * 2 ^ (i + 1) + 2 ^ i = r / 2 ^ i * 2 ^ i) ∧ (¬ r / 2 ^ (i + 1) * 2 ^ (i + 1) + 2 ^ i ≤ r → r / 2 ^ (i + 1) * 2 ^ (i + 1) = r / 2 ^ i * 2 ^ i) := by
  have e : r / 2 ^ (i + 1) = r / 2 ^ i / 2 := by rw [Nat.pow_succ, Nat.div_div_eq_div_mul]
  have hp : 0 < 2 ^ i := Nat.pow_pos (by omega)
  have h1 := Nat.div_mul_le_self r (2 ^ i)
  have h2 := Nat.lt_div_mul_add hp (a := r)
  rw [e, Nat.pow_succ]
  obtain ⟨P, hP⟩ : ∃ P, 2 ^ i = P := ⟨_, rfl⟩
  rw [hP] at hp h1 h2 ⊢
  obtain ⟨m, hm⟩ : ∃ m, r / P = m := ⟨_, rfl⟩
  rw [hm] at h1 h2 ⊢
  clear hm e
  rcases Nat.mod_two_eq_zero_or_one m with h | h
  · obtain ⟨k, rfl⟩ : ∃ k, m = 2 * k := ⟨m / 2, by omega⟩
    have e2 : 2 * k / 2 = k := by omega
    rw [e2]
    have e3 : k * (P * 2) = 2 * k * P := by rw [Nat.mul_comm P 2, ← Nat.mul_assoc, Nat.mul_comm k 2]
    rw [e3]
    exact ⟨fun h3 => absurd h3 (by omega), fun _ => rfl⟩
  · obtain ⟨k, rfl⟩ : ∃ k, m = 2 * k + 1 := ⟨m / 2, by omega⟩
    have e2 : (2 * k + 1) / 2 = k := by omega
    rw [e2]
    have e3 : k * (P * 2) = 2 * k * P := by rw [Nat.mul_comm P 2, ← Nat.mul_assoc, Nat.mul_comm k 2]
    have e4 : (2 * k + 1) * P = 2 * k * P + P := by rw [Nat.add_mul, Nat.one_mul]
    rw [e3, e4]
    exact ⟨fun _ => rfl, fun h => absurd (by rw [e4] at h1; exact h1) h⟩
theorem root_one_of {a n : Nat} (ha : 0 < a) (h : bitsN a ≤ n) : root n a = 1 := by
  have hn : 0 < n := by have := bitsN_pos ha; omega
  refine root_eq hn (by rw [Nat.one_pow]; exact ha) ?_
  exact Nat.lt_of_lt_of_le (lt_two_bits a) (Nat.pow_le_pow_right (by omega) h)
theorem root_top {a n : Nat} (hn : 0 < n) : root n a / 2 ^ ((bitsN a - 1) / n + 1) = 0 := by
  refine Nat.div_eq_of_lt (root_lt hn ?_)
  rw [← Nat.pow_mul]
  refine Nat.lt_of_lt_of_le (lt_two_bits a) (Nat.pow_le_pow_right (by omega) ?_)
  have := Nat.lt_div_mul_add hn (a := bitsN a - 1)
  rw [Nat.add_mul, Nat.one_mul]
  omega
theorem pow_le_root {a n s : Nat} (hn : 0 < n) : s ^ n ≤ a ↔ s ≤ root n a := ⟨fun h => le_root hn h, fun h => Nat.le_trans (Nat.pow_le_pow_left h n) (root_le hn)⟩
theorem flr_floor {o u : Nat} {d : Int} (hd : 0 < d) : ((bitsN o : Int) - bitsN u - 1) / d ≤ flr o u / d := by
  refine Int.ediv_le_ediv hd ?_
  unfold flr
  split <;> omega
theorem against_iff {o u : Nat} (ho : 0 < o) (hu : 0 < u) {m d : Int} (hd : 0 < d) : le2 (m * d) o u ↔ m ≤ flr o u / d := by
  rw [le2_iff ho hu, Int.le_ediv_iff_mul_le hd]
end
section
open Go.RowKit
theorem two_half (k : Nat) : (2 : Nat) ^ (k + 1) / 2 = 2 ^ k := by rw [Nat.pow_succ]; omega
/-- The bit that Pow looks at: 2^k in the round k + 1 from the end, 0 behind the last one. -/
def bitAt : Nat → Nat
  | 0 => 0
  | k + 1 => 2 ^ k
theorem bitAt_half (k : Nat) : bitAt (k + 1) / 2 = bitAt k := by
  cases k with
  | zero => rfl
  | succ k => exact two_half k
end
end
section
section
open Go.RowKit
theorem cmpN_pos {a b : Nat} (h : b < a) : 0 < cmpN a b := by unfold cmpN; rw [if_neg (by omega), if_neg (by omega)]; omega
theorem cmpN_le0 {a b : Nat} (h : a ≤ b) : cmpN a b ≤ 0 := by unfold cmpN; split <;> (try split) <;> omega
end
end
section
section
open Go.RowKit
/-- The products of the first i powers, above and below the stroke. -/
def sdO (a b c : Int) : Nat → Nat
  | 0 => 1
  | 1 => 2 ^ a.toNat
  | 2 => 2 ^ a.toNat * 3 ^ b.toNat
  | _ => ov a b c
def sdP : Nat → Nat
  | 0 => 2
  | 1 => 3
  | _ => 5
def sdE (a b c : Int) : Nat → Int
  | 0 => a
  | 1 => b
  | _ => c
theorem sdO_step (a b c : Int) {i : Nat} (hi : i < 3) : sdO a b c (i + 1) = sdO a b c i * sdP i ^ (sdE a b c i).toNat := by
  obtain rfl | rfl | rfl : i = 0 ∨ i = 1 ∨ i = 2 := by omega
  · show 2 ^ a.toNat = 1 * 2 ^ a.toNat; rw [Nat.one_mul]
  · rfl
  · rfl
theorem sdE_neg (a b c : Int) (i : Nat) : sdE (-a) (-b) (-c) i = -(sdE a b c i) := by
  match i with
  | 0 => rfl
  | 1 => rfl
  | _ + 2 => rfl
theorem sdU_step (a b c : Int) {i : Nat} (hi : i < 3) : sdO (-a) (-b) (-c) (i + 1) = sdO (-a) (-b) (-c) i * sdP i ^ (-(sdE a b c i)).toNat := by
  rw [sdO_step _ _ _ hi, sdE_neg]
theorem sdO_ln {a b c : Int} (ha : a.natAbs ≤ 960) (hb : b.natAbs ≤ 960) (hc : c.natAbs ≤ 960) (i : Nat) : ln (sdO a b c i) ≤ 181 := by
  match i with
  | 0 => have := prod_ln (a := 0) (b := 0) (c := 0) (by omega) (by omega) (by omega); simpa [sdO] using this
  | 1 => have := prod_ln (a := a.toNat) (b := 0) (c := 0) (by omega) (by omega) (by omega); simpa [sdO] using this
  | 2 => have := prod_ln (a := a.toNat) (b := b.toNat) (c := 0) (by omega) (by omega) (by omega); simpa [sdO] using this
  | _ + 3 => exact (ov_ln ha hb hc).1
theorem sdP_ln (i : Nat) : ln (sdP i) ≤ 1 ∧ sdP i ≤ 5 := by
  have h : sdP i ≤ 5 := by
    match i with
    | 0 => decide
    | 1 => decide
    | _ + 2 => exact Nat.le_refl _
  exact ⟨(ln_le_iff 1 _).2 (by rw [pw_one]; omega), h⟩
theorem sdPow_ln {e : Nat} (h : e ≤ 960) (i : Nat) : ln (sdP i ^ e) ≤ 181 := by
  match i with
  | 0 => have := prod_ln (a := e) (b := 0) (c := 0) h (by omega) (by omega); simpa [sdP] using this
  | 1 => have := prod_ln (a := 0) (b := e) (c := 0) (by omega) h (by omega); simpa [sdP] using this
  | _ + 2 => have := prod_ln (a := 0) (b := 0) (c := e) (by omega) (by omega) h; simpa [sdP] using this
theorem arr3_at {w : World} {g : Nat} {x y z : Value} {t : TypeId} (h : w.heap[g]? = some (.cells #[x, y, z] t (0, 0))) (i : Nat) (hi : i < 3) :
    w.cell? ⟨g, i, none⟩ = #[x, y, z][i]? := by
  obtain rfl | rfl | rfl : i = 0 ∨ i = 1 ∨ i = 2 := by omega
  · rw [cell_of_row _ _ 0 _ _ (0, 0) h]
  · rw [cell_of_row _ _ 1 _ _ (0, 0) h]
  · rw [cell_of_row _ _ 2 _ _ (0, 0) h]
end
section
open Go.RowKit
theorem mul_mono {a b d : Int} (hd : 0 < d) (h : a ≤ b) : a * d ≤ b * d := Int.mul_le_mul_of_nonneg_right h (by omega)
end
end
section
section
open Go.RowKit
end
section
open Go.RowKit
end
end
section
section
open Go.RowKit
theorem mayB (p q r : Bool) : (p && (q && r)) = (q && p && r) := by cases p <;> cases q <;> cases r <;> rfl
theorem TwTh.step' {l : List Int} {u : Int} {k : Nat} {X Y x : Int} (h : TwTh l u k X Y) (hx : l[k]? = some x) : TwTh l u (k + 1) (X + (-u + 19 * x)) (Y + (u - 12 * x)) := by
  have h2 := h.step hx
  have e : 19 * x - u = -u + 19 * x := by omega
  rwa [e] at h2
end
section
open Go.RowKit
theorem SlE.at4' {w : World} {A : Option Addr} {n k : Nat} {L : List Tn} (h : SlE tnE 4 w A n L) (hk : k < n) :
    ∃ b o l, A = some ⟨b, o, none⟩ ∧ b < w.heap.size ∧ L[k]? = some l ∧ w.cell? ⟨b, o + k * 4, none⟩ = some (.int .i64 l.two) ∧ w.cell? ⟨b, o + k * 4 + 1, none⟩ = some (.int .i64 l.three) ∧ w.cell? ⟨b, o + k * 4 + 2, none⟩ = some (.int .i64 l.five) ∧ w.cell? ⟨b, o + k * 4 + 3, none⟩ = some (.int .i64 l.den) := by
  obtain ⟨b, o, x, hA, hb, hx, hc⟩ := h.at_ tnE_len hk
  exact ⟨b, o, x, hA, hb, hx, by simpa using hc 0 _ rfl, by simpa [Nat.add_assoc] using hc 1 _ rfl, by simpa [Nat.add_assoc] using hc 2 _ rfl, by simpa [Nat.add_assoc] using hc 3 _ rfl⟩
theorem red_agg (J : Option Tn) : ∃ y1 y2 y3 y4 ce : Int, redRet J = .tuple #[.agg #[.int .i64 y1, .int .i64 y2, .int .i64 y3, .int .i64 y4], .int .i64 ce] ∧ (∀ y, J = some y → y = ⟨y1, y2, y3, y4⟩ ∧ ce = 0) ∧ (J = none → ce = 5) := by
  cases J with
  | none => exact ⟨0, 0, 0, 0, 5, rfl, fun y h => absurd h (by simp), fun _ => rfl⟩
  | some y =>
    obtain ⟨y1, y2, y3, y4⟩ := y
    exact ⟨y1, y2, y3, y4, 0, rfl, fun y h => ⟨(Option.some.inj h).symm, rfl⟩, fun h => absurd h (by simp)⟩
end
end
end Go.Proofs.YtojbldoekalbnaaGreatDoor
