/-
  Plain arithmetic: limbs, Knuth's division, Newton's root, tones reduced; no condition but what each states.
-/
namespace Go.Proofs.YtndcijkgaadpgaaGreatDoor
section
section
def pw (k : Nat) : Nat := 4294967296 ^ k
theorem pw_zero : pw 0 = 1 := rfl
theorem pw_succ (k : Nat) : pw (k + 1) = 4294967296 * pw k := by unfold pw; rw [Nat.pow_succ, Nat.mul_comm]
theorem pw_pos (k : Nat) : 0 < pw k := Nat.pow_pos (by omega)
theorem pw_add (a b : Nat) : pw (a + b) = pw a * pw b := Nat.pow_add _ _ _
theorem pw_le {a b : Nat} (h : a ≤ b) : pw a ≤ pw b := Nat.pow_le_pow_right (by omega) h
theorem pw_lt {a b : Nat} (h : a < b) : pw a < pw b := Nat.pow_lt_pow_right (by omega) h
theorem pw_two (k : Nat) : pw k = 2 ^ (32 * k) := by unfold pw; rw [Nat.pow_mul]
def upd1 (f : Nat → Nat) (k x : Nat) : Nat → Nat := fun i => if i = k then x else f i
/-- The value of the limbs f 0 .. f (n - 1). -/
def fv (f : Nat → Nat) : Nat → Nat
  | 0 => 0
  | n + 1 => fv f n + f n * pw n
theorem fv_succ (f : Nat → Nat) (n : Nat) : fv f (n + 1) = fv f n + f n * pw n := rfl
theorem upd1_self (f : Nat → Nat) (k x : Nat) : upd1 f k x k = x := if_pos rfl
theorem upd1_ne {f : Nat → Nat} {k x i : Nat} (h : i ≠ k) : upd1 f k x i = f i := if_neg h
def Lm (f : Nat → Nat) (n : Nat) : Prop := ∀ i, i < n → f i < 4294967296
theorem Lm.mono {f : Nat → Nat} {n m : Nat} (h : Lm f n) (hm : m ≤ n) : Lm f m := fun i hi => h i (by omega)
theorem Lm.upd {f : Nat → Nat} {n k x : Nat} (h : Lm f n) (hx : x < 4294967296) : Lm (upd1 f k x) n := fun i hi => by
  unfold upd1; split
  · exact hx
  · exact h i hi
theorem fv_lt {f : Nat → Nat} : ∀ {n : Nat}, Lm f n → fv f n < pw n
  | 0, _ => by simp [fv, pw]
  | n + 1, h => by
    have ih := fv_lt (n := n) (h.mono (by omega))
    have h1 := h n (by omega)
    have h2 : f n * pw n ≤ 4294967295 * pw n := Nat.mul_le_mul_right _ (by omega)
    have h3 := pw_succ n
    unfold fv
    omega
theorem fv_congr {f g : Nat → Nat} : ∀ {n : Nat}, (∀ i, i < n → f i = g i) → fv f n = fv g n
  | 0, _ => rfl
  | n + 1, h => by
    unfold fv
    rw [fv_congr (n := n) (fun i hi => h i (by omega)), h n (by omega)]
theorem fv_zero : ∀ n : Nat, fv (fun _ => 0) n = 0
  | 0 => rfl
  | n + 1 => by unfold fv; rw [fv_zero n]; simp
theorem fv_zeros {f : Nat → Nat} {n : Nat} (h : ∀ i, i < n → f i = 0) : fv f n = 0 := (fv_congr h).trans (fv_zero n)
theorem fv_add (f : Nat → Nat) (n : Nat) : ∀ m : Nat, fv f (n + m) = fv f n + pw n * fv (fun i => f (n + i)) m
  | 0 => by simp [fv]
  | m + 1 => by
    show fv f (n + m) + f (n + m) * pw (n + m) = _
    rw [fv_add f n m]
    show _ = fv f n + pw n * (fv (fun i => f (n + i)) m + f (n + m) * pw m)
    rw [pw_add, Nat.mul_add, Nat.add_assoc, Nat.mul_left_comm (pw n)]
theorem fv_tail {f : Nat → Nat} {n m : Nat} (h : ∀ i, n ≤ i → i < m → f i = 0) (hn : n ≤ m) : fv f m = fv f n := by
  obtain ⟨k, rfl⟩ : ∃ k, m = n + k := ⟨m - n, by omega⟩
  rw [fv_add, fv_zeros (n := k) (fun i hi => h _ (by omega) (by omega))]; simp
theorem fv_upd {f : Nat → Nat} {k x : Nat} : ∀ {n : Nat}, k < n → fv (upd1 f k x) n + f k * pw k = fv f n + x * pw k
  | 0, h => absurd h (Nat.not_lt_zero _)
  | n + 1, h => by
    unfold fv
    by_cases e : k = n
    · subst e
      have h1 : fv (upd1 f k x) k = fv f k := fv_congr fun i hi => by unfold upd1; rw [if_neg (by omega)]
      have h2 : upd1 f k x k = x := by unfold upd1; rw [if_pos rfl]
      rw [h1, h2]; omega
    · have ih := fv_upd (f := f) (k := k) (x := x) (n := n) (by omega)
      have h2 : upd1 f k x n = f n := by unfold upd1; rw [if_neg (by omega)]
      rw [h2]; omega
theorem fv_upd_out {f : Nat → Nat} {k x n : Nat} (h : n ≤ k) : fv (upd1 f k x) n = fv f n := fv_congr fun i hi => by unfold upd1; rw [if_neg (by omega)]
/-- Limb i of a number. -/
def lim (v i : Nat) : Nat := v / pw i % 4294967296
theorem lim_lt (v i : Nat) : lim v i < 4294967296 := Nat.mod_lt _ (by omega)
theorem lim_Lm (v n : Nat) : Lm (lim v) n := fun i _ => lim_lt v i
theorem fv_lim (v : Nat) : ∀ n : Nat, fv (lim v) n = v % pw n
  | 0 => by simp [fv, pw, Nat.mod_one]
  | n + 1 => by
    unfold fv
    rw [fv_lim v n]
    unfold lim
    rw [pw_succ, Nat.mul_comm 4294967296 (pw n), Nat.mod_mul, Nat.mul_comm (pw n)]
theorem fv_lim_eq {v n : Nat} (h : v < pw n) : fv (lim v) n = v := by rw [fv_lim, Nat.mod_eq_of_lt h]
theorem lim_fv {f : Nat → Nat} {n i : Nat} (h : Lm f n) (hi : i < n) : lim (fv f n) i = f i := by
  obtain ⟨k, rfl⟩ : ∃ k, n = i + 1 + k := ⟨n - (i + 1), by omega⟩
  have h1 := fv_lt (h.mono (show i ≤ i + 1 + k by omega))
  have h2 := h i hi
  unfold lim
  rw [fv_add f (i + 1) k]
  show (fv f i + f i * pw i + pw (i + 1) * _) / pw i % _ = _
  rw [pw_succ, Nat.mul_comm 4294967296 (pw i), Nat.mul_assoc, Nat.mul_comm (f i), Nat.add_assoc, ← Nat.mul_add, Nat.add_mul_div_left _ _ (pw_pos i), Nat.div_eq_of_lt h1, Nat.zero_add, Nat.add_mul_mod_self_left, Nat.mod_eq_of_lt h2]
theorem lim_ge {v i : Nat} (h : v < pw i) : lim v i = 0 := by unfold lim; rw [Nat.div_eq_of_lt h]
/-- Two rows of limbs of one length with one value are the same. -/
theorem fv_inj {f g : Nat → Nat} {n : Nat} (hf : Lm f n) (hg : Lm g n) (h : fv f n = fv g n) : ∀ i, i < n → f i = g i := fun i hi => by rw [← lim_fv hf hi, h, lim_fv hg hi]
/-- How many limbs a number has. -/
def ln (v : Nat) : Nat := if v = 0 then 0 else ln (v / 4294967296) + 1
termination_by v
decreasing_by omega
theorem ln_zero : ln 0 = 0 := by unfold ln; simp
theorem ln_le_iff (k : Nat) : ∀ v : Nat, ln v ≤ k ↔ v < pw k := by
  induction k with
  | zero =>
    intro v
    unfold ln
    rw [pw_zero]
    split <;> omega
  | succ k ih =>
    intro v
    unfold ln
    have := ih (v / 4294967296)
    rw [pw_succ]
    split
    · have := pw_pos k; omega
    · rw [Nat.add_le_add_iff_right, this, Nat.div_lt_iff_lt_mul (by omega), Nat.mul_comm]
theorem lt_pw_ln (v : Nat) : v < pw (ln v) := (ln_le_iff _ v).1 (Nat.le_refl _)
theorem ln_mono {a b : Nat} (h : a ≤ b) : ln a ≤ ln b := (ln_le_iff _ _).2 (Nat.lt_of_le_of_lt h (lt_pw_ln b))
theorem lt_of_ln {a b : Nat} (h : ln a < ln b) : a < b := Nat.lt_of_not_le fun hh => by have := ln_mono hh; omega
theorem pw_le_of_ln {v k : Nat} (h : k < ln v) : pw k ≤ v := Nat.le_of_not_lt fun hh => by have := (ln_le_iff k v).2 hh; omega
theorem ln_eq {v k : Nat} (h1 : pw k ≤ v) (h2 : v < pw (k + 1)) : ln v = k + 1 := by
  have a := (ln_le_iff (k + 1) v).2 h2
  have b : ¬ ln v ≤ k := fun h => by have := (ln_le_iff k v).1 h; omega
  omega
theorem ln_pos {v : Nat} (h : v ≠ 0) : 0 < ln v := Nat.pos_of_ne_zero fun h0 => by
  have := (ln_le_iff 0 v).1 (by omega)
  rw [pw_zero] at this; omega
theorem ln_eq_zero {v : Nat} : ln v = 0 ↔ v = 0 := ⟨fun h => Nat.eq_zero_of_not_pos fun hh => by have := ln_pos (v := v) (by omega); omega, fun h => by rw [h, ln_zero]⟩
theorem top_ne {v : Nat} (h : 0 < ln v) : lim v (ln v - 1) ≠ 0 := by
  have h1 := lt_pw_ln v
  have h2 := pw_le_of_ln (v := v) (k := ln v - 1) (by omega)
  obtain ⟨k, hk⟩ : ∃ k, ln v = k + 1 := ⟨ln v - 1, by omega⟩
  rw [hk] at h1 h2 ⊢
  simp only [Nat.add_sub_cancel] at h2 ⊢
  unfold lim
  rw [pw_succ] at h1
  rw [Nat.mod_eq_of_lt (by rw [Nat.div_lt_iff_lt_mul (pw_pos k)]; exact h1)]
  have := Nat.div_pos h2 (pw_pos k)
  omega
/-- Zeros at the end are left out. -/
theorem trim_ln {f : Nat → Nat} {n k : Nat} (hf : Lm f n) (hk : k ≤ n) (h0 : ∀ i, k ≤ i → i < n → f i = 0) (ht : k = 0 ∨ f (k - 1) ≠ 0) : ln (fv f n) = k := by
  rw [fv_tail h0 hk]
  have h1 := fv_lt (hf.mono hk)
  rcases ht with rfl | ht
  · simp [fv, ln_zero]
  · obtain ⟨j, rfl | rfl⟩ : ∃ j, k = 0 ∨ k = j + 1 := ⟨k - 1, by omega⟩
    · simp [fv, ln_zero]
    · refine ln_eq ?_ h1
      simp only [Nat.add_sub_cancel] at ht
      unfold fv
      have : 1 * pw j ≤ f j * pw j := Nat.mul_le_mul_right _ (by omega)
      omega
/-- Rows that are the same above a place compare as they do there. -/
theorem fv_less {f g : Nat → Nat} {n i : Nat} (hf : Lm f n) (_hg : Lm g n) (hi : i < n) (h : ∀ j, i < j → j < n → f j = g j) (hlt : f i < g i) : fv f n < fv g n := by
  obtain ⟨k, rfl⟩ : ∃ k, n = i + 1 + k := ⟨n - (i + 1), by omega⟩
  rw [fv_add f, fv_add g, fv_congr (f := fun j => f (i + 1 + j)) (g := fun j => g (i + 1 + j)) (fun j hj => h _ (by omega) (by omega))]
  have h1 := fv_lt (hf.mono (show i ≤ i + 1 + k by omega))
  have h2 : (f i + 1) * pw i ≤ g i * pw i := Nat.mul_le_mul_right _ hlt
  rw [Nat.add_mul] at h2
  unfold fv
  omega
/-- One limb of a sum. -/
theorem plus_step {f a b : Nat → Nat} {i c s c' V : Nat} (h : fv f i + c * pw i = V) (hs : s + 4294967296 * c' = a i + b i + c) (hf : f i = s) : fv f (i + 1) + c' * pw (i + 1) = V + a i * pw i + b i * pw i := by
  have e : (s + 4294967296 * c') * pw i = (a i + b i + c) * pw i := by rw [hs]
  simp only [Nat.add_mul] at e
  have e2 : c' * pw (i + 1) = 4294967296 * c' * pw i := by rw [pw_succ, ← Nat.mul_assoc, Nat.mul_comm c']
  unfold fv
  rw [hf, e2]; omega
/-- One limb of a difference. -/
theorem minus_step {f a b : Nat → Nat} {i c s c' : Nat} (h : fv f i + fv b i = fv a i + c * pw i) (hs : s + b i + c = a i + 4294967296 * c') (hf : f i = s) : fv f (i + 1) + fv b (i + 1) = fv a (i + 1) + c' * pw (i + 1) := by
  have e : (s + b i + c) * pw i = (a i + 4294967296 * c') * pw i := by rw [hs]
  simp only [Nat.add_mul] at e
  have e2 : c' * pw (i + 1) = 4294967296 * c' * pw i := by rw [pw_succ, ← Nat.mul_assoc, Nat.mul_comm c']
  unfold fv
  rw [hf, e2]; omega
/-- One limb of a row's product. -/
theorem row_step {o : Nat → Nat} {n i j x bj c t V : Nat} (hk : i + j < n) (h : fv o n + c * pw (i + j) = V) (ht : t = x * bj + o (i + j) + c) :
    fv (upd1 o (i + j) (t % 4294967296)) n + t / 4294967296 * pw (i + j + 1) = V + x * bj * pw (i + j) := by
  have h1 := fv_upd (f := o) (k := i + j) (x := t % 4294967296) hk
  have h2 : t / 4294967296 * pw (i + j + 1) = 4294967296 * (t / 4294967296) * pw (i + j) := by rw [pw_succ, ← Nat.mul_assoc, Nat.mul_comm (t / 4294967296)]
  have h3 : (t % 4294967296 + 4294967296 * (t / 4294967296)) * pw (i + j) = (x * bj + o (i + j) + c) * pw (i + j) := by rw [Nat.mod_add_div, ht]
  simp only [Nat.add_mul] at h3
  omega
theorem mul_bound {x y a c : Nat} (hx : x < 4294967296) (hy : y < 4294967296) (ha : a < 4294967296) (hc : c < 4294967296) : x * y + a + c < 18446744073709551616 := by
  have h1 : x * y ≤ 4294967295 * y := Nat.mul_le_mul_right _ (by omega)
  omega
theorem ln_mul_le (a b : Nat) : ln (a * b) ≤ ln a + ln b := (ln_le_iff _ _).2 (by rw [pw_add]; exact Nat.mul_lt_mul'' (lt_pw_ln a) (lt_pw_ln b))
theorem ln_add_le (a b : Nat) : ln (a + b) ≤ max (ln a) (ln b) + 1 := (ln_le_iff _ _).2 (by
  have h1 := Nat.lt_of_lt_of_le (lt_pw_ln a) (pw_le (Nat.le_max_left (ln a) (ln b)))
  have h2 := Nat.lt_of_lt_of_le (lt_pw_ln b) (pw_le (Nat.le_max_right (ln a) (ln b)))
  rw [pw_succ]; omega)
theorem ln_sub_le (a b : Nat) : ln (a - b) ≤ ln a := ln_mono (Nat.sub_le a b)
theorem ln_div_le (a b : Nat) : ln (a / b) ≤ ln a := ln_mono (Nat.div_le_self a b)
/-- A number without its lowest limbs. -/
theorem lim_div_pw (v k i : Nat) : lim (v / pw k) i = lim v (k + i) := by unfold lim; rw [pw_add, Nat.div_div_eq_div_mul]
theorem lim_mod_pw {v k i : Nat} (h : i < k) : lim (v % pw k) i = lim v i := by
  rw [← fv_lim v k, lim_fv (lim_Lm v k) h]
theorem ln_div_pw {v k : Nat} : ln (v / pw k) = ln v - k := by
  rcases Nat.lt_or_ge k (ln v) with h | h
  · have h1 := lt_pw_ln v
    have h2 := pw_le_of_ln (v := v) (k := ln v - 1) (by omega)
    obtain ⟨j, hj⟩ : ∃ j, ln v = k + (j + 1) := ⟨ln v - k - 1, by omega⟩
    rw [hj] at h1 h2 ⊢
    rw [pw_add] at h1
    rw [show k + (j + 1) - 1 = k + j by omega, pw_add] at h2
    rw [show k + (j + 1) - k = j + 1 by omega]
    refine ln_eq ?_ ?_
    · rw [Nat.le_div_iff_mul_le (pw_pos k), Nat.mul_comm]; exact h2
    · rw [Nat.div_lt_iff_lt_mul (pw_pos k), Nat.mul_comm]; exact h1
  · have h1 : v < pw k := (ln_le_iff k v).1 h
    rw [Nat.div_eq_of_lt h1, ln_zero]; omega
/-- A digit of a quotient by one limb. -/
theorem word_step {a w i t : Nat} (hw : 0 < w) (ht : t = a / pw (i + 1) % w * 4294967296 + lim a i) : lim (a / w) i = t / w ∧ t / w < 4294967296 ∧ t % w = a / pw i % w := by
  have e : a / pw i = a / pw (i + 1) * 4294967296 + lim a i := by
    unfold lim
    rw [pw_succ, Nat.mul_comm 4294967296 (pw i), ← Nat.div_div_eq_div_mul]
    have := Nat.div_add_mod (a / pw i) 4294967296
    omega
  obtain ⟨A, hA⟩ : ∃ A, a / pw (i + 1) = A := ⟨_, rfl⟩
  rw [hA] at e ht
  have hl := lim_lt a i
  obtain ⟨x, hx⟩ : ∃ x, lim a i = x := ⟨_, rfl⟩
  rw [hx] at e ht hl
  have hr := Nat.mod_lt A hw
  have hd := Nat.div_add_mod A w
  have e2 : a / pw i = w * (A / w * 4294967296) + t := by
    have : A * 4294967296 = (w * (A / w) + A % w) * 4294967296 := by rw [hd]
    rw [Nat.add_mul, Nat.mul_assoc] at this
    omega
  have htw : t / w < 4294967296 := by
    rw [Nat.div_lt_iff_lt_mul hw]
    have : (A % w + 1) * 4294967296 ≤ w * 4294967296 := Nat.mul_le_mul_right _ hr
    rw [Nat.mul_comm]
    omega
  refine ⟨?_, htw, ?_⟩
  · show a / w / pw i % _ = _
    rw [Nat.div_div_eq_div_mul, Nat.mul_comm w, ← Nat.div_div_eq_div_mul, e2, Nat.mul_add_div hw, Nat.add_comm, Nat.add_mul_mod_self_right, Nat.mod_eq_of_lt htw]
  · rw [e2, Nat.mul_add_mod]
/-- A limb of a number that is divided by 2^r. -/
theorem down_step {y i r : Nat} (hr : r < 32) : lim (y / 2 ^ r) i = (lim y i + 4294967296 * lim y (i + 1)) / 2 ^ r % 4294967296 := by
  unfold lim
  rw [pw_succ, Nat.mul_comm 4294967296 (pw i), ← Nat.div_div_eq_div_mul y (pw i), Nat.div_div_eq_div_mul y (2 ^ r), Nat.mul_comm (2 ^ r), ← Nat.div_div_eq_div_mul]
  obtain ⟨Y, hY⟩ : ∃ Y, y / pw i = Y := ⟨_, rfl⟩
  rw [hY, ← Nat.mod_mul]
  have h32 : 4294967296 * 4294967296 = 2 ^ r * (4294967296 * 2 ^ (32 - r)) := by
    rw [Nat.mul_left_comm, ← Nat.pow_add, show r + (32 - r) = 32 by omega]
  rw [h32]
  have := Nat.div_add_mod Y (2 ^ r * (4294967296 * 2 ^ (32 - r)))
  obtain ⟨M, hM⟩ : ∃ M, Y % (2 ^ r * (4294967296 * 2 ^ (32 - r))) = M := ⟨_, rfl⟩
  obtain ⟨D, hD⟩ : ∃ D, Y / (2 ^ r * (4294967296 * 2 ^ (32 - r))) = D := ⟨_, rfl⟩
  rw [hM, hD] at this
  rw [hM, ← this, Nat.mul_assoc (2 ^ r), Nat.mul_add_div (Nat.pow_pos (by omega)), Nat.mul_assoc 4294967296, Nat.mul_add_mod]
end
end
section
section
/-- What holds of a digit's guess: u1, u2: the two upper limbs of the window as one number, and the next one; v1, v2: the divisor's two upper limbs; p: the weight of what is below; U, V: the window and the divisor. -/
structure Gs (U V top u2 v1 v2 p : Nat) : Prop where
  vlo : (v1 * 4294967296 + v2) * p ≤ V
  vhi : V < (v1 * 4294967296 + v2 + 1) * p
  ulo : (top * 4294967296 + u2) * p ≤ U
  uhi : U < (top * 4294967296 + u2 + 1) * p
  norm : 2147483648 ≤ v1
  v1lt : v1 < 4294967296
  v2lt : v2 < 4294967296
  u2lt : u2 < 4294967296
  small : U < V * 4294967296
  ppos : 0 < p
section
variable {U V top u2 v1 v2 p g r : Nat}
theorem Gs.vpos (h : Gs U V top u2 v1 v2 p) : 0 < V := by
  have a := h.vlo
  have hn : 0 < v1 * 4294967296 + v2 := by have := h.norm; omega
  obtain ⟨D, hD⟩ : ∃ D, v1 * 4294967296 + v2 = D := ⟨_, rfl⟩
  rw [hD] at a hn
  exact Nat.lt_of_lt_of_le (Nat.mul_pos hn h.ppos) a
theorem Gs.qlt (h : Gs U V top u2 v1 v2 p) : U / V < 4294967296 := by
  rw [Nat.div_lt_iff_lt_mul h.vpos, Nat.mul_comm]; exact h.small
/-- The first guess is no less than the digit. -/
theorem Gs.first (h : Gs U V top u2 v1 v2 p) : U / V ≤ top / v1 := by
  have hv : 0 < v1 := by have := h.norm; omega
  rw [Nat.le_div_iff_mul_le hv]
  obtain ⟨q, hq⟩ : ∃ q, U / V = q := ⟨_, rfl⟩
  rw [hq]
  have h1 : q * V ≤ U := by rw [← hq]; exact Nat.div_mul_le_self U V
  have h2 : q * ((v1 * 4294967296 + v2) * p) ≤ q * V := Nat.mul_le_mul_left q h.vlo
  have h3 := h.uhi
  have h6 := h.u2lt
  have e : q * (v1 * 4294967296 + v2) = q * v1 * 4294967296 + q * v2 := by rw [Nat.mul_add, ← Nat.mul_assoc]
  have h8 : top * 4294967296 + u2 + 1 ≤ (top + 1) * 4294967296 := by omega
  obtain ⟨D, hD⟩ : ∃ D, v1 * 4294967296 + v2 = D := ⟨_, rfl⟩
  obtain ⟨E, hE⟩ : ∃ E, top * 4294967296 + u2 + 1 = E := ⟨_, rfl⟩
  rw [hD] at h2 e
  rw [hE] at h3 h8
  have h4 : q * D * p < E * p := by rw [Nat.mul_assoc]; omega
  have h5 := Nat.lt_of_mul_lt_mul_right h4
  have h7 : q * v1 * 4294967296 < (top + 1) * 4294967296 := by
    rw [e] at h5
    exact Nat.lt_of_le_of_lt (Nat.le_add_right _ _) (Nat.lt_of_lt_of_le h5 h8)
  have := Nat.lt_of_mul_lt_mul_right h7
  omega
/-- A guess that is refuted is too great. -/
theorem Gs.down (h : Gs U V top u2 v1 v2 p) (hg : g * v1 + r = top) (hbad : 4294967296 ≤ g ∨ r * 4294967296 + u2 < g * v2) : U / V < g := by
  rcases hbad with hb | hb
  · exact Nat.lt_of_lt_of_le h.qlt hb
  · rw [Nat.div_lt_iff_lt_mul h.vpos]
    have h1 : (top * 4294967296 + u2 + 1) * p ≤ g * (v1 * 4294967296 + v2) * p := by
      refine Nat.mul_le_mul_right p ?_
      rw [Nat.mul_add, ← Nat.mul_assoc, ← hg, Nat.add_mul]; omega
    have h2 : g * ((v1 * 4294967296 + v2) * p) ≤ g * V := Nat.mul_le_mul_left g h.vlo
    have := h.uhi
    rw [Nat.mul_assoc] at h1
    omega
/-- A guess that is let stand is the digit or one more. -/
theorem Gs.stands (h : Gs U V top u2 v1 v2 p) (hg : g * v1 + r = top) (h1 : g * v2 ≤ r * 4294967296 + u2) (h2 : g < 4294967296) : g ≤ U / V + 1 := by
  have hp := h.ppos
  have hvp := h.vpos
  have a5 := h.ulo
  have a6 := h.vlo
  have a9 := h.vhi
  have hn : 4294967296 ≤ v1 * 4294967296 + v2 := by have := h.norm; omega
  have e : g * (v1 * 4294967296 + v2) = g * v1 * 4294967296 + g * v2 := by rw [Nat.mul_add, ← Nat.mul_assoc]
  obtain ⟨D, hD⟩ : ∃ D, v1 * 4294967296 + v2 = D := ⟨_, rfl⟩
  obtain ⟨E, hE⟩ : ∃ E, top * 4294967296 + u2 = E := ⟨_, rfl⟩
  rw [hD] at a6 a9 hn e
  rw [hE] at a5
  have e1 : g * D ≤ E := by rw [e, ← hE, ← hg, Nat.add_mul]; omega
  have e2 : g * D * p ≤ E * p := Nat.mul_le_mul_right p e1
  have e3 : g * V ≤ g * ((D + 1) * p) := Nat.mul_le_mul_left g (Nat.le_of_lt a9)
  have e4 : g * ((D + 1) * p) = g * D * p + g * p := by rw [Nat.add_mul, Nat.mul_add, Nat.one_mul, Nat.mul_assoc]
  have e5 : (g + 1) * p ≤ D * p := Nat.mul_le_mul_right p (by omega)
  have e6 : (g + 1) * p = g * p + p := by rw [Nat.add_mul, Nat.one_mul]
  have e7 : g * V < U + V := by omega
  have e8 := Nat.div_add_mod U V
  have e9 := Nat.mod_lt U hvp
  have f : g * V < (U / V + 2) * V := by rw [Nat.add_mul, Nat.mul_comm (U / V)]; omega
  have := Nat.lt_of_mul_lt_mul_right f
  omega
/-- A guess whose rest has passed the limb is no more than the digit. -/
theorem Gs.passed (h : Gs U V top u2 v1 v2 p) (hg : g * v1 + r = top) (h1 : 4294967296 ≤ r) (h2 : g ≤ 4294967296) : g ≤ U / V := by
  rw [Nat.le_div_iff_mul_le h.vpos]
  have a1 : g * V ≤ g * ((v1 * 4294967296 + v2 + 1) * p) := Nat.mul_le_mul_left g (Nat.le_of_lt h.vhi)
  have a0 : g * (v2 + 1) ≤ 4294967296 * 4294967296 := Nat.mul_le_mul h2 h.v2lt
  have e : g * (v1 * 4294967296 + v2 + 1) = g * v1 * 4294967296 + g * (v2 + 1) := by rw [Nat.add_assoc, Nat.mul_add, ← Nat.mul_assoc]
  have a5 := h.ulo
  obtain ⟨D, hD⟩ : ∃ D, v1 * 4294967296 + v2 + 1 = D := ⟨_, rfl⟩
  obtain ⟨E, hE⟩ : ∃ E, top * 4294967296 + u2 = E := ⟨_, rfl⟩
  rw [hD] at a1 e
  rw [hE] at a5
  have a2 : g * D ≤ E := by rw [e, ← hE, ← hg, Nat.add_mul]; omega
  have a3 := Nat.mul_le_mul_right p a2
  rw [Nat.mul_assoc] at a3
  omega
theorem Gs.first_le (h : Gs U V top u2 v1 v2 p) : top / v1 ≤ 4294967297 := by
  have hv : 0 < v1 := by have := h.norm; omega
  have hn := h.norm
  have a5 := h.ulo
  have a6 := h.vhi
  have a7 := h.small
  have h3 := h.v2lt
  have hs : v1 * 4294967296 + v2 + 1 ≤ (v1 + 1) * 4294967296 := by omega
  have hs2 : (v1 + 1) * 4294967296 ≤ v1 * 4294967298 := by omega
  obtain ⟨D, hD⟩ : ∃ D, v1 * 4294967296 + v2 + 1 = D := ⟨_, rfl⟩
  obtain ⟨E, hE⟩ : ∃ E, top * 4294967296 + u2 = E := ⟨_, rfl⟩
  rw [hD] at a6 hs
  rw [hE] at a5
  have h1 : E * p < D * 4294967296 * p := by
    rw [Nat.mul_right_comm D]; omega
  have h2 := Nat.lt_of_mul_lt_mul_right h1
  have h4 : top < D := by omega
  have h5 : top < v1 * 4294967298 := by omega
  have := (Nat.div_lt_iff_lt_mul hv).2 (by rw [Nat.mul_comm] at h5; exact h5)
  omega
end
/-- One limb of a multiple that is taken away. -/
theorem sub_step {f u v : Nat → Nat} {g i c b s b' t : Nat} (h : fv f i + g * fv v i = fv u i + (c + b) * pw i) (ht : t = g * v i + c) (hs : s + t % 4294967296 + b = u i + 4294967296 * b') (hf : f i = s) :
    fv f (i + 1) + g * fv v (i + 1) = fv u (i + 1) + (t / 4294967296 + b') * pw (i + 1) := by
  have e : (s + t % 4294967296 + b) * pw i = (u i + 4294967296 * b') * pw i := by rw [hs]
  have e2 : (t % 4294967296 + 4294967296 * (t / 4294967296)) * pw i = (g * v i + c) * pw i := by rw [Nat.mod_add_div, ht]
  have e3 : (t / 4294967296 + b') * pw (i + 1) = 4294967296 * (t / 4294967296) * pw i + 4294967296 * b' * pw i := by
    rw [pw_succ, Nat.add_mul, Nat.mul_left_comm, Nat.mul_left_comm b', Nat.mul_assoc, Nat.mul_assoc]
  simp only [Nat.add_mul] at e e2 h
  unfold fv
  rw [hf, e3, Nat.mul_add, ← Nat.mul_assoc g]; omega
/-- The greatest r with r^n at most a. -/
def iroot (n : Nat) (a : Nat) : Nat → Nat
  | 0 => 0
  | k + 1 => if (k + 1) ^ n ≤ a then k + 1 else iroot n a k
def root (n a : Nat) : Nat := iroot n a a
theorem iroot_le (n a : Nat) (hn : 0 < n) : ∀ k, (iroot n a k) ^ n ≤ a
  | 0 => by unfold iroot; rw [Nat.zero_pow hn]; exact Nat.zero_le _
  | k + 1 => by
    unfold iroot
    split
    · assumption
    · exact iroot_le n a hn k
theorem le_iroot (n a : Nat) : ∀ k x, x ≤ k → x ^ n ≤ a → x ≤ iroot n a k
  | 0, x, h, _ => by omega
  | k + 1, x, h, hx => by
    unfold iroot
    split
    · exact h
    · rename_i hh
      refine le_iroot n a k x ?_ hx
      rcases Nat.lt_or_ge x (k + 1) with h1 | h1
      · omega
      · exact absurd (by rwa [show x = k + 1 by omega] at hx) hh
theorem root_le {n a : Nat} (hn : 0 < n) : root n a ^ n ≤ a := iroot_le n a hn a
theorem le_pow_self {x n : Nat} (hn : 0 < n) : x ≤ x ^ n := by
  rcases Nat.eq_zero_or_pos x with h | h
  · omega
  · have := Nat.pow_le_pow_right h hn
    rwa [Nat.pow_one] at this
theorem le_root {n a x : Nat} (hn : 0 < n) (h : x ^ n ≤ a) : x ≤ root n a := le_iroot n a a x (Nat.le_trans (le_pow_self hn) h) h
theorem root_lt {n a x : Nat} (hn : 0 < n) (h : a < x ^ n) : root n a < x := by
  rcases Nat.lt_or_ge (root n a) x with h1 | h1
  · exact h1
  · have := Nat.pow_le_pow_left h1 n
    have := root_le (a := a) hn
    omega
theorem lt_root_succ {n a : Nat} (hn : 0 < n) : a < (root n a + 1) ^ n := Nat.lt_of_not_le fun h => by have := le_root hn h; omega
theorem root_eq {n a r : Nat} (hn : 0 < n) (h1 : r ^ n ≤ a) (h2 : a < (r + 1) ^ n) : root n a = r := by
  have a1 := le_root hn h1
  have a2 := root_lt hn h2
  omega
theorem root_one (a : Nat) : root 1 a = a := root_eq (by omega) (by simp) (by simp)
theorem root_zero {n : Nat} (hn : 0 < n) : root n 0 = 0 := root_eq hn (by rw [Nat.zero_pow hn]; exact Nat.le_refl _) (by simp)
/-- The means' inequality. -/
theorem means (x r : Nat) : ∀ n, (n + 1) * r * x ^ n ≤ n * x ^ (n + 1) + r ^ (n + 1)
  | 0 => by simp
  | n + 1 => by
    have ih := Nat.mul_le_mul_right x (means x r n)
    have h2 : x ^ (n + 1) * r + r ^ (n + 1) * x ≤ x ^ (n + 1) * x + r ^ (n + 1) * r := by
      rcases Nat.le_total r x with h | h
      · have h1 := Nat.pow_le_pow_left h (n + 1)
        obtain ⟨d, rfl⟩ : ∃ d, x = r + d := ⟨x - r, by omega⟩
        have := Nat.mul_le_mul_right d h1
        rw [Nat.mul_add, Nat.mul_add]; omega
      · have h1 := Nat.pow_le_pow_left h (n + 1)
        obtain ⟨d, rfl⟩ : ∃ d, r = x + d := ⟨r - x, by omega⟩
        have := Nat.mul_le_mul_right d h1
        rw [Nat.mul_add, Nat.mul_add]; omega
    have e1 : (n + 1) * r * x ^ n * x = (n + 1) * (x ^ (n + 1) * r) := by rw [Nat.mul_assoc, Nat.mul_assoc, ← Nat.pow_succ, Nat.mul_comm r]
    have e2 : n * x ^ (n + 1) * x = n * x ^ (n + 1 + 1) := by rw [Nat.mul_assoc, ← Nat.pow_succ]
    have e3 : (n + 1 + 1) * r * x ^ (n + 1) = (n + 1) * (x ^ (n + 1) * r) + x ^ (n + 1) * r := by rw [Nat.mul_assoc, Nat.mul_comm r, Nat.add_mul (n + 1) 1, Nat.one_mul]
    have e4 : (n + 1) * x ^ (n + 1 + 1) = n * x ^ (n + 1 + 1) + x ^ (n + 1 + 1) := by rw [Nat.add_mul, Nat.one_mul]
    rw [e1, Nat.add_mul _ _ x, e2] at ih
    have h3 : x ^ (n + 1) * r + r ^ (n + 1) * x ≤ x ^ (n + 1 + 1) + r ^ (n + 1 + 1) := h2
    rw [e3, e4]
    clear e3 e4 e1 e2 h2
    omega
/-- Newton's step from above does not pass the root. -/
theorem newton_ge {n a x : Nat} (hx : 0 < x) : root (n + 1) a ≤ (x * n + a / x ^ n) / (n + 1) := by
  obtain ⟨r, hr⟩ : ∃ r, root (n + 1) a = r := ⟨_, rfl⟩
  have h1 : r ^ (n + 1) ≤ a := by rw [← hr]; exact root_le (by omega)
  rw [hr, Nat.le_div_iff_mul_le (by omega)]
  have hm := means x r n
  have hp : 0 < x ^ n := Nat.pow_pos hx
  rcases Nat.le_total (r * (n + 1)) (x * n) with h | h
  · exact Nat.le_trans h (Nat.le_add_right _ _)
  · have h2 : r * (n + 1) - x * n ≤ a / x ^ n := by
      rw [Nat.le_div_iff_mul_le hp, Nat.sub_mul]
      have e1 : r * (n + 1) * x ^ n = (n + 1) * r * x ^ n := by rw [Nat.mul_comm r]
      have e2 : x * n * x ^ n = n * x ^ (n + 1) := by rw [Nat.pow_succ, Nat.mul_comm x n, Nat.mul_assoc, Nat.mul_comm x]
      omega
    exact Nat.sub_le_iff_le_add'.1 h2
/-- Above the root Newton's step falls. -/
theorem newton_lt {n a x : Nat} (h : root (n + 1) a < x) : (x * n + a / x ^ n) / (n + 1) < x := by
  have h1 : a < x ^ (n + 1) := Nat.lt_of_not_le fun hh => by have := le_root (n := n + 1) (by omega) hh; omega
  have hp : 0 < x ^ n := Nat.pow_pos (by omega)
  have h2 : a / x ^ n < x := by rw [Nat.div_lt_iff_lt_mul hp, Nat.mul_comm, ← Nat.pow_succ]; exact h1
  rw [Nat.div_lt_iff_lt_mul (by omega), Nat.mul_add]
  omega
/-- How many binary digits a number has. -/
def bitsN (v : Nat) : Nat := if v = 0 then 0 else Nat.log2 v + 1
theorem bitsN_le_iff (v k : Nat) : bitsN v ≤ k ↔ v < 2 ^ k := by
  unfold bitsN
  split
  · rename_i h; subst h; simp [Nat.pow_pos]
  · rename_i h
    rw [← Nat.log2_lt h]; omega
theorem lt_two_bits (v : Nat) : v < 2 ^ bitsN v := (bitsN_le_iff v _).1 (Nat.le_refl _)
theorem bitsN_eq {v k : Nat} (h1 : 2 ^ k ≤ v) (h2 : v < 2 ^ (k + 1)) : bitsN v = k + 1 := by
  have a := (bitsN_le_iff v (k + 1)).2 h2
  have b : ¬ bitsN v ≤ k := fun h => by have := (bitsN_le_iff v k).1 h; omega
  omega
theorem two_le_of_bits {v k : Nat} (h : k < bitsN v) : 2 ^ k ≤ v := Nat.le_of_not_lt fun hh => by have := (bitsN_le_iff v k).2 hh; omega
theorem bitsN_zero : bitsN 0 = 0 := rfl
theorem bitsN_pos {v : Nat} (h : 0 < v) : 0 < bitsN v := Nat.pos_of_ne_zero fun h0 => by
  have := (bitsN_le_iff v 0).1 (by omega)
  simp at this; omega
/-- The number of binary digits, by the upper limb. -/
theorem bitsN_top {v k : Nat} (hk : ln v = k + 1) : bitsN v = 32 * k + bitsN (lim v k) := by
  have h1 := lt_pw_ln v
  have h2 := pw_le_of_ln (v := v) (k := k) (by omega)
  rw [hk, pw_succ] at h1
  have hl : lim v k = v / pw k := by
    unfold lim
    rw [Nat.mod_eq_of_lt (by rw [Nat.div_lt_iff_lt_mul (pw_pos k)]; exact h1)]
  have hpos : 0 < v / pw k := Nat.div_pos h2 (pw_pos k)
  rw [hl]
  obtain ⟨j, hj⟩ : ∃ j, bitsN (v / pw k) = j + 1 := ⟨bitsN (v / pw k) - 1, by have := bitsN_pos hpos; omega⟩
  have a1 := two_le_of_bits (v := v / pw k) (k := j) (by omega)
  have a2 := lt_two_bits (v / pw k)
  rw [hj] at a2
  rw [hj, ← Nat.add_assoc]
  refine bitsN_eq ?_ ?_
  · rw [Nat.pow_add, ← pw_two, Nat.mul_comm, ← Nat.le_div_iff_mul_le (pw_pos k)]; exact a1
  · rw [Nat.add_assoc, Nat.pow_add, ← pw_two, Nat.mul_comm, ← Nat.div_lt_iff_lt_mul (pw_pos k)]; exact a2
end
end
section
section
theorem pw_one : pw 1 = 4294967296 := by unfold pw; rw [Nat.pow_one]
/-- A window of a row of limbs and the divisor's upper limbs. -/
theorem gs_of {u v : Nat → Nat} {m : Nat} (hu : Lm u (m + 3)) (hv : Lm v (m + 2)) (hn : 2147483648 ≤ v (m + 1)) (hs : fv u (m + 3) < fv v (m + 2) * 4294967296) :
    Gs (fv u (m + 3)) (fv v (m + 2)) (u (m + 2) * 4294967296 + u (m + 1)) (u m) (v (m + 1)) (v m) (pw m) := by
  have a1 := fv_lt (hu.mono (show m ≤ m + 3 by omega))
  have a2 := fv_lt (hv.mono (show m ≤ m + 2 by omega))
  have e1 : fv v (m + 2) = fv v m + (v (m + 1) * 4294967296 + v m) * pw m := by
    show fv v m + v m * pw m + v (m + 1) * pw (m + 1) = _
    rw [pw_succ, Nat.add_mul, ← Nat.mul_assoc]; omega
  have e2 : fv u (m + 3) = fv u m + ((u (m + 2) * 4294967296 + u (m + 1)) * 4294967296 + u m) * pw m := by
    show fv u m + u m * pw m + u (m + 1) * pw (m + 1) + u (m + 2) * pw (m + 1 + 1) = _
    rw [pw_succ (m + 1), pw_succ, Nat.add_mul, Nat.add_mul, Nat.add_mul, ← Nat.mul_assoc, ← Nat.mul_assoc, ← Nat.mul_assoc]; omega
  exact {
    vlo := by rw [e1]; omega
    vhi := by rw [e1, Nat.add_mul _ 1, Nat.one_mul]; omega
    ulo := by rw [e2]; omega
    uhi := by rw [e2, Nat.add_mul _ 1, Nat.one_mul]; omega
    norm := hn
    v1lt := hv _ (by omega)
    v2lt := hv _ (by omega)
    u2lt := hu _ (by omega)
    small := hs
    ppos := pw_pos m }
/-- The last limb of a multiple that is taken away. -/
theorem sub_last {f u : Nat → Nat} {n gV c b s b' : Nat} (h : fv f n + gV = fv u n + (c + b) * pw n) (hs : s + c + b = u n + 4294967296 * b') (hf : f n = s) : fv f (n + 1) + gV = fv u (n + 1) + b' * pw (n + 1) := by
  have e : (s + c + b) * pw n = (u n + 4294967296 * b') * pw n := by rw [hs]
  have e3 : b' * pw (n + 1) = 4294967296 * b' * pw n := by rw [pw_succ, ← Nat.mul_assoc, Nat.mul_comm b']
  simp only [Nat.add_mul] at e h
  unfold fv
  rw [hf, e3]; omega
theorem dig_fine {F g U V : Nat} (hV : 0 < V) (h : F + g * V = U) (hg : U / V ≤ g) : g = U / V ∧ F = U % V := by
  have h1 : g ≤ U / V := (Nat.le_div_iff_mul_le hV).2 (by omega)
  obtain rfl : g = U / V := by omega
  refine ⟨rfl, ?_⟩
  have := Nat.div_add_mod U V
  rw [Nat.mul_comm] at this
  omega
theorem dig_over {F g U V P : Nat} (hV : 0 < V) (h : F + g * V = U + P) (hF : F < P) (hg : g ≤ U / V + 1) : g = U / V + 1 ∧ F + V = U % V + P := by
  have h1 : U / V < g := (Nat.div_lt_iff_lt_mul hV).2 (by omega)
  obtain rfl : g = U / V + 1 := by omega
  refine ⟨rfl, ?_⟩
  have := Nat.div_add_mod U V
  rw [Nat.add_mul, Nat.one_mul, Nat.mul_comm (U / V)] at h
  omega
theorem one_way {a x R P : Nat} (h : a * P + x = 4294967296 * P + R) (hx : x < P) (hR : R < P) : a = 4294967296 ∧ x = R := by
  have h1 : (a * P + x) / P = a := by rw [Nat.mul_comm, Nat.mul_add_div (by omega), Nat.div_eq_of_lt hx, Nat.add_zero]
  have h2 : (4294967296 * P + R) / P = 4294967296 := by rw [Nat.mul_comm, Nat.mul_add_div (by omega), Nat.div_eq_of_lt hR, Nat.add_zero]
  rw [h] at h1
  have e : a = 4294967296 := by rw [← h1, h2]
  subst e
  exact ⟨rfl, by omega⟩
/-- The divisor is added back. -/
theorem back_last {f f2 : Nat → Nat} {n over V R : Nat} (h2 : Lm f2 n) (h : fv f2 n + over * pw n = fv f n + V) (hF : fv f (n + 1) + V = R + pw (n + 1)) (hR : R < pw n) (hl : f2 n = (f n + over) % 4294967296) : fv f2 (n + 1) = R := by
  have a := fv_lt h2
  have e : fv f (n + 1) = fv f n + f n * pw n := rfl
  rw [e, pw_succ] at hF
  have e2 : (f n + over) * pw n + fv f2 n = 4294967296 * pw n + R := by rw [Nat.add_mul]; omega
  obtain ⟨e3, e4⟩ := one_way e2 a hR
  show fv f2 n + f2 n * pw n = R
  rw [hl, e3, e4]; simp
/-- A number whose upper limbs are a remainder: what the window reads. -/
theorem win_val {f : Nat → Nat} {U V k n M : Nat} (hf : f k = lim U k) (hM : n ≤ M) (hV : V < pw n) (hV0 : 0 < V) (h : fv (fun i => f (k + 1 + i)) M = U / pw (k + 1) % V) :
    fv (fun i => f (k + i)) (n + 1) = U / pw (k + 1) % V * 4294967296 + lim U k ∧ fv (fun i => f (k + 1 + n + i)) (M - n) = 0 := by
  have hR : U / pw (k + 1) % V < pw n := Nat.lt_trans (Nat.mod_lt _ hV0) hV
  obtain ⟨R, hRe⟩ : ∃ R, U / pw (k + 1) % V = R := ⟨_, rfl⟩
  rw [hRe] at h hR ⊢
  obtain ⟨d, rfl⟩ : ∃ d, M = n + d := ⟨M - n, by omega⟩
  rw [fv_add] at h
  have h0 : fv (fun i => f (k + 1 + (n + i))) d = 0 := Nat.eq_zero_of_not_pos fun hp => by
    have : pw n * 1 ≤ pw n * fv (fun i => f (k + 1 + (n + i))) d := Nat.mul_le_mul_left _ hp
    omega
  rw [h0, Nat.mul_zero, Nat.add_zero] at h
  refine ⟨?_, ?_⟩
  · rw [Nat.add_comm n 1, fv_add, show fv (fun i => f (k + i)) 1 = f k by simp [fv, pw_zero], hf, pw_one]
    rw [fv_congr (g := fun i => f (k + 1 + i)) (fun i _ => by rw [Nat.add_assoc]), h]; exact Nat.add_comm _ _ |>.trans (by rw [Nat.mul_comm])
  · rw [show n + d - n = d by omega]
    rw [← h0]
    exact fv_congr fun i _ => by rw [Nat.add_assoc (k + 1)]
theorem win_next {f f' : Nat → Nat} {k n M X : Nat} (hM : n ≤ M) (h1 : fv (fun i => f' (k + i)) (n + 1) = X) (h2 : ∀ i, k + n < i → f' i = f i) (h0 : fv (fun i => f (k + 1 + n + i)) (M - n) = 0) : fv (fun i => f' (k + i)) (M + 1) = X := by
  obtain ⟨d, rfl⟩ : ∃ d, M = n + d := ⟨M - n, by omega⟩
  have e : n + d - n = d := by omega
  rw [e] at h0
  have e2 : n + d + 1 = (n + 1) + d := by omega
  rw [e2, fv_add, h1]
  have e3 : fv (fun i => f' (k + (n + 1 + i))) d = fv (fun i => f (k + 1 + n + i)) d := fv_congr fun i _ => by
    have e4 : k + (n + 1 + i) = k + 1 + n + i := by omega
    show f' (k + (n + 1 + i)) = f (k + 1 + n + i)
    rw [h2 _ (by omega), e4]
  rw [e3, h0, Nat.mul_zero, Nat.add_zero]
theorem win_le {f : Nat → Nat} {n k : Nat} (h : ∀ i, k ≤ i → i < n → f i = 0) : fv f n = fv f (min k n) := by
  rcases Nat.le_total k n with hh | hh
  · rw [Nat.min_eq_left hh]; exact fv_tail h hh
  · rw [Nat.min_eq_right hh]
/-- A digit of a quotient, with the window's value. -/
theorem digit_step {U V i t : Nat} (hV : 0 < V) (ht : t = U / pw (i + 1) % V * 4294967296 + lim U i) : lim (U / V) i = t / V ∧ t / V < 4294967296 ∧ t % V = U / pw i % V ∧ t < V * 4294967296 := by
  have h := word_step hV ht
  refine ⟨h.1, h.2.1, h.2.2, ?_⟩
  have h1 := Nat.mod_lt (U / pw (i + 1)) hV
  have h2 := lim_lt U i
  rw [ht]
  have : (U / pw (i + 1) % V + 1) * 4294967296 ≤ V * 4294967296 := Nat.mul_le_mul_right _ h1
  omega
theorem shl_div (a b s : Nat) : a * 2 ^ s / (b * 2 ^ s) = a / b := Nat.mul_div_mul_right _ _ (Nat.pow_pos (by omega))
theorem shl_mod (a b s : Nat) : a * 2 ^ s % (b * 2 ^ s) = a % b * 2 ^ s := Nat.mul_mod_mul_right _ _ _
/-- How far the divisor is moved up. -/
theorem norm_top {b n s : Nat} (hb : ln b = n + 1) (hs : s = 32 - bitsN (lim b n)) : s ≤ 31 ∧ b * 2 ^ s < pw (n + 1) ∧ 2147483648 * pw n ≤ b * 2 ^ s := by
  have h1 := lt_pw_ln b
  have h2 := pw_le_of_ln (v := b) (k := n) (by omega)
  rw [hb, pw_succ] at h1
  have hl : lim b n = b / pw n := by
    unfold lim
    rw [Nat.mod_eq_of_lt (by rw [Nat.div_lt_iff_lt_mul (pw_pos n)]; exact h1)]
  have hd : 0 < b / pw n := Nat.div_pos h2 (pw_pos n)
  rw [hl] at hs
  have hlt : b / pw n < 2 ^ 32 := by rw [Nat.div_lt_iff_lt_mul (pw_pos n)]; exact h1
  have c1 := (bitsN_le_iff (b / pw n) 32).2 hlt
  have c2 := bitsN_pos hd
  obtain ⟨j, hj⟩ : ∃ j, bitsN (b / pw n) = j + 1 := ⟨bitsN (b / pw n) - 1, by omega⟩
  have a1 := two_le_of_bits (v := b / pw n) (k := j) (by omega)
  have a2 := lt_two_bits (b / pw n)
  rw [hj] at a2 hs c1
  refine ⟨by omega, ?_, ?_⟩
  · have : b < 2 ^ (j + 1) * pw n := by rw [← Nat.div_lt_iff_lt_mul (pw_pos n)]; exact a2
    have h3 := Nat.mul_lt_mul_of_pos_right this (show 0 < 2 ^ s from Nat.pow_pos (by omega))
    refine Nat.lt_of_lt_of_le h3 (Nat.le_of_eq ?_)
    rw [Nat.mul_right_comm, ← Nat.pow_add, show j + 1 + s = 32 by omega, pw_succ]
  · have : 2 ^ j * pw n ≤ b := by rw [← Nat.le_div_iff_mul_le (pw_pos n)]; exact a1
    have h3 := Nat.mul_le_mul_right (2 ^ s) this
    refine Nat.le_trans (Nat.le_of_eq ?_) h3
    rw [Nat.mul_right_comm, ← Nat.pow_add, show j + s = 31 by omega]
theorem top_of {v n : Nat} (h1 : v < pw (n + 1)) (h2 : 2147483648 * pw n ≤ v) : 2147483648 ≤ lim v n ∧ ln v = n + 1 := by
  have hp := pw_pos n
  refine ⟨?_, ln_eq (by omega) h1⟩
  rw [pw_succ] at h1
  unfold lim
  rw [Nat.mod_eq_of_lt (by rw [Nat.div_lt_iff_lt_mul hp]; exact h1), Nat.le_div_iff_mul_le hp]
  exact h2
theorem start_small {a b s n m : Nat} (ha : a < pw m) (hs : s ≤ 31) (hnm : n + 1 ≤ m) (h2 : 2147483648 * pw n ≤ b) : a * 2 ^ s / pw (m - n) < b := by
  rw [Nat.div_lt_iff_lt_mul (pw_pos _)]
  have h31 : 2 ^ s ≤ 2 ^ 31 := Nat.pow_le_pow_right (by omega) hs
  have e : pw m = pw n * pw (m - n) := by rw [← pw_add]; congr 1; omega
  have h3 : a * 2 ^ s < pw m * 2 ^ s := Nat.mul_lt_mul_of_pos_right ha (Nat.pow_pos (by omega))
  have h4 : pw m * 2 ^ s ≤ pw m * 2147483648 := Nat.mul_le_mul_left _ h31
  have h5 := Nat.mul_le_mul_right (pw (m - n)) h2
  rw [Nat.mul_assoc, ← e, Nat.mul_comm] at h5
  omega
theorem quot_small {a b n m : Nat} (ha : a < pw m) (hnm : n + 1 ≤ m) (h2 : pw n ≤ b) : a / b < pw (m - n) := by
  rw [Nat.div_lt_iff_lt_mul (Nat.lt_of_lt_of_le (pw_pos n) h2)]
  have e : pw m = pw (m - n) * pw n := by rw [← pw_add]; congr 1; omega
  have := Nat.mul_le_mul_left (pw (m - n)) h2
  omega
end
end
section
section
structure Tn where
  two : Int
  three : Int
  five : Int
  den : Int
def g4 (a b c d : Int) : Nat := Nat.gcd (Nat.gcd (Nat.gcd a.natAbs b.natAbs) c.natAbs) d.natAbs
def qd (a : Int) (g : Nat) : Int := if a < 0 then -((a.natAbs / g : Nat) : Int) else ((a.natAbs / g : Nat) : Int)
structure Tn.Ok (t : Tn) : Prop where
  one : g4 t.two t.three t.five t.den = 1
  lo : 1 ≤ t.den
  hi : t.den ≤ 24
  two : t.two.natAbs ≤ 960
  three : t.three.natAbs ≤ 960
  five : t.five.natAbs ≤ 960
def Tn.okB (t : Tn) : Bool := decide (g4 t.two t.three t.five t.den = 1) && decide (1 ≤ t.den) && decide (t.den ≤ 24) && decide (t.two.natAbs ≤ 960 ∧ t.three.natAbs ≤ 960 ∧ t.five.natAbs ≤ 960)
theorem okB_iff (t : Tn) : t.okB = true ↔ t.Ok := by
  unfold Tn.okB
  simp only [Bool.and_eq_true, decide_eq_true_eq]
  exact ⟨fun ⟨⟨⟨a, b⟩, c⟩, d, e, f⟩ => ⟨a, b, c, d, e, f⟩, fun h => ⟨⟨⟨h.one, h.lo⟩, h.hi⟩, h.two, h.three, h.five⟩⟩
def redV (a b c d : Int) : Tn := ⟨qd a (g4 a b c d), qd b (g4 a b c d), qd c (g4 a b c d), qd d (g4 a b c d)⟩
/-- Four integers reduced, where that is valid. -/
def redT (a b c d : Int) : Option Tn := if (redV a b c d).okB then some (redV a b c d) else none
theorem qd_mul {a : Int} {g k : Nat} (hk : 0 < k) : qd ((k : Int) * a) (k * g) = qd a g := by
  have e : ((k : Int) * a).natAbs = k * a.natAbs := by rw [Int.natAbs_mul, Int.natAbs_natCast]
  have s : ((k : Int) * a < 0) = (a < 0) := by
    refine propext ⟨fun h => ?_, fun h => Int.mul_neg_of_pos_of_neg (by omega) h⟩
    refine Int.lt_of_not_ge fun h2 => ?_
    have := Int.mul_nonneg (show (0 : Int) ≤ (k : Int) by omega) h2
    omega
  unfold qd
  simp only [s]
  rw [e, Nat.mul_div_mul_left _ _ hk]
theorem g4_mul (k : Nat) (a b c d : Int) : g4 ((k : Int) * a) ((k : Int) * b) ((k : Int) * c) ((k : Int) * d) = k * g4 a b c d := by
  unfold g4
  rw [Int.natAbs_mul, Int.natAbs_mul, Int.natAbs_mul, Int.natAbs_mul, Int.natAbs_natCast, Nat.gcd_mul_left, Nat.gcd_mul_left, Nat.gcd_mul_left]
theorem redT_mul {k : Nat} (hk : 0 < k) (a b c d : Int) : redT ((k : Int) * a) ((k : Int) * b) ((k : Int) * c) ((k : Int) * d) = redT a b c d := by
  have e : redV ((k : Int) * a) ((k : Int) * b) ((k : Int) * c) ((k : Int) * d) = redV a b c d := by
    unfold redV
    rw [g4_mul, qd_mul hk, qd_mul hk, qd_mul hk, qd_mul hk]
  unfold redT
  rw [e]
theorem qd_one (a : Int) : qd a 1 = a := by
  unfold qd
  rw [Nat.div_one]
  split <;> omega
theorem redT_self {t : Tn} (h : t.Ok) : redT t.two t.three t.five t.den = some t := by
  have e : redV t.two t.three t.five t.den = t := by
    unfold redV
    rw [h.one, qd_one, qd_one, qd_one, qd_one]
  unfold redT
  rw [e, if_pos ((okB_iff t).2 h)]
theorem redT_ok {a b c d : Int} {t : Tn} (h : redT a b c d = some t) : t.Ok ∧ t = redV a b c d := by
  unfold redT at h
  split at h
  · rename_i hk
    injection h with h
    subst h
    exact ⟨(okB_iff _).1 hk, rfl⟩
  · cases h
theorem qd_spec {a : Int} {g : Nat} (h : g ∣ a.natAbs) : (g : Int) * qd a g = a := by
  obtain ⟨k, hk⟩ := h
  unfold qd
  rcases Nat.eq_zero_or_pos g with h0 | h0
  · subst h0
    rw [Nat.zero_mul] at hk
    have : a = 0 := by omega
    subst this
    simp
  · rw [hk, Nat.mul_div_cancel_left _ h0]
    split
    · rw [Int.mul_neg, ← Int.natCast_mul, ← hk]; omega
    · rw [← Int.natCast_mul, ← hk]; omega
theorem g4_dvd (a b c d : Int) : g4 a b c d ∣ a.natAbs ∧ g4 a b c d ∣ b.natAbs ∧ g4 a b c d ∣ c.natAbs ∧ g4 a b c d ∣ d.natAbs := by
  have h1 : g4 a b c d ∣ Nat.gcd (Nat.gcd a.natAbs b.natAbs) c.natAbs := Nat.gcd_dvd_left _ _
  have h2 : g4 a b c d ∣ Nat.gcd a.natAbs b.natAbs := Nat.dvd_trans h1 (Nat.gcd_dvd_left _ _)
  exact ⟨Nat.dvd_trans h2 (Nat.gcd_dvd_left _ _), Nat.dvd_trans h2 (Nat.gcd_dvd_right _ _), Nat.dvd_trans h1 (Nat.gcd_dvd_right _ _), Nat.gcd_dvd_right _ _⟩
theorem g4_pos {a b c d : Int} (hd : 0 < d) : 0 < g4 a b c d := Nat.gcd_pos_of_pos_right _ (by omega)
/-- The four integers are the reduced ones, times their divisor. -/
theorem redV_spec (a b c d : Int) : a = (g4 a b c d : Int) * (redV a b c d).two ∧ b = (g4 a b c d : Int) * (redV a b c d).three ∧ c = (g4 a b c d : Int) * (redV a b c d).five ∧ d = (g4 a b c d : Int) * (redV a b c d).den := by
  have h := g4_dvd a b c d
  exact ⟨(qd_spec h.1).symm, (qd_spec h.2.1).symm, (qd_spec h.2.2.1).symm, (qd_spec h.2.2.2).symm⟩
/-- The product of powers of 2, 3 and 5 whose exponents are not below 0, and its inverse's. -/
def ov (a b c : Int) : Nat := 2 ^ a.toNat * 3 ^ b.toNat * 5 ^ c.toNat
def un (a b c : Int) : Nat := 2 ^ (-a).toNat * 3 ^ (-b).toNat * 5 ^ (-c).toNat
theorem ov_pos (a b c : Int) : 0 < ov a b c := Nat.mul_pos (Nat.mul_pos (Nat.pow_pos (by omega)) (Nat.pow_pos (by omega))) (Nat.pow_pos (by omega))
theorem un_pos (a b c : Int) : 0 < un a b c := ov_pos (-a) (-b) (-c)
/-- 2^k is at most o/u. -/
def le2 (k : Int) (o u : Nat) : Prop := u * 2 ^ k.toNat ≤ o * 2 ^ (-k).toNat
theorem le2_shift {k : Int} {o u n m : Nat} (h : (m : Int) = k + n) : le2 k o u ↔ u * 2 ^ m ≤ o * 2 ^ n := by
  unfold le2
  rcases Int.le_total 0 k with hk | hk
  · have e1 : (-k).toNat = 0 := by omega
    have e2 : m = k.toNat + n := by omega
    rw [e1, e2, Nat.pow_add, ← Nat.mul_assoc, Nat.pow_zero, Nat.mul_one]
    exact ⟨fun h => Nat.mul_le_mul_right _ h, fun h => Nat.le_of_mul_le_mul_right h (Nat.pow_pos (by omega))⟩
  · have e1 : k.toNat = 0 := by omega
    have e2 : n = (-k).toNat + m := by omega
    rw [e1, e2, Nat.pow_add, ← Nat.mul_assoc, Nat.pow_zero, Nat.mul_one]
    exact ⟨fun h => Nat.mul_le_mul_right _ h, fun h => Nat.le_of_mul_le_mul_right h (Nat.pow_pos (by omega))⟩
theorem le2_mono {j k : Int} {o u : Nat} (h : le2 k o u) (hj : j ≤ k) : le2 j o u := by
  have a := (le2_shift (k := k) (o := o) (u := u) (n := j.natAbs + k.natAbs) (m := (k + (j.natAbs + k.natAbs : Nat)).toNat) (by omega)).1 h
  refine (le2_shift (k := j) (n := j.natAbs + k.natAbs) (m := (j + (j.natAbs + k.natAbs : Nat)).toNat) (by omega)).2 (Nat.le_trans (Nat.mul_le_mul_left u ?_) a)
  exact Nat.pow_le_pow_right (by omega) (by omega)
instance (k : Int) (o u : Nat) : Decidable (le2 k o u) := by unfold le2; infer_instance
/-- The greatest k with 2^k at most o/u. -/
def flr (o u : Nat) : Int := if le2 ((bitsN o : Int) - bitsN u) o u then (bitsN o : Int) - bitsN u else (bitsN o : Int) - bitsN u - 1
theorem flr_spec {o u : Nat} (ho : 0 < o) (hu : 0 < u) : le2 (flr o u) o u ∧ ¬ le2 (flr o u + 1) o u := by
  obtain ⟨B, hB⟩ : ∃ B, bitsN o = B + 1 := ⟨bitsN o - 1, by have := bitsN_pos ho; omega⟩
  obtain ⟨C, hC⟩ : ∃ C, bitsN u = C + 1 := ⟨bitsN u - 1, by have := bitsN_pos hu; omega⟩
  have o1 := two_le_of_bits (v := o) (k := B) (by omega)
  have o2 := lt_two_bits o
  have u1 := two_le_of_bits (v := u) (k := C) (by omega)
  have u2 := lt_two_bits u
  rw [hB] at o2
  rw [hC] at u2
  have hup : ¬ le2 ((B + 1 : Nat) - (C + 1 : Nat) + 1 : Int) o u := fun h => by
    have a := (le2_shift (n := C) (m := B + 1) (by omega)).1 h
    have b : 2 ^ C * 2 ^ (B + 1) ≤ u * 2 ^ (B + 1) := Nat.mul_le_mul_right _ u1
    have c : o * 2 ^ C < 2 ^ (B + 1) * 2 ^ C := Nat.mul_lt_mul_of_pos_right o2 (Nat.pow_pos (by omega))
    rw [Nat.mul_comm] at b
    omega
  have hdn : le2 ((B + 1 : Nat) - (C + 1 : Nat) - 1 : Int) o u := by
    refine (le2_shift (n := C + 1) (m := B) (by omega)).2 ?_
    have b : u * 2 ^ B ≤ 2 ^ (C + 1) * 2 ^ B := Nat.mul_le_mul_right _ (Nat.le_of_lt u2)
    have c : 2 ^ B * 2 ^ (C + 1) ≤ o * 2 ^ (C + 1) := Nat.mul_le_mul_right _ o1
    rw [Nat.mul_comm (2 ^ (C + 1))] at b
    omega
  unfold flr
  rw [hB, hC]
  split
  · exact ⟨by assumption, hup⟩
  · rename_i h
    refine ⟨hdn, ?_⟩
    rw [show ((B + 1 : Nat) : Int) - (C + 1 : Nat) - 1 + 1 = (B + 1 : Nat) - (C + 1 : Nat) by omega]
    exact h
theorem le2_iff {k : Int} {o u : Nat} (ho : 0 < o) (hu : 0 < u) : le2 k o u ↔ k ≤ flr o u := by
  have h := flr_spec ho hu
  refine ⟨fun hk => Int.le_of_not_gt fun hlt => h.2 (le2_mono hk (by omega)), fun hk => le2_mono h.1 hk⟩
theorem flr_eq {k : Int} {o u : Nat} (ho : 0 < o) (hu : 0 < u) (h1 : le2 k o u) (h2 : ¬ le2 (k + 1) o u) : flr o u = k := by
  rw [le2_iff ho hu] at h1 h2
  omega
/-- Whole octaves: rounding down. -/
theorem fdiv_eq {k m d : Int} (hd : 0 < d) (h1 : m * d ≤ k) (h2 : k < (m + 1) * d) : k / d = m := by
  have a : m ≤ k / d := (Int.le_ediv_iff_mul_le hd).2 h1
  have b : k / d < m + 1 := (Int.ediv_lt_iff_lt_mul hd).2 h2
  omega
theorem ediv_bounds (k : Int) {d : Int} (hd : 0 < d) : k / d * d ≤ k ∧ k < (k / d + 1) * d := by
  have := Int.mul_ediv_add_emod k d
  have h2 := Int.emod_nonneg k (show d ≠ 0 by omega)
  have h3 := Int.emod_lt_of_pos k hd
  rw [Int.add_mul, Int.one_mul, Int.mul_comm (k / d)]
  omega
/-- How 2^two 3^three 5^five compares with 2^k. -/
theorem le2_two {k a : Int} {p q r s x y : Nat} (h1 : (p : Int) - q = a - k) (h2 : (r : Int) - s = a) : le2 k (2 ^ r * y) (2 ^ s * x) ↔ 2 ^ q * x ≤ 2 ^ p * y := by
  obtain ⟨n, hn⟩ : ∃ n : Nat, n = p + q + k.natAbs + s := ⟨_, rfl⟩
  obtain ⟨m, hm⟩ : ∃ m : Nat, (m : Int) = k + n := ⟨(k + n).toNat, by omega⟩
  obtain ⟨e, he⟩ : ∃ e : Nat, r + n = p + e := ⟨r + n - p, by omega⟩
  have he2 : s + m = q + e := by omega
  rw [le2_shift hm]
  have f1 : 2 ^ s * x * 2 ^ m = 2 ^ e * (2 ^ q * x) := by
    rw [Nat.mul_right_comm, ← Nat.pow_add, he2, Nat.pow_add]; ac_rfl
  have f2 : 2 ^ r * y * 2 ^ n = 2 ^ e * (2 ^ p * y) := by
    rw [Nat.mul_right_comm, ← Nat.pow_add, he, Nat.pow_add]; ac_rfl
  rw [f1, f2]
  exact ⟨fun h => Nat.le_of_mul_le_mul_left h (Nat.pow_pos (by omega)), fun h => Nat.mul_le_mul_left _ h⟩
theorem le2_move (k a b c : Int) : le2 k (ov a b c) (un a b c) ↔ un (a - k) b c ≤ ov (a - k) b c := by
  unfold ov un
  rw [Nat.mul_assoc, Nat.mul_assoc, Nat.mul_assoc, Nat.mul_assoc]
  exact le2_two (a := a) (by omega) (by omega)
theorem pow_nat (b : Nat) (k : Nat) (a : Int) : b ^ ((k : Int) * a).toNat = (b ^ a.toNat) ^ k := by
  rw [← Nat.pow_mul]
  congr 1
  rcases Int.le_total 0 a with h | h
  · obtain ⟨n, rfl⟩ := Int.eq_ofNat_of_zero_le h
    rw [← Int.natCast_mul, Int.toNat_natCast, Int.toNat_natCast, Nat.mul_comm]
  · have h1 : (k : Int) * a ≤ 0 := Int.mul_nonpos_of_nonneg_of_nonpos (by omega) h
    rw [show ((k : Int) * a).toNat = 0 by omega, show a.toNat = 0 by omega, Nat.zero_mul]
theorem ov_mul (k : Nat) (a b c : Int) : ov ((k : Int) * a) ((k : Int) * b) ((k : Int) * c) = ov a b c ^ k := by
  unfold ov
  rw [pow_nat, pow_nat, pow_nat, ← Nat.mul_pow, ← Nat.mul_pow]
theorem un_mul (k : Nat) (a b c : Int) : un ((k : Int) * a) ((k : Int) * b) ((k : Int) * c) = un a b c ^ k := by
  have h := ov_mul k (-a) (-b) (-c)
  rw [Int.mul_neg, Int.mul_neg, Int.mul_neg] at h
  exact h
theorem pow_le_iff {x y k : Nat} (hk : 0 < k) : x ^ k ≤ y ^ k ↔ x ≤ y := ⟨fun h => Nat.le_of_not_lt fun hlt => by
    have := Nat.pow_lt_pow_left hlt (show k ≠ 0 by omega)
    omega, fun h => Nat.pow_le_pow_left h k⟩
/-- 2^a 3^b 5^c is 1 at least. -/
theorem ge_mul {k : Nat} (hk : 0 < k) (a b c : Int) : un ((k : Int) * a) ((k : Int) * b) ((k : Int) * c) ≤ ov ((k : Int) * a) ((k : Int) * b) ((k : Int) * c) ↔ un a b c ≤ ov a b c := by
  rw [un_mul, ov_mul, pow_le_iff hk]
/-- How many octaves a tone spans. -/
def Tn.oct (t : Tn) : Int := flr (ov t.two t.three t.five) (un t.two t.three t.five) / t.den
def Tn.rest (t : Tn) : Option Tn := redT (t.two - t.oct * t.den) t.three t.five t.den
/-- A tone is from 1 to 2. -/
def Tn.In (t : Tn) : Prop := un t.two t.three t.five ≤ ov t.two t.three t.five ∧ ¬ un (t.two - t.den) t.three t.five ≤ ov (t.two - t.den) t.three t.five
theorem oct_in {t : Tn} (hd : 0 < t.den) (h : t.In) : t.oct = 0 := by
  have a := (le2_iff (ov_pos _ _ _) (un_pos _ _ _)).1 ((le2_move 0 t.two t.three t.five).2 (by rw [Int.sub_zero]; exact h.1))
  have b : flr (ov t.two t.three t.five) (un t.two t.three t.five) < t.den := Int.lt_of_not_ge fun hh => h.2 ((le2_move _ _ _ _).1 ((le2_iff (ov_pos _ _ _) (un_pos _ _ _)).2 hh))
  exact fdiv_eq hd (by omega) (by omega)
theorem rest_in {t u : Tn} (hd : 0 < t.den) (h : t.rest = some u) : u.In ∧ u.Ok := by
  obtain ⟨hok, hu⟩ := redT_ok h
  have hs := redV_spec (t.two - t.oct * t.den) t.three t.five t.den
  have hg := g4_pos (a := t.two - t.oct * t.den) (b := t.three) (c := t.five) hd
  rw [← hu] at hs
  obtain ⟨g, hge⟩ : ∃ g, g4 (t.two - t.oct * t.den) t.three t.five t.den = g := ⟨_, rfl⟩
  rw [hge] at hs hg
  have hb := ediv_bounds (flr (ov t.two t.three t.five) (un t.two t.three t.five)) hd
  have h1 := (le2_move _ _ _ _).1 ((le2_iff (ov_pos t.two t.three t.five) (un_pos t.two t.three t.five)).2 hb.1)
  have h2 : ¬ un (t.two - (t.oct + 1) * t.den) t.three t.five ≤ ov (t.two - (t.oct + 1) * t.den) t.three t.five := fun hh => by
    have := (le2_iff (ov_pos t.two t.three t.five) (un_pos t.two t.three t.five)).1 ((le2_move ((t.oct + 1) * t.den) t.two t.three t.five).2 hh)
    have h3 := hb.2
    unfold Tn.oct at this
    omega
  refine ⟨⟨?_, ?_⟩, hok⟩
  · have e : un (t.two - t.oct * t.den) t.three t.five ≤ ov (t.two - t.oct * t.den) t.three t.five := h1
    rw [hs.1, hs.2.1, hs.2.2.1, ge_mul hg] at e
    exact e
  · intro hh
    refine h2 ?_
    rw [← ge_mul hg] at hh
    have e : (g : Int) * (u.two - u.den) = t.two - (t.oct + 1) * t.den := by
      rw [Int.mul_sub, ← hs.1, ← hs.2.2.2, Int.add_mul, Int.one_mul]; omega
    rw [e, ← hs.2.1, ← hs.2.2.1] at hh
    exact hh
/-- The frequency of a tone over a base. -/
def Tn.freqN (base : Nat) (t : Tn) : Nat := root t.den.toNat (base ^ t.den.toNat * ov t.two t.three t.five / un t.two t.three t.five)
theorem freq_in {base : Nat} {t : Tn} (hd : 0 < t.den) (h : t.In) (hb : 0 < base) : base ≤ t.freqN base ∧ t.freqN base < 2 * base := by
  obtain ⟨d, hde⟩ : ∃ d : Nat, t.den = d := ⟨t.den.toNat, by omega⟩
  have hd0 : 0 < d := by omega
  unfold Tn.freqN
  rw [hde, Int.toNat_natCast]
  refine ⟨le_root hd0 ?_, root_lt hd0 ?_⟩
  · rw [Nat.le_div_iff_mul_le (un_pos _ _ _)]
    exact Nat.mul_le_mul_left _ h.1
  · rw [Nat.div_lt_iff_lt_mul (un_pos _ _ _), Nat.mul_pow]
    have h2 : ¬ le2 (d : Int) (ov t.two t.three t.five) (un t.two t.three t.five) := fun hh => h.2 (by rw [hde]; exact (le2_move _ _ _ _).1 hh)
    have h3 : ov t.two t.three t.five < un t.two t.three t.five * 2 ^ d := by
      have : ¬ un t.two t.three t.five * 2 ^ d ≤ ov t.two t.three t.five * 2 ^ 0 := fun hh => h2 ((le2_shift (by omega)).2 hh)
      rw [Nat.pow_zero, Nat.mul_one] at this
      omega
    have h4 := Nat.mul_lt_mul_of_pos_left h3 (show 0 < base ^ d from Nat.pow_pos hb)
    refine Nat.lt_of_lt_of_le h4 (Nat.le_of_eq ?_)
    ac_rfl
theorem freq_one (base : Nat) : Tn.freqN base ⟨0, 0, 0, 1⟩ = base := by
  show root 1 (base ^ 1 * 1 / 1) = base
  rw [root_one, Nat.pow_one, Nat.mul_one, Nat.div_one]
theorem redV_one {a b c d : Int} (h : 0 < g4 a b c d) : g4 (redV a b c d).two (redV a b c d).three (redV a b c d).five (redV a b c d).den = 1 := by
  have hs := redV_spec a b c d
  have e := g4_mul (g4 a b c d) (redV a b c d).two (redV a b c d).three (redV a b c d).five (redV a b c d).den
  rw [← hs.1, ← hs.2.1, ← hs.2.2.1, ← hs.2.2.2] at e
  have h2 : g4 a b c d * 1 = g4 a b c d * g4 (redV a b c d).two (redV a b c d).three (redV a b c d).five (redV a b c d).den := by rw [Nat.mul_one]; exact e
  exact (Nat.eq_of_mul_eq_mul_left h h2).symm
theorem qd_abs (a : Int) (g : Nat) : (qd a g).natAbs ≤ a.natAbs := by
  unfold qd
  have := Nat.div_le_self a.natAbs g
  split
  · rw [Int.natAbs_neg, Int.natAbs_natCast]; exact this
  · rw [Int.natAbs_natCast]; exact this
theorem redT_some {a b c d : Int} (ha : a.natAbs ≤ 960) (hb : b.natAbs ≤ 960) (hc : c.natAbs ≤ 960) (hd : 1 ≤ d) (hd2 : d ≤ 24) : redT a b c d = some (redV a b c d) ∧ (redV a b c d).Ok := by
  have hg : 0 < g4 a b c d := g4_pos (by omega)
  have hs := redV_spec a b c d
  have hok : (redV a b c d).Ok := {
    one := redV_one hg
    lo := by
      refine Int.le_of_not_gt fun h => ?_
      have h1 : (g4 a b c d : Int) * (redV a b c d).den ≤ 0 := Int.mul_nonpos_of_nonneg_of_nonpos (by omega) (by omega)
      rw [← hs.2.2.2] at h1
      omega
    hi := by
      have h1 := qd_abs d (g4 a b c d)
      have h2 : (redV a b c d).den = qd d (g4 a b c d) := rfl
      omega
    two := Nat.le_trans (qd_abs a _) ha
    three := Nat.le_trans (qd_abs b _) hb
    five := Nat.le_trans (qd_abs c _) hc }
  exact ⟨if_pos ((okB_iff _).2 hok), hok⟩
/-- A fifth that is s steps of a unit of the comma narrower than pure. -/
def fifT (s u : Int) : Tn := redV (-u + 19 * s) (u - 12 * s) 0 u
theorem fifT_ok {s u : Int} (h1 : -12 ≤ s) (h2 : s ≤ 12) (h3 : 1 ≤ u) (h4 : u ≤ 24) : redT (-u + 19 * s) (u - 12 * s) 0 u = some (fifT s u) ∧ (fifT s u).Ok :=
  redT_some (by omega) (by omega) (by omega) h3 h4
/-- The comma to the power s/u. -/
def comT (s u : Int) : Tn := redV (-19 * s) (12 * s) 0 u
theorem comT_ok {s u : Int} (h1 : -12 ≤ s) (h2 : s ≤ 12) (h3 : 1 ≤ u) (h4 : u ≤ 24) : redT (-19 * s) (12 * s) 0 u = some (comT s u) ∧ (comT s u).Ok :=
  redT_some (by omega) (by omega) (by omega) h3 h4
theorem comT_scale {s u n : Int} {g k : Nat} (hg : 0 < g) (hs : (g : Int) * n = s) (hu : g * k = u) : redT (-19 * n) (12 * n) 0 (k : Int) = redT (-19 * s) (12 * s) 0 u := by
  have h := redT_mul hg (-19 * n) (12 * n) 0 (k : Int)
  have e1 : (g : Int) * (-19 * n) = -19 * s := by rw [← hs]; exact Int.mul_left_comm _ _ _
  have e2 : (g : Int) * (12 * n) = 12 * s := by rw [← hs]; exact Int.mul_left_comm _ _ _
  rw [e1, e2, Int.mul_zero, hu] at h
  exact h.symm
theorem fif_of_com {s u : Int} (h3 : 1 ≤ u) : redT (-1 * (comT s u).den + (comT s u).two * (-1 * 1)) (1 * (comT s u).den + (comT s u).three * (-1 * 1)) (0 * (comT s u).den + (comT s u).five * (-1 * 1)) (1 * (comT s u).den) = redT (-u + 19 * s) (u - 12 * s) 0 u := by
  have hs := redV_spec (-19 * s) (12 * s) 0 u
  have hg : 0 < g4 (-19 * s) (12 * s) 0 u := g4_pos (by omega)
  obtain ⟨P, hP⟩ : ∃ P, redV (-19 * s) (12 * s) 0 u = P := ⟨_, rfl⟩
  obtain ⟨g, hge⟩ : ∃ g, g4 (-19 * s) (12 * s) 0 u = g := ⟨_, rfl⟩
  unfold comT
  rw [hP, hge] at hs
  rw [hP]
  rw [hge] at hg
  rw [← redT_mul hg]
  have e1 : (g : Int) * (-1 * P.den + P.two * (-1 * 1)) = -u + 19 * s := by
    rw [Int.mul_add, Int.mul_left_comm, ← hs.2.2.2, ← Int.mul_assoc (g : Int) P.two, ← hs.1]; omega
  have e2 : (g : Int) * (1 * P.den + P.three * (-1 * 1)) = u - 12 * s := by
    rw [Int.mul_add, Int.mul_left_comm, ← hs.2.2.2, ← Int.mul_assoc (g : Int) P.three, ← hs.2.1]; omega
  have e3 : (g : Int) * (0 * P.den + P.five * (-1 * 1)) = 0 := by
    rw [Int.mul_add, Int.mul_left_comm, ← hs.2.2.2, ← Int.mul_assoc (g : Int) P.five, ← hs.2.2.1]; omega
  have e4 : (g : Int) * (1 * P.den) = u := by
    rw [Int.one_mul, ← hs.2.2.2]
  rw [e1, e2, e3, e4]
end
end
end Go.Proofs.YtndcijkgaadpgaaGreatDoor
