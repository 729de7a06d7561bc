/-
  Parts of the law TopInstrument: tempers, the scale, the strings; the arguments opened.
-/
import Derived.Test.YtojbldoekalbnaaGreatDoorWSa
import Derived.Test.YtojbldoekalbnaaGreatDoorIu
import Derived.Test.YtojbldoekalbnaaGreatDoorIp
import Derived.Test.YtojbldoekalbnaaGreatDoorTClo
import Derived.Test.YtojbldoekalbnaaGreatDoorIA
import Derived.Deep.Fields
import Derived.Deep.Slices
import Derived.Lib.SmallJoins
import Derived.ProofKit
namespace Go.Proofs.YtojbldoekalbnaaGreatDoor
section
theorem redT_two {k : Nat} (hk : 0 < k) {a b c d a' b' c' d' : Int} (h1 : (k : Int) * a = a') (h2 : (k : Int) * b = b') (h3 : (k : Int) * c = c') (h4 : (k : Int) * d = d') : redT a b c d = redT a' b' c' d' := by
  rw [← h1, ← h2, ← h3, ← h4, redT_mul hk]
theorem cm12 (g h a c : Int) (a2 c2 e f : Int) (ha : a = g * a2) (hc : c = h * c2) (he : 12 = g * e) (hf : 12 = h * f) : (g * h) * (a2 * f + c2 * (1 * e)) = 12 * (a + c) := by
  have e1 : (g * h) * (a2 * f + c2 * (1 * e)) = (g * a2) * (h * f) + (h * c2) * (g * e) := by
    rw [Int.one_mul, Int.mul_add]
    congr 1
    · rw [Int.mul_assoc, Int.mul_left_comm h a2 f, ← Int.mul_assoc]
    · rw [Int.mul_comm g h, Int.mul_assoc, Int.mul_left_comm g c2 e, ← Int.mul_assoc]
  rw [e1, ← ha, ← hc, ← he, ← hf]
  omega
theorem join12 (a b c d : Int) : joinT (redV a b 0 12) (redV c d 0 12) 1 = redT (a + c) (b + d) 0 12 := by
  obtain ⟨x1, x2, x3, x4⟩ := redV_spec a b 0 12
  obtain ⟨y1, y2, y3, y4⟩ := redV_spec c d 0 12
  have hg : 0 < g4 a b 0 12 := g4_pos (by omega)
  have hh : 0 < g4 c d 0 12 := g4_pos (by omega)
  unfold joinT
  rw [redT_two (k := g4 a b 0 12 * g4 c d 0 12) (Nat.mul_pos hg hh) (a' := 12 * (a + c)) (b' := 12 * (b + d)) (c' := 12 * 0) (d' := 12 * 12)]
  · exact redT_mul (k := 12) (by omega) (a + c) (b + d) 0 12
  · rw [Int.natCast_mul]; exact cm12 _ _ _ _ _ _ _ _ x1 y1 x4 y4
  · rw [Int.natCast_mul]; exact cm12 _ _ _ _ _ _ _ _ x2 y2 x4 y4
  · rw [Int.natCast_mul]; exact cm12 _ _ _ _ _ _ _ _ x3 y3 x4 y4
  · rw [Int.natCast_mul, Int.mul_comm (g4 a b 0 12 : Int), Int.mul_assoc, ← Int.mul_assoc (g4 a b 0 12 : Int), ← x4, Int.mul_left_comm, ← y4]
theorem rest12 (a b : Int) : (redV a b 0 12).rest = redT (a - (redV a b 0 12).oct * 12) b 0 12 := by
  obtain ⟨x1, x2, x3, x4⟩ := redV_spec a b 0 12
  have hg : 0 < g4 a b 0 12 := g4_pos (by omega)
  unfold Tn.rest
  refine redT_two hg ?_ x2.symm x3.symm x4.symm
  rw [Int.mul_sub, ← x1, Int.mul_left_comm, ← x4]
theorem pow34 (n : Nat) : 3 ^ n ≤ 4 ^ n := Nat.pow_le_pow_left (by omega) n
theorem four_two (n : Nat) : 4 ^ n = 2 ^ (2 * n) := by rw [Nat.pow_mul]
/-- A tone from 1 to 2 has as few factors 2 as its factors 3 allow. -/
theorem in_bd {a b : Int} {d : Nat} (h1 : un a b 0 ≤ ov a b 0) (h2 : ¬ un (a - d) b 0 ≤ ov (a - d) b 0) : a.natAbs ≤ 2 * b.natAbs + d := by
  unfold un ov at h1 h2
  simp only [Int.neg_zero, Int.toNat_zero, Nat.pow_zero, Nat.mul_one] at h1 h2
  rcases Int.lt_or_le b 0 with hb | hb
  · obtain ⟨n, rfl⟩ : ∃ n : Nat, b = -(n : Int) := ⟨b.natAbs, by omega⟩
    rw [show (-(n : Int)).toNat = 0 from by omega, show (- -(n : Int)).toNat = n from by omega, Nat.pow_zero, Nat.mul_one] at h1 h2
    have hA : 0 ≤ a := by
      refine Int.le_of_not_gt fun hn => ?_
      rw [show a.toNat = 0 from by omega, Nat.pow_zero] at h1
      have p1 : 2 ≤ 2 ^ (-a).toNat := Nat.le_trans (by decide) (Nat.pow_le_pow_right (by omega) (show 1 ≤ (-a).toNat by omega))
      have p2 : 0 < 3 ^ n := Nat.pow_pos (by omega)
      have := Nat.mul_le_mul p1 p2
      omega
    have hB : a ≤ 2 * n + d := by
      refine Int.le_of_not_gt fun hn => h2 ?_
      rw [show (-(a - (d : Int))).toNat = 0 from by omega, Nat.pow_zero, Nat.one_mul]
      refine Nat.le_trans (pow34 n) ?_
      rw [four_two]
      exact Nat.pow_le_pow_right (by omega) (by omega)
    omega
  · obtain ⟨n, rfl⟩ : ∃ n : Nat, b = (n : Int) := ⟨b.toNat, by omega⟩
    rw [show ((n : Int)).toNat = n from by omega, show (-(n : Int)).toNat = 0 from by omega, Nat.pow_zero, Nat.mul_one] at h1 h2
    have hA : a < d := by
      refine Int.lt_of_not_ge fun hn => h2 ?_
      rw [show (-(a - (d : Int))).toNat = 0 from by omega, Nat.pow_zero]
      exact Nat.mul_pos (Nat.pow_pos (by omega)) (Nat.pow_pos (by omega))
    have hB : -(2 * (n : Int)) ≤ a := by
      refine Int.le_of_not_gt fun hn => ?_
      rw [show a.toNat = 0 from by omega, Nat.pow_zero, Nat.one_mul] at h1
      have p1 : 2 ^ (2 * n + 1) ≤ 2 ^ (-a).toNat := Nat.pow_le_pow_right (by omega) (by omega)
      have p2 := pow34 n
      rw [four_two] at p2
      rw [Nat.pow_succ] at p1
      have p3 : 0 < 2 ^ (2 * n) := Nat.pow_pos (by omega)
      omega
    omega
theorem rest_raw {t : Tn} (hd : 0 < t.den) : un (t.two - t.oct * t.den) t.three t.five ≤ ov (t.two - t.oct * t.den) t.three t.five ∧ ¬ un (t.two - (t.oct + 1) * t.den) t.three t.five ≤ ov (t.two - (t.oct + 1) * t.den) t.three t.five := by
  have hb := ediv_bounds (flr (ov t.two t.three t.five) (un t.two t.three t.five)) hd
  refine ⟨(le2_move _ _ _ _).1 ((le2_iff (ov_pos t.two t.three t.five) (un_pos t.two t.three t.five)).2 hb.1), fun hh => ?_⟩
  have := (le2_iff (ov_pos t.two t.three t.five) (un_pos t.two t.three t.five)).1 ((le2_move ((t.oct + 1) * t.den) t.two t.three t.five).2 hh)
  have h3 := hb.2
  unfold Tn.oct at this
  omega
structure J12 (k : Nat) (x : Tn) : Prop where
  ex : ∃ a b : Int, x = redV a b 0 12 ∧ a.natAbs ≤ 2 * b.natAbs + 12 ∧ b.natAbs ≤ 36 * k
theorem J12.zero : J12 0 tn0 := ⟨0, 0, by unfold redV tn0; simp [g4, qd], by decide, by decide⟩
theorem J12.step {k : Nat} {x : Tn} (h : J12 k x) (hk : k < 9) {s : Int} (h1 : -2 ≤ s) (h2 : s ≤ 2) : ∃ y, stepT x s 12 = some y ∧ J12 (k + 1) y := by
  obtain ⟨a, b, rfl, ha, hb⟩ := h.ex
  unfold stepT fifT
  rw [join12]
  obtain ⟨e1, o1⟩ := redT_some (a := a + (-12 + 19 * s)) (b := b + (12 - 12 * s)) (c := 0) (d := 12) (by omega) (by omega) (by omega) (by omega) (by omega)
  rw [e1]
  dsimp only
  obtain ⟨A, hA⟩ : ∃ A, a + (-12 + 19 * s) = A := ⟨_, rfl⟩
  obtain ⟨B, hB⟩ : ∃ B, b + (12 - 12 * s) = B := ⟨_, rfl⟩
  rw [hA, hB] at o1 ⊢
  have hb2 := oct_bd o1
  rw [rest12]
  obtain ⟨C, hC⟩ : ∃ C, A - (redV A B 0 12).oct * 12 = C := ⟨_, rfl⟩
  rw [hC]
  -- the octaves taken away, the tone is from 1 to 2
  have hin : un C B 0 ≤ ov C B 0 ∧ ¬ un (C - (12 : Nat)) B 0 ≤ ov (C - (12 : Nat)) B 0 := by
    obtain ⟨g1, g2⟩ := rest_raw (t := redV A B 0 12) (by have := o1.lo; omega)
    obtain ⟨x1, x2, x3, x4⟩ := redV_spec A B 0 12
    have hg : 0 < g4 A B 0 12 := g4_pos (by omega)
    rw [← ge_mul hg, ← x2, ← x3] at g1 g2
    have c1 : (g4 A B 0 12 : Int) * ((redV A B 0 12).two - (redV A B 0 12).oct * (redV A B 0 12).den) = C := by
      rw [Int.mul_sub, ← x1, Int.mul_left_comm, ← x4]; exact hC
    have c2 : (g4 A B 0 12 : Int) * ((redV A B 0 12).two - ((redV A B 0 12).oct + 1) * (redV A B 0 12).den) = C - (12 : Nat) := by
      rw [Int.mul_sub, ← x1, Int.mul_left_comm, ← x4]; omega
    rw [c1] at g1
    rw [c2] at g2
    exact ⟨g1, g2⟩
  have hcb := in_bd hin.1 hin.2
  obtain ⟨e2, o2⟩ := redT_some (a := C) (b := B) (c := 0) (d := 12) (by omega) (by omega) (by omega) (by omega) (by omega)
  exact ⟨_, e2, C, B, rfl, hcb, by omega⟩
theorem tones12 : ∀ (l : List Int) (k : Nat) (x : Tn), J12 k x → k + l.length ≤ 9 → (∀ s ∈ l, -2 ≤ s ∧ s ≤ 2) → ∃ L, tonesF 12 x l = some L
  | [], _, _, _, _, _ => ⟨[], rfl⟩
  | s :: l, k, x, h, hk, hl => by
    rw [List.length_cons] at hk
    obtain ⟨y, hy, hj⟩ := h.step (by omega) (hl s (by simp)).1 (hl s (by simp)).2
    obtain ⟨L, hL⟩ := tones12 l (k + 1) y hj (by omega) (fun s hs => hl s (by simp [hs]))
    unfold tonesF
    rw [hy]
    dsimp only
    rw [hL]
    exact ⟨_, rfl⟩
end
section
section
open Go.RowKit
theorem lit12 (W : World) (v : Int) (b : Nat) (hb : b = W.heap.size) : SlE intE 1 (W.alloc (.cells #[.int .i64 v, .int .i64 v, .int .i64 v, .int .i64 v, .int .i64 v, .int .i64 v, .int .i64 v, .int .i64 v, .int .i64 v, .int .i64 v, .int .i64 v, .int .i64 v] 3)) (some ⟨b, 0, none⟩) 12 [v, v, v, v, v, v, v, v, v, v, v, v] := by
  subst hb
  refine ⟨rfl, ?_⟩
  have h := Sl.new W #[.int .i64 v, .int .i64 v, .int .i64 v, .int .i64 v, .int .i64 v, .int .i64 v, .int .i64 v, .int .i64 v, .int .i64 v, .int .i64 v, .int .i64 v, .int .i64 v] 3 1 12 rfl
  exact h
set_option maxRecDepth 16000 in
set_option maxHeartbeats 4000000 in
theorem tempers_any (w : World) : Calls Tryz.prog 5 #[] w fun e w' => e = .returned (.bool true) ∧ Below w.heap.size w w' := by
  refine calls_cps ?_
  intro R hR
  have H1 := Lib.hid (fun W b hb => closes_any (some ⟨b, 0, none⟩) 12 12 [1, 1, 1, 1, 1, 1, 1, 1, 1, 1, 1, 1] 12 _ (lit12 W 1 b hb) (by omega))
  have H0 := Lib.hid (fun W b hb => closes_any (some ⟨b, 0, none⟩) 12 12 [0, 0, 0, 0, 0, 0, 0, 0, 0, 0, 0, 0] 12 _ (lit12 W 0 b hb) (by omega))
  rw [if_pos (show rightB [1, 1, 1, 1, 1, 1, 1, 1, 1, 1, 1, 1] 12 = true by decide), show closesB [1, 1, 1, 1, 1, 1, 1, 1, 1, 1, 1, 1] 12 = true by decide] at H1
  rw [if_pos (show rightB [0, 0, 0, 0, 0, 0, 0, 0, 0, 0, 0, 0] 12 = true by decide), show closesB [0, 0, 0, 0, 0, 0, 0, 0, 0, 0, 0, 0] 12 = false by decide] at H0
  have Hf := Lib.hid (fun W hb => hR.out (.returned (.bool true)) W ⟨rfl, hb⟩)
  clear hR
  go_enter Tryz.func5, Tryz.ntmps5
  go_wp2_with (first | ((with_reducible refine (H1.out _ _ (by simp)).mono ?_); rintro e w1 ⟨rfl, rfl⟩) | ((with_reducible refine (H0.out _ _ (by simp)).mono ?_); rintro e w1 ⟨rfl, rfl⟩))
  exact Hf.out _ ((below_new w _).alloc (by simp) _)
theorem and_mask (x : Int) : (0 ≤ bits .and .i64 x 262143 ∧ bits .and .i64 x 262143 ≤ 262143) ∧ (0 ≤ bits .and .i64 x 255 ∧ bits .and .i64 x 255 ≤ 255) := by
  have h : ∀ m : Nat, m ≤ 262143 → 0 ≤ bits .and .i64 x (m : Int) ∧ bits .and .i64 x (m : Int) ≤ (m : Int) := by
    intro m hm
    have e : bits .and .i64 x (m : Int) = IntKind.i64.wrap ((BitVec.ofInt 64 x &&& BitVec.ofInt 64 (m : Int)).toNat : Int) := rfl
    have h1 : (BitVec.ofInt 64 x &&& BitVec.ofInt 64 (m : Int)).toNat ≤ m := by
      rw [BitVec.toNat_and]
      refine Nat.le_trans Nat.and_le_right ?_
      rw [BitVec.toNat_ofInt]
      omega
    rw [e, IntWalk.i64_in _ (by omega)]
    omega
  exact ⟨h 262143 (by omega), h 255 (by omega)⟩
theorem tmod3 (v : Int) : -2 ≤ Int.tmod v 3 ∧ Int.tmod v 3 ≤ 2 := by
  have h1 := Int.tmod_lt_of_pos v (show (0 : Int) < 3 by omega)
  have h2 := Int.lt_tmod_of_pos v (show (0 : Int) < 3 by omega)
  omega
theorem SlE.takeW {α : Type} {enc : α → List Value} {sz : Nat} (hsz : ∀ x, (enc x).length = sz) {w : World} {A : Option Addr} {n k : Nat} {l : List α} (h : SlE enc sz w A n l) (hk : k ≤ n) : SlE enc sz w A k (l.take k) := by
  have hlen : ∀ l : List α, (l.flatMap enc).length = l.length * sz := by
    intro l
    induction l with
    | nil => simp
    | cons a l ih => rw [List.flatMap_cons, List.length_append, hsz, ih, List.length_cons, Nat.succ_mul, Nat.add_comm]
  have hn := h.1
  refine ⟨by rw [List.length_take]; omega, by rw [hlen, List.length_take]; congr 1; omega, fun hk0 => ?_⟩
  obtain ⟨b, o, hA, hb, hc⟩ := h.2.2 (by omega)
  refine ⟨b, o, hA, hb, fun j u hu => hc j u ?_⟩
  have hj := (List.getElem?_eq_some_iff.1 hu).1
  have e : l.flatMap enc = (l.take k).flatMap enc ++ (l.drop k).flatMap enc := by rw [← List.flatMap_append, List.take_append_drop]
  rw [e, List.getElem?_append_left hj]
  exact hu
theorem SlM.takeW {w : World} {A : Option Addr} {n k : Nat} {L : List Mtl} (h : SlM w A n L) (hk : k ≤ n) : SlM w A k (L.take k) := by
  have hn := h.1
  refine ⟨by rw [List.length_take]; omega, fun hk0 => ?_⟩
  obtain ⟨b, o, hA, hb, hc⟩ := h.2 (by omega)
  refine ⟨b, o, hA, hb, fun i r hr => hc i r ?_⟩
  rw [List.getElem?_take] at hr
  split at hr
  · exact hr
  · cases hr
end
end
section
section
open Go.RowKit
theorem big_of_ln {r : Nat} (h : 2 < ln r) : 100000 < r := by
  refine Nat.lt_of_not_ge fun h2 => ?_
  have h3 : ln r ≤ 2 := (ln_le_iff 2 r).2 (Nat.lt_of_le_of_lt h2 (by rw [show pw 2 = 18446744073709551616 from rfl]; decide))
  omega
set_option maxRecDepth 8000 in
set_option maxHeartbeats 2000000 in
theorem longest_det (d s l f y : Int) (hd : 1 ≤ d ∧ d ≤ 30000) (hs : 1 ≤ s ∧ s ≤ 100000) (hl : 1 ≤ l ∧ l ≤ 100000) (hf : 1 ≤ f ∧ f ≤ 10000000) (hy : 1 ≤ y ∧ y ≤ 100) (hh : holdsB d s l f y = true) :
    ∃ m : Int, l ≤ m ∧ m ≤ 100000 ∧ ∀ w, Calls Tryz.prog 11 #[.int .i64 d, .int .i64 s, .int .i64 f, .int .i64 y] w fun e w' => e = .returned (.tuple #[.int .i64 m, .int .i64 0]) ∧ Below w.heap.size w w' := by
  obtain ⟨m0, m9⟩ := longest_math hd.1 hl.1 hf.1 hh
  obtain ⟨r0, hr0⟩ : ∃ r0, root 2 (10 ^ 20 * prodN [y, s] / (10 ^ 0 * prodN [400, d, f, f])) = r0 := ⟨_, rfl⟩
  have m8 := m9
  rw [hr0] at m8
  obtain ⟨mv, hmv⟩ : ∃ mv : Int, mv = if 100000 < r0 then 100000 else (r0 : Int) := ⟨_, rfl⟩
  have hl7 := hl
  refine ⟨mv, by rw [hmv]; split <;> omega, by rw [hmv]; split <;> omega, fun w => ?_⟩
  refine calls_cps ?_
  intro R hR
  have HR := Lib.hid (show ∀ m : Int, m = mv → ∀ W, Below w.heap.size w W → R (.returned (.tuple #[.int .i64 m, .int .i64 0])) W from fun m g1 W g => hR.out _ _ ⟨by rw [g1], g⟩)
  have h8 : ∀ x ∈ [400, d, f, f], 0 ≤ x ∧ x < 4294967296 := by
    intro x hx; simp only [List.mem_cons, List.not_mem_nil, or_false] at hx; omega
  have h1 : ∀ x ∈ [y, s], 0 ≤ x ∧ x < 4294967296 := by intro x hx; simp only [List.mem_cons, List.not_mem_nil, or_false] at hx; omega
  have H1 := Lib.hid (fun W => inW_ok hd.1 hd.2 W)
  have H2 := Lib.hid (fun W => inW_ok hs.1 hs.2 W)
  have H3 := Lib.hid (fun W => inW_ok hf.1 hf.2 W)
  have H4 := Lib.hid (fun W => inW_ok hy.1 hy.2 W)
  have Hp := Lib.hid (fun W b t (hb : b = W.heap.size) => prod_new 0 [400, d, f, f] W #[.int .i64 400, .int .i64 d, .int .i64 f, .int .i64 f] b t rfl hb (by omega) (by simp) h8 4 rfl 4 0 rfl)
  have Hp2 := Lib.hid (fun W b t (hb : b = W.heap.size) => prod_new 20 [y, s] W #[.int .i64 y, .int .i64 s] b t rfl hb (by omega) (by simp) h1 2 rfl 2 20 rfl)
  have l1 := ln_prod 0 [400, d, f, f] (by omega) (by simp) h8
  have l2 := ln_prod 20 [y, s] (by omega) (by simp) h1
  obtain ⟨m1, m2⟩ := longest_math hd.1 hl.1 hf.1 hh
  obtain ⟨Y, hY⟩ : ∃ Y, 10 ^ 0 * prodN [400, d, f, f] = Y := ⟨_, rfl⟩
  obtain ⟨X, hX⟩ : ∃ X, 10 ^ 20 * prodN [y, s] = X := ⟨_, rfl⟩
  rw [hY] at Hp l1 m1 m2
  rw [hX] at Hp2 l2 m2
  have Hd := Lib.hid (fun V V2 W h h2 => divmod_num V V2 X Y W h h2 (by omega) (by omega) m1)
  have l3 := ln_div_le X Y
  obtain ⟨q, hq⟩ : ∃ q, X / Y = q := ⟨_, rfl⟩
  rw [hq] at Hd l3 m2
  have Hr := Lib.hid (fun V W h => root_int V q 2 2 W h rfl (by omega) (by decide) (by decide))
  have l4 := ln_root_le q
  obtain ⟨r, hr⟩ : ∃ r, root 2 q = r := ⟨_, rfl⟩
  have hrr : r = r0 := by rw [← hr0, ← hr, ← hq, ← hX, ← hY]
  subst hrr
  have Hmv := Lib.hid hmv
  rw [hr] at Hr l4 m2
  have Hbig := Lib.hid (fun V W h (h2 : 2 < ln r) => uint64_big V r W h (by omega) h2)
  have Hsm := Lib.hid (fun V W h (h2 : ln r ≤ 2) => uint64_small V r W h h2)
  have hl2 := hl.2
  have hl1 := hl.1
  clear hR h8 h1 hd hs hl hf hy hX hY hq hr m1 l1 l2 l3 hh m0 m9 hr0 hmv hl7
  go_enter Tryz.func11, Tryz.ntmps11
  go_upto_region 5 with (first
    | ((with_reducible refine (H1.out _).mono ?_); rintro e w1 ⟨rfl, rfl⟩)
    | ((with_reducible refine (H2.out _).mono ?_); rintro e w1 ⟨rfl, rfl⟩)
    | ((with_reducible refine (H3.out _).mono ?_); rintro e w1 ⟨rfl, rfl⟩)
    | ((with_reducible refine (H4.out _).mono ?_); rintro e w1 ⟨rfl, rfl⟩)
    | ((with_reducible refine (Hp2.out w _ _ rfl).mono ?_); rintro e w1 ⟨V1, rfl, hV1, hb1⟩; have HV1 := Lib.hid hV1; have Hb1 := Lib.hid ((below_new w _).trans (hb1.mono (by simp))); clear hV1 hb1)
    | ((with_reducible refine (Hp.out w1 _ _ rfl).mono ?_); rintro e w2 ⟨V2, rfl, hV2, hb2⟩; have HV2 := Lib.hid hV2; have Hb2 := Lib.hid ((below_new w1 _).trans (hb2.mono (by simp))); clear hV2 hb2)
    | ((with_reducible refine (Hd.out V1 V2 _ (HV1.out.below Hb2.out) HV2.out).mono ?_); rintro e w3 ⟨V3, V4, rfl, hV3, hV4, hb3⟩; have HV3 := Lib.hid hV3; have Hb3 := Lib.hid hb3; clear hb3 hV3 hV4)
    | ((with_reducible refine (Hr.out V3 _ HV3.out).mono ?_); rintro e w4 ⟨V5, rfl, hV5, hb4⟩; have HV5 := Lib.hid hV5; have Hb4 := Lib.hid hb4; clear hb4 hV5))
  have Hb := Lib.hid (((Hb1.out.trans (Hb2.out.mono Hb1.out.size)).trans (Hb3.out.mono (Nat.le_trans Hb1.out.size Hb2.out.size))).trans (Hb4.out.mono (Nat.le_trans Hb1.out.size (Nat.le_trans Hb2.out.size Hb3.out.size))))
  clear H1 H2 H3 H4 Hp Hp2 Hd Hr HV1 HV2 HV3 Hb1 Hb2 Hb3 Hb4
  rcases Nat.lt_or_ge 2 (ln r) with h2 | h2
  · go_wp2_with ((with_reducible refine (Hbig.out V5 _ HV5.out h2).mono ?_); rintro e w5 ⟨rfl, hb5⟩; have Hb5 := Lib.hid (Hb.out.trans (hb5.mono Hb.out.size)); clear hb5)
    exact HR.out 100000 (by rw [Hmv.out, if_pos (big_of_ln h2)]) _ Hb5.out
  · have hr64 : r < 18446744073709551616 := by
      have h := lt_pw_ln r
      have h3 : pw (ln r) ≤ pw 2 := pw_le h2
      rw [show pw 2 = 18446744073709551616 from rfl] at h3
      omega
    rcases Nat.lt_or_ge 100000 r with h3 | h3
    · have t1 : (100000 : Int) < (r : Int) := by omega
      go_wp2_with ((with_reducible refine (Hsm.out V5 _ HV5.out h2).mono ?_); rintro e w5 ⟨rfl, hb5⟩; have Hb5 := Lib.hid (Hb.out.trans (hb5.mono Hb.out.size)); clear hb5)
      exact HR.out 100000 (by rw [Hmv.out, if_pos h3]) _ Hb5.out
    · have t1 : (r : Int) ≤ 100000 := by omega
      have t2 : (r : Int) ≠ 0 := by omega
      have e1 : (r : Int) % 18446744073709551616 = (r : Int) := by omega
      go_wp2_with ((with_reducible refine (Hsm.out V5 _ HV5.out h2).mono ?_); rintro e w5 ⟨rfl, hb5⟩; have Hb5 := Lib.hid (Hb.out.trans (hb5.mono Hb.out.size)); clear hb5)
      exact HR.out _ (by rw [Hmv.out, if_neg (by omega)]) _ Hb5.out
end
end
section
section
open Go.RowKit
theorem own_loW {W : World} {base e sz n c : Nat} {A : Option Addr} {xs : List Value} (h : W.ownsRow base e sz (.slice A n c) n xs) : n ≤ c ∧ c ≤ 9223372036854775807 := by
  rcases h.2 with ⟨h1, h2⟩ | ⟨g, cap, cur, h1, h2, _, h4, h5, _⟩
  · simp only [Value.slice.injEq] at h1
    obtain ⟨rfl, rfl, rfl⟩ := h1
    omega
  · simp only [Value.slice.injEq] at h1
    obtain ⟨_, _, rfl⟩ := h1
    unfold maxLen at h5
    omega
/-- The steps of the law: at most eight, each from -2 to 2, and one more. -/
def stL (steps : List Int) (i : Nat) : List Int := (steps.take i).map fun v => Int.tmod v 3
theorem stL_snoc {steps : List Int} {i : Nat} {v : Int} (h : steps[i]? = some v) : (stL steps i).flatMap intE ++ [.int .i64 (Int.tmod v 3)] = (stL steps (i + 1)).flatMap intE := by
  unfold stL
  rw [List.take_add_one, h, List.map_append, List.flatMap_append]
  rfl
theorem stL_len {steps : List Int} {i : Nat} (h : i ≤ steps.length) : (stL steps i).length = i := by
  unfold stL
  rw [List.length_map, List.length_take]; omega
theorem stL_rng {steps : List Int} {i : Nat} : ∀ s ∈ stL steps i, -2 ≤ s ∧ s ≤ 2 := by
  intro s hs
  obtain ⟨v, -, rfl⟩ := List.mem_map.1 hs
  exact tmod3 v
theorem sortL_len (l : List Nat) : (sortL l).length = l.length := by
  unfold sortL
  exact (List.mergeSort_perm l _).length_eq
/-- The scale of these steps is always there. -/
theorem scale_there {steps : List Int} {i nb : Nat} (hi : i ≤ steps.length) (h8 : i ≤ 8) (h0 : 0 < nb) (h1 : nb < 1152921504606846976) :
    rightB (stL steps i ++ [1]) 12 = true ∧ ∃ M, toldO (scaleF nb) nb (stL steps i ++ [1]) 12 = .ok M ∧ M.length = i + 1 := by
  have hlen := stL_len hi
  refine ⟨?_, ?_⟩
  · unfold rightB
    rw [Bool.and_eq_true, Bool.and_eq_true]
    refine ⟨List.all_eq_true.2 fun s hs => ?_, ?_, by decide⟩
    · rcases List.mem_append.1 hs with h | h
      · have := stL_rng s h
        exact inB_iffW.2 (by omega)
      · rw [List.mem_singleton] at h
        subst h
        exact inB_iffW.2 (by omega)
    · rw [List.length_append, hlen, List.length_singleton]
      exact inB_iffW.2 (by omega)
  · obtain ⟨L, hL⟩ := tones12 (stL steps i) 0 tn0 J12.zero (by omega) stL_rng
    refine ⟨sortL ((tn0 :: L).map (fqV nb)), ?_, ?_⟩
    · unfold toldO
      rw [List.dropLast_concat, hL]
      dsimp only
      rw [if_neg (by omega)]
      rfl
    · have h := tonesF_len hL
      rw [sortL_len, List.length_map, List.length_cons, h, hlen]
theorem scale_law {steps : List Int} {i nb : Nat} (hi : i ≤ steps.length) (h8 : i ≤ 8) (h0 : 0 < nb) (h1 : nb < 1152921504606846976) (A : Option Addr) (c : Nat) (w : World) {base : Nat} (ho : w.ownsRow base 3 1 (.slice A (i + 1) c) (i + 1) ((stL steps i).flatMap intE ++ [.int .i64 1])) :
    Calls Tryz.prog 4 #[.int .u64 (nb : Nat), .slice A (i + 1) c, .int .i64 12] w fun e w' => ∃ (M : List Nat) (LA : Option Addr) (lc : Nat), e = .returned (.tuple #[.slice LA (i + 1) lc, .int .i64 0]) ∧ SlE u64E 1 w' LA (i + 1) M ∧ Below w.heap.size w w' := by
  obtain ⟨ho5, ho6⟩ := own_loW ho
  have hss := SlE.of_own (enc := intE) (l := stL steps i ++ [1]) (by rw [List.flatMap_append]; exact ho) (by rw [List.length_append, stL_len hi, List.length_singleton])
  obtain ⟨g1, M, g2, g3⟩ := scale_there hi h8 h0 h1
  refine (scale_any nb A (i + 1) c (stL steps i ++ [1]) 12 w hss ho5 ho6 (by omega)).mono ?_
  rintro e' w5 (⟨hf, -⟩ | ⟨-, hb5, hm⟩)
  · exact absurd (g1.symm.trans hf) (by simp)
  · rw [g2] at hm
    obtain ⟨LA, ln, lc, hl1, -, -, rfl, hl2⟩ := hm
    obtain rfl : ln = i + 1 := hl1.trans g3
    exact ⟨M, LA, lc, rfl, hl2, hb5⟩
theorem kx_cell {S : Nat → Prop} {W W' : World} {b o : Nat} (hk : Kx S W W') (hb : b < W.heap.size) (hs : ¬ S b) : W'.cell? ⟨b, o, none⟩ = W.cell? ⟨b, o, none⟩ := by
  have h := hk.block b hb hs
  unfold World.cell?
  simp only [h]
theorem SlE.kxW {α : Type} {enc : α → List Value} {sz : Nat} {S : Nat → Prop} {W W' : World} {A : Option Addr} {n : Nat} {l : List α} (h : SlE enc sz W A n l) (hk : Kx S W W') (hs : ∀ b o, A = some ⟨b, o, none⟩ → ¬ S b) : SlE enc sz W' A n l := by
  refine ⟨h.1, h.2.1, fun hn => ?_⟩
  obtain ⟨b, o, hA, hb, hc⟩ := h.2.2 hn
  exact ⟨b, o, hA, Nat.lt_of_lt_of_le hb hk.size, fun j u hu => (kx_cell hk hb (hs b o hA)).trans (hc j u hu)⟩
/-- The scaling's box holds no frequency. -/
theorem box_ne {W : World} {b o bx : Nat} {A B G : Option Addr} {n c m d k e : Nat} {sf ch v : Int} {t : TypeId} (h : W.heap[bx]? = some (.cells #[.slice A n c, .slice B m d, .slice G k e, .int .i64 sf, .int .i64 ch] t (0, 0))) (hc : W.cell? ⟨b, o, none⟩ = some (.int .u64 v)) : b ≠ bx := by
  rintro rfl
  rw [cell_of_row _ _ o _ _ (0, 0) h] at hc
  match o, hc with
  | 0, hc => simp at hc
  | 1, hc => simp at hc
  | 2, hc => simp at hc
  | 3, hc => simp at hc
  | 4, hc => simp at hc
  | (o + 5), hc => simp at hc
theorem frq_kx {W W' : World} {bx : Nat} {A B G : Option Addr} {n c m d k e : Nat} {sf ch : Int} {t : TypeId} {LA : Option Addr} {ln : Nat} {M : List Nat} (hM : SlE u64E 1 W LA ln M) (h : W.heap[bx]? = some (.cells #[.slice A n c, .slice B m d, .slice G k e, .int .i64 sf, .int .i64 ch] t (0, 0))) (hk : Kx (fun j => j = bx) W W') : SlE u64E 1 W' LA ln M := by
  rcases Nat.eq_zero_or_pos ln with h0 | h0
  · exact ⟨hM.1, hM.2.1, fun hn => by omega⟩
  · refine hM.kxW hk fun b o hA => ?_
    obtain ⟨b', o', v, e1, _, _, hc⟩ := hM.atU h0
    have e2 := e1.symm.trans hA
    injection e2 with e2
    injection e2 with e2 e3
    subst e2
    exact box_ne h hc
/-- A course at its tone. -/
def reF (M : List Nat) (co : List Crs) (i : Nat) : Crs := ⟨(co.getD i ⟨0, 0, 0, 0⟩).L, IntKind.i64.wrap (M.getD i 0 : Nat), (co.getD i ⟨0, 0, 0, 0⟩).T, (co.getD i ⟨0, 0, 0, 0⟩).W⟩
def reL (M : List Nat) (co : List Crs) (i : Nat) : List Crs := (List.range i).map (reF M co)
theorem elemCrs : ElemOk Tryz.prog 23 34 4 32 := ElemOk.of (z := .agg #[.int .i64 0, .int .i64 0, .int .i64 0, .int .i64 0]) Tryz.underlying23 (by kernel_rfl) rfl (by omega)
theorem reL_len (M : List Nat) (co : List Crs) (i : Nat) : (reL M co i).length = i := by unfold reL; simp
theorem reL_rng {M : List Nat} {co : List Crs} {i : Nat} (h : ∀ y ∈ co, InR y.T ∧ InR y.W) (hi : i ≤ co.length) : ∀ y ∈ reL M co i, InR y.T ∧ InR y.W := by
  intro y hy
  obtain ⟨j, hj, rfl⟩ := List.mem_map.1 hy
  have hj2 := List.mem_range.1 hj
  have e : co[j]? = some (co[j]'(by omega)) := List.getElem?_eq_getElem (by omega)
  have h1 := h _ (List.mem_of_getElem? e)
  unfold reF
  rw [List.getD_eq_getElem?_getD, e]
  exact h1
theorem reL_snoc (M : List Nat) (co : List Crs) (i : Nat) : (reL M co i).flatMap crsE ++ crsE (reF M co i) = (reL M co (i + 1)).flatMap crsE := by
  unfold reL
  rw [List.range_succ, List.map_append, List.flatMap_append]
  simp
/-- The picks that Best found. -/
def gL (g : Nat → Nat) (k n : Nat) : List (Nat × Nat) := (List.range n).map fun i => (g i / k, g i % k)
theorem gL_get {g : Nat → Nat} {k n i : Nat} (hi : i < n) : (gL g k n)[i]? = some (g i / k, g i % k) := by
  unfold gL
  rw [List.getElem?_map, List.getElem?_range hi]; rfl
theorem gL_getD {g : Nat → Nat} {k n i : Nat} (hi : i < n) : (gL g k n).getD i (0, 0) = (g i / k, g i % k) := by
  rw [List.getD_eq_getElem?_getD, gL_get hi]; rfl
theorem gL_rng {g : Nat → Nat} {m k n : Nat} (hk : 0 < k) (h : ∀ i, i < n → g i < m * k) : ∀ p ∈ gL g k n, p.1 < m ∧ p.2 < k := by
  intro p hp
  obtain ⟨i, hi, rfl⟩ := List.mem_map.1 hp
  have := h i (List.mem_range.1 hi)
  exact ⟨Nat.div_lt_of_lt_mul (by rw [Nat.mul_comm]; exact this), Nat.mod_lt _ hk⟩
/-- Best's three answers in one form. -/
theorem best_form {x : Sc} {m k : Nat} {e : Ending} {W : World} (h : BestO x m k e W) (hk : scB x = true → 0 < k) (hn : scB x = true → x.co.length ≤ 96) :
    ∃ (P : Option Addr) (np pc : Nat) (cost f : Int) (L : List (Nat × Nat)), e = .returned (.tuple #[.slice P np pc, .int .i64 cost, .int .i64 f]) ∧ SlE pkE 2 W P np L ∧ (∀ p ∈ L, p.1 < m ∧ p.2 < k) ∧ np ≤ 1000 ∧
      ((f = 1 ∧ np = 0 ∧ scB x = false) ∨ (f = 6 ∧ np = 0 ∧ scB x = true) ∨ (f = 0 ∧ np = x.co.length ∧ scB x = true ∧ ∃ g : Nat → Nat, L = gL g k x.co.length ∧ cost = sumL ((List.range x.co.length).map fun i => prN x k i (g i)) ∧ ∀ i, i < x.co.length → g i < m * k ∧ prN x k i (g i) ≠ -1)) := by
  rcases h with ⟨h1, rfl⟩ | ⟨h1, rfl⟩ | ⟨h1, g, A, c, rfl, h2, h3⟩
  · exact ⟨none, 0, 0, 0, 1, [], rfl, ⟨rfl, rfl, fun hn => by omega⟩, by simp, by omega, .inl ⟨rfl, rfl, h1⟩⟩
  · exact ⟨none, 0, 0, 0, 6, [], rfl, ⟨rfl, rfl, fun hn => by omega⟩, by simp, by omega, .inr (.inl ⟨rfl, rfl, h1⟩)⟩
  · exact ⟨A, _, c, _, 0, gL g k x.co.length, rfl, h2, gL_rng (hk h1) (fun i hi => (h3 i hi).1), by have := hn h1; omega, .inr (.inr ⟨rfl, rfl, h1, g, rfl, rfl, h3⟩)⟩
theorem pull_form (x : Sc) (L : List (Nat × Nat)) (np n : Nat) :
    ∃ pl : Int, (if fitC (scB x) np n = 0 then Value.tuple #[.int .i64 (sumL ((List.range np).map fun i => tgP x i (L.getD i (0, 0)))), .int .i64 0] else .tuple #[.int .i64 0, .int .i64 (fitC (scB x) np n)]) = .tuple #[.int .i64 pl, .int .i64 (fitC (scB x) np n)] ∧ (fitC (scB x) np n = 0 → pl = sumL ((List.range np).map fun i => tgP x i (L.getD i (0, 0)))) := by
  by_cases h : fitC (scB x) np n = 0
  · rw [if_pos h, h]
    exact ⟨_, rfl, fun _ => rfl⟩
  · rw [if_neg h]
    exact ⟨0, rfl, fun hh => absurd hh h⟩
theorem TabW.up {b : Nat} {w : World} (h : TabW b w) (hb : b ≤ w.heap.size) : TabW w.heap.size w := fun w' hb' => h w' (hb'.mono hb)
theorem sumL_bd {f : Nat → Int} {B : Int} : ∀ n, (∀ i, i < n → 0 ≤ f i ∧ f i ≤ B) → 0 ≤ sumL ((List.range n).map f) ∧ sumL ((List.range n).map f) ≤ B * (n : Int)
  | 0, _ => by simp [sumL]
  | n + 1, h => by
    obtain ⟨h1, h2⟩ := sumL_bd n (fun i hi => h i (by omega))
    have h3 := h n (by omega)
    rw [sumL_range_succ, Int.natCast_add, Int.mul_add]
    omega
/-- One string of the instrument. -/
structure StrF (x : Sc) (k : Nat) (g : Nat → Nat) (j p1 p2 : Nat) (mt : Mtl) (s gg : Int) (y : Crs) (t : Nat) : Prop where
  e1 : g j / k = p1
  e2 : g j % k = p2
  pk : Pk x p1 p2 mt s gg
  co : x.co[j]? = some y
  ok : y.Ok
  hh : holdsB mt.D s y.L y.F x.sf = true
  et : pullN mt.D gg y.L y.F = t
  lt : t < 4000000000000
  tg : tgP x j (p1, p2) = (t : Int)
  pr : prN x k j (g j) = y.W * max ((t : Int) - y.T) (y.T - (t : Int))
theorem str_fact {x : Sc} (hok : ScOk x) {m k nc : Nat} (hm : m = x.me.length) (hk : k = x.ga.length) (hn : nc = x.co.length) {g : Nat → Nat} {j : Nat} (hj : j < nc) (hg : g j < m * k ∧ prN x k j (g j) ≠ -1) :
    ∃ p1 p2 mt s gg y t, StrF x k g j p1 p2 mt s gg y t ∧ p1 < m ∧ p2 < k := by
  have hk1 := hok.k.1
  have h1 : g j / k < m := Nat.div_lt_of_lt_mul (by rw [Nat.mul_comm]; exact hg.1)
  have h2 : g j % k < k := Nat.mod_lt _ (by omega)
  obtain ⟨mt, s, gg, hpk⟩ := hok.pk (g j / k) (g j % k) (by omega) (by omega)
  have hy : x.co[j]? = some (x.co[j]'(by omega)) := List.getElem?_eq_getElem (by omega)
  have hyo := hok.co _ (List.mem_of_getElem? hy)
  have hy2 : x.co.getD j ⟨0, 0, 0, 0⟩ = x.co[j]'(by omega) := by rw [List.getD_eq_getElem?_getD, hy]; rfl
  have hp := hg.2
  have hpe : prN x k j (g j) = if holdsB mt.D s (x.co[j]'(by omega)).L (x.co[j]'(by omega)).F x.sf then pricF mt.D gg (x.co[j]'(by omega)) else -1 := by
    unfold prN
    rw [hy2]
    exact prc_eq hpk _
  rw [hpe] at hp
  cases hb : holdsB mt.D s (x.co[j]'(by omega)).L (x.co[j]'(by omega)).F x.sf with
  | false => rw [hb] at hp; exact absurd rfl hp
  | true =>
    rw [hb, if_pos rfl] at hpe
    refine ⟨_, _, mt, s, gg, _, _, ⟨rfl, rfl, hpk, hy, hyo, hb, rfl, pullN_lt hpk.D.2 hpk.gr.2 hyo.L.2 hyo.F.2, tgP_eq hpk hy, ?_⟩, h1, h2⟩
    rw [hpe]
    unfold pricF
    congr 2
    omega
theorem StrF.rng {x : Sc} {k : Nat} {g : Nat → Nat} {j p1 p2 : Nat} {mt : Mtl} {s gg : Int} {y : Crs} {t : Nat} (h : StrF x k g j p1 p2 mt s gg y t) : 0 ≤ prN x k j (g j) ∧ prN x k j (g j) ≤ 4000000000000000 := by
  have hr := pric_range (d := mt.D) (g := gg) h.pk.D.2 h.pk.gr.2 h.ok
  have e : prN x k j (g j) = pricF mt.D gg y := by
    rw [h.pr]
    unfold pricF
    rw [h.et]
    congr 2
    omega
  rw [e]
  exact hr
end
end
section
section
open Go.RowKit Go.Joins Go.ChangeShapes Go.WideShapes Go.Deep

theorem slE_of_cellsW {α : Type} {enc : α → List Value} {sz : Nat} (hsz : ∀ x, (enc x).length = sz) (h0 : 0 < sz) {W : World} {a : Addr} {len : Nat} (f : Nat → α)
    (h : ∀ i, i < len → ∀ j u, (enc (f i))[j]? = some u → W.cell? (a.add (i * sz + j)) = some u) : SlE enc sz W (some a) len ((List.range len).map f) := by
  refine ⟨by simp, by rw [flat_length hsz]; simp, fun hn => ?_⟩
  obtain ⟨b, o, sp⟩ := a
  have hfirst : W.cell? ⟨b, o, sp⟩ = some ((enc (f 0))[0]'(by rw [hsz]; exact h0)) := by
    have := h 0 hn 0 _ (List.getElem?_eq_getElem (by rw [hsz]; exact h0))
    simpa [Addr.add] using this
  have hsp : sp = none := by
    cases sp with
    | none => rfl
    | some s =>
      simp only [World.cell?] at hfirst
      split at hfirst <;> simp at hfirst
  subst hsp
  refine ⟨b, o, rfl, ?_, fun q u hu => ?_⟩
  · by_cases hb : b < W.heap.size
    · exact hb
    · simp [World.cell?, Array.getElem?_eq_none (Nat.le_of_not_lt hb)] at hfirst
  · have hq : q < len * sz := by
      have := (List.getElem?_eq_some_iff.1 hu).1
      rw [flat_length hsz] at this
      simpa using this
    have hi : q / sz < len := Nat.div_lt_of_lt_mul (by rw [Nat.mul_comm]; exact hq)
    have hr : q % sz < sz := Nat.mod_lt _ h0
    have he : q / sz * sz + q % sz = q := by rw [Nat.mul_comm]; exact Nat.div_add_mod q sz
    have hx : ((List.range len).map f)[q / sz]? = some (f (q / sz)) := by simp [hi]
    have hg := flat_get hsz _ _ (q % sz) _ hx hr
    rw [he, hu] at hg
    have := h _ hi _ _ hg.symm
    rw [he] at this
    rw [← this]
    by_cases hz : q = 0
    · subst hz; simp [Addr.add]
    · simp [Addr.add, hz]

variable {H : Type} {enc : TypeId × Value → H} {W : World}

theorem Tryz.cellsIntW : Tryz.prog.cellsOf 3 = 1 := by kernel_rfl
set_option maxRecDepth 100000 in
/-- A list of ints, in memory as it came. -/
theorem open_intsCW {fuel : Nat} {cs : List Value} {x : DataW H × List MemPlace} (h : DataW.trod enc Tryz.prog W 0 (fun _ => true) true fuel 22 cs = some x) :
    ∃ A n c l, cs = [.slice A n c] ∧ n ≤ c ∧ c ≤ 9223372036854775807 ∧ SlE intE 1 W A n l := by
  rcases Go.Deep.open_slice Tryz.underlying22 h with ⟨rfl, _⟩ | ⟨a, len, cap, m, fu, D, Pl, rfl, _, hl, hm, hmm, _, hi⟩
  · exact ⟨none, 0, 0, [], rfl, Nat.le_refl _, by decide, SlE.nil _ _⟩
  · simp only [if_true] at hmm
    rw [hmm] at hi
    rw [Tryz.cellsIntW] at hi
    obtain ⟨f, hf⟩ := choose_lt (α := Int) (n := len) (p := fun i s => ∀ j u, (intE s)[j]? = some u → W.cell? (a.add (i * 1 + j)) = some u) (fun i hil => by
      obtain ⟨cs', hc, ht⟩ := hi i (by omega)
      obtain ⟨_, hcl, hat⟩ := World.cells?_some hc
      obtain ⟨s, rfl, _, _⟩ := DataW.trod_int Tryz.underlying3 ht
      refine ⟨s, fun j u hu => ?_⟩
      have hj : j < 1 := (List.getElem?_eq_some_iff.1 hu).1
      rw [← Go.Deep.add_add, hat j hj]
      exact hu)
    exact ⟨some a, len, cap, (List.range len).map f, rfl, hl, by unfold maxLen at hm; omega, slE_of_cellsW intE_len (by omega) f hf⟩
set_option maxRecDepth 100000 in
theorem open_intsW {r : Reach} {b0 : Nat} {v : Value} {d : DataW H} {p : List MemPlace} (hv : Value.okWide Tryz.prog W r b0 22 v)
    (h : DataW.Trod enc Tryz.prog W 0 (fun _ => true) true 22 v d p) : ∃ A n c l, v = .slice A n c ∧ n ≤ c ∧ c ≤ 9223372036854775807 ∧ SlE intE 1 W A n l := by
  obtain ⟨a, len, cap, rfl⟩ := okWide_slice Tryz.underlying22 hv
  obtain ⟨fuel, hf⟩ := h
  obtain ⟨A, n, c, l, e, h1, h2, h3⟩ := open_intsCW hf
  have e' : (Value.slice a len cap) = .slice A n c := by simpa [Value.cells] using e
  exact ⟨A, n, c, l, e', h1, h2, h3⟩
instance instCrs : Inhabited Crs := ⟨⟨0, 0, 0, 0⟩⟩
instance instMtl : Inhabited Mtl := ⟨⟨0, []⟩⟩
theorem Tryz.cellsSlW : Tryz.prog.cellsOf 22 = 1 := by kernel_rfl
theorem Tryz.cellsCrs : Tryz.prog.cellsOf 34 = 4 := by kernel_rfl
theorem Tryz.cellsMtl : Tryz.prog.cellsOf 49 = 2 := by kernel_rfl
theorem Tryz.cellsSlC : Tryz.prog.cellsOf 23 = 1 := by kernel_rfl
theorem Tryz.cellsSlM : Tryz.prog.cellsOf 24 = 1 := by kernel_rfl
theorem Tryz.cellsScl : Tryz.prog.cellsOf 26 = 5 := by kernel_rfl
theorem wf_inR {n : Int} (h : (Lit.int .i64 n).wf = true) : InR n := by
  have e1 : IntKind.i64.min = -9223372036854775808 := rfl
  have e2 : IntKind.i64.max = 9223372036854775807 := rfl
  simp [Lit.wf, e1, e2] at h
  exact h
set_option maxRecDepth 100000 in
theorem open_course {fuel : Nat} {cs : List Value} {x : DataW H × List MemPlace} (h : DataW.trod enc Tryz.prog W 0 (fun _ => true) true fuel 34 cs = some x) (hl0 : cs.length = 4) : ∃ s : Crs, cs = crsE s ∧ InR s.T ∧ InR s.W := by
  obtain ⟨xs, k, _, -, hl, hlen, hfd⟩ := DataW.trod_struct Tryz.underlying34 h
  match cs, hl0, xs, hlen with
  | [c0, c1, c2, c3], _, [y0, y1, y2, y3], _ =>
    have t0 := hfd 0 _ rfl
    have t1 := hfd 1 _ rfl
    have t2 := hfd 2 _ rfl
    have t3 := hfd 3 _ rfl
    simp [Tryz.cellsIntW] at t0 t1 t2 t3
    obtain ⟨x0, e0, _, _⟩ := DataW.trod_int Tryz.underlying3 t0
    obtain ⟨x1, e1, _, _⟩ := DataW.trod_int Tryz.underlying3 t1
    obtain ⟨x2, e2, _, w2⟩ := DataW.trod_int Tryz.underlying3 t2
    obtain ⟨x3, e3, _, w3⟩ := DataW.trod_int Tryz.underlying3 t3
    simp only [List.cons.injEq, and_true] at e0 e1 e2 e3
    subst e0; subst e1; subst e2; subst e3
    exact ⟨⟨x0, x1, x2, x3⟩, rfl, wf_inR w2, wf_inR w3⟩
set_option maxRecDepth 100000 in
theorem open_courses {fuel : Nat} {cs : List Value} {x : DataW H × List MemPlace} (h : DataW.trod enc Tryz.prog W 0 (fun _ => true) true fuel 23 cs = some x) :
    ∃ A n c ss, cs = [.slice A n c] ∧ n ≤ c ∧ c ≤ 9223372036854775807 ∧ SlE crsE 4 W A n ss ∧ ∀ y ∈ ss, InR y.T ∧ InR y.W := by
  rcases Go.Deep.open_slice Tryz.underlying23 h with ⟨rfl, _⟩ | ⟨a, len, cap, m, fu, D, Pl, rfl, _, hl, hm, hmm, _, hi⟩
  · exact ⟨none, 0, 0, [], rfl, Nat.le_refl _, by decide, SlE.nil _ _, by simp⟩
  · simp only [if_true] at hmm
    rw [hmm] at hi
    rw [Tryz.cellsCrs] at hi
    obtain ⟨f, hf⟩ := choose_lt (α := Crs) (n := len) (p := fun i s => (∀ j u, (crsE s)[j]? = some u → W.cell? (a.add (i * 4 + j)) = some u) ∧ InR s.T ∧ InR s.W) (fun i hil => by
      obtain ⟨cs', hc, ht⟩ := hi i (by omega)
      obtain ⟨_, hcl, hat⟩ := World.cells?_some hc
      obtain ⟨s, rfl, r1, r2⟩ := open_course ht hcl
      refine ⟨s, fun j u hu => ?_, r1, r2⟩
      have hj : j < 4 := (List.getElem?_eq_some_iff.1 hu).1
      rw [← Go.Deep.add_add, hat j hj]
      exact hu)
    refine ⟨some a, len, cap, (List.range len).map f, rfl, hl, by unfold maxLen at hm; omega, slE_of_cellsW crsE_len (by omega) f (fun i hi => (hf i hi).1), fun y hy => ?_⟩
    obtain ⟨i, hi, rfl⟩ := List.mem_map.1 hy
    exact (hf i (List.mem_range.1 hi)).2
set_option maxRecDepth 100000 in
theorem open_metal {fuel : Nat} {cs : List Value} {x : DataW H × List MemPlace} (h : DataW.trod enc Tryz.prog W 0 (fun _ => true) true fuel 49 cs = some x) (hl0 : cs.length = 2) :
    ∃ (r : Mtl) (Ai : Option Addr) (ci : Nat), cs = [.int .i64 r.D, .slice Ai r.S.length ci] ∧ SlE intE 1 W Ai r.S.length r.S ∧ r.S.length ≤ 9223372036854775807 := by
  obtain ⟨xs, k, _, -, hl, hlen, hfd⟩ := DataW.trod_struct Tryz.underlying49 h
  match cs, hl0, xs, hlen with
  | [c0, c1], _, [y0, y1], _ =>
    have t0 := hfd 0 _ rfl
    have t1 := hfd 1 _ rfl
    simp [Tryz.cellsIntW, Tryz.cellsSlW] at t0 t1
    obtain ⟨x0, e0, _, _⟩ := DataW.trod_int Tryz.underlying3 t0
    obtain ⟨A, n, c, l, e1, h1, h2, h3⟩ := open_intsCW t1
    simp only [List.cons.injEq, and_true] at e0 e1
    subst e0; subst e1
    have hn := h3.1
    subst hn
    exact ⟨⟨x0, l⟩, A, c, rfl, h3, by dsimp only; omega⟩
theorem slM_of_cells {W : World} {a : Addr} {len : Nat} (f : Nat → Mtl)
    (h : ∀ i, i < len → ∃ Ai ci, W.cell? (a.add (i * 2)) = some (.int .i64 (f i).D) ∧ W.cell? (a.add (i * 2 + 1)) = some (.slice Ai (f i).S.length ci) ∧ SlE intE 1 W Ai (f i).S.length (f i).S ∧ (f i).S.length ≤ 9223372036854775807) : SlM W (some a) len ((List.range len).map f) := by
  refine ⟨by simp, fun hn => ?_⟩
  obtain ⟨b, o, sp⟩ := a
  obtain ⟨A0, c0, hfirst, _⟩ := h 0 hn
  have hfirst' : W.cell? ⟨b, o, sp⟩ = some (.int .i64 (f 0).D) := by simpa [Addr.add] using hfirst
  have hsp : sp = none := by
    cases sp with
    | none => rfl
    | some s =>
      simp only [World.cell?] at hfirst'
      split at hfirst' <;> simp at hfirst'
  subst hsp
  refine ⟨b, o, rfl, ?_, fun i r hr => ?_⟩
  · by_cases hb : b < W.heap.size
    · exact hb
    · simp [World.cell?, Array.getElem?_eq_none (Nat.le_of_not_lt hb)] at hfirst'
  · have hi : i < len := by
      have := (List.getElem?_eq_some_iff.1 hr).1
      simpa using this
    have he : r = f i := by
      rw [List.getElem?_map, List.getElem?_range hi] at hr
      simpa using hr.symm
    subst he
    obtain ⟨Ai, ci, h1, h2, h3, h4⟩ := h i hi
    have e0 : W.cell? ⟨b, o + i * 2, none⟩ = W.cell? ((⟨b, o, none⟩ : Addr).add (i * 2)) := by
      by_cases hz : i * 2 = 0
      · rw [hz]; simp [Addr.add]
      · simp [Addr.add, hz]
    refine ⟨Ai, ci, e0.trans h1, ?_, h3, h4⟩
    rw [← h2]
    simp [Addr.add, Nat.add_assoc]
set_option maxRecDepth 100000 in
theorem open_metals {fuel : Nat} {cs : List Value} {x : DataW H × List MemPlace} (h : DataW.trod enc Tryz.prog W 0 (fun _ => true) true fuel 24 cs = some x) :
    ∃ A n c ss, cs = [.slice A n c] ∧ n ≤ c ∧ c ≤ 9223372036854775807 ∧ SlM W A n ss := by
  rcases Go.Deep.open_slice Tryz.underlying24 h with ⟨rfl, _⟩ | ⟨a, len, cap, m, fu, D, Pl, rfl, _, hl, hm, hmm, _, hi⟩
  · exact ⟨none, 0, 0, [], rfl, Nat.le_refl _, by decide, rfl, fun h => by omega⟩
  · simp only [if_true] at hmm
    rw [hmm] at hi
    rw [Tryz.cellsMtl] at hi
    obtain ⟨f, hf⟩ := choose_lt (α := Mtl) (n := len) (p := fun i s => ∃ Ai ci, W.cell? (a.add (i * 2)) = some (.int .i64 s.D) ∧ W.cell? (a.add (i * 2 + 1)) = some (.slice Ai s.S.length ci) ∧ SlE intE 1 W Ai s.S.length s.S ∧ s.S.length ≤ 9223372036854775807) (fun i hil => by
      obtain ⟨cs', hc, ht⟩ := hi i (by omega)
      obtain ⟨_, hcl, hat⟩ := World.cells?_some hc
      obtain ⟨s, Ai, ci, rfl, r1, r2⟩ := open_metal ht hcl
      refine ⟨s, Ai, ci, ?_, ?_, r1, r2⟩
      · have := hat 0 (by simp)
        rw [Go.Deep.add_add] at this
        simpa using this
      · have := hat 1 (by simp)
        rw [Go.Deep.add_add] at this
        simpa using this)
    exact ⟨some a, len, cap, (List.range len).map f, rfl, hl, by unfold maxLen at hm; omega, slM_of_cells f hf⟩
theorem array5W {α : Type} {cs : Array α} (h : cs.size = 5) : ∃ c0 c1 c2 c3 c4, cs = #[c0, c1, c2, c3, c4] := by
  obtain ⟨l⟩ := cs
  match l, h with
  | [c0, c1, c2, c3, c4], _ => exact ⟨c0, c1, c2, c3, c4, rfl⟩
set_option maxRecDepth 100000 in
theorem open_scaling {r : Reach} {b0 : Nat} {v : Value} {dd : DataW H} {p : List MemPlace} (hv : Value.okWide Tryz.prog W r b0 26 v)
    (h : DataW.Trod enc Tryz.prog W 0 (fun _ => true) true 26 v dd p) :
    ∃ (x : Sc) (A B G : Option Addr) (n c m d k e : Nat), v = .agg (scA A n c B m d G k e x) ∧ ScM W A n c B m d G k e x ∧ (m ≤ d ∧ d ≤ 9223372036854775807) ∧ (k ≤ e ∧ e ≤ 9223372036854775807) ∧ ∀ y ∈ x.co, InR y.T ∧ InR y.W := by
  obtain ⟨cs, rfl, hsz⟩ := okWide_struct Tryz.underlying26 hv
  obtain ⟨c0, c1, c2, c3, c4, rfl⟩ := array5W (hsz.trans Tryz.cellsScl)
  obtain ⟨fuel, hf⟩ := h
  obtain ⟨xs, k, _, -, hl, hlen, hfd⟩ := DataW.trod_struct Tryz.underlying26 hf
  match xs, hlen with
  | [y0, y1, y2, y3, y4], _ =>
    have t0 := hfd 0 _ rfl
    have t1 := hfd 1 _ rfl
    have t2 := hfd 2 _ rfl
    have t3 := hfd 3 _ rfl
    have t4 := hfd 4 _ rfl
    simp [Value.cells, Tryz.cellsIntW, Tryz.cellsSlW, Tryz.cellsSlC, Tryz.cellsSlM] at t0 t1 t2 t3 t4
    obtain ⟨A, n, c, co, e0, a1, a2, a3, a4⟩ := open_courses t0
    obtain ⟨B, m, d, me, e1, b1, b2, b3⟩ := open_metals t1
    obtain ⟨G, k, e, ga, e2, g1, g2, g3⟩ := open_intsCW t2
    obtain ⟨x3, e3, _, _⟩ := DataW.trod_int Tryz.underlying3 t3
    obtain ⟨x4, e4, _, _⟩ := DataW.trod_int Tryz.underlying3 t4
    simp only [List.cons.injEq, and_true] at e0 e1 e2 e3 e4
    subst e0; subst e1; subst e2; subst e3; subst e4
    exact ⟨⟨co, me, ga, x3, x4⟩, A, B, G, n, c, m, d, k, e, rfl, ⟨a3, b3, g3, by omega, by omega, by omega⟩, ⟨b1, b2⟩, ⟨g1, g2⟩, a4⟩
end
end
end Go.Proofs.YtojbldoekalbnaaGreatDoor
