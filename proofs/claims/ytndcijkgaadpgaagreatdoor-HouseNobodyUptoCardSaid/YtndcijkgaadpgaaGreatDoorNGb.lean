/-
  Contracts of nat's Check, Of, Bits, Cmp, Mul, DivMod, Pow, Root; each states its condition.
-/
import Derived.Test.YtndcijkgaadpgaaGreatDoorNGa
import Derived.Deep.LoopGhost
namespace Go.Proofs.YtndcijkgaadpgaaGreatDoor
section
open Go.RowKit
theorem below_one {w w' : World} (o : Obj) (h : Below (w.alloc o).heap.size (w.alloc o) w') : Below w.heap.size w w' := (below_new w o).trans (h.mono (by simp))
set_option maxRecDepth 16000 in
theorem natCheck_ok (A : Option Addr) (n c a : Nat) (w : World) (h : Nm w A n a) (hn : n ≤ 262144) :
    Calls Tryz.prog 388 #[.slice A n c] w fun e w' => e = .returned (.int .i64 0) ∧ w = w' := by
  refine calls_cps ?_
  intro R hR
  have Hf := Lib.hid (hR.out (.returned (.int .i64 0)) w ⟨rfl, rfl⟩)
  clear hR
  rcases n with _ | n
  · go_enter Tryz.func388, Tryz.ntmps388
    go_wp2
    exact Hf.out
  · obtain ⟨b, o, rfl, hb, q0⟩ := h.2.at_ (k := n) (by omega)
    have ht := h.top (by omega)
    rw [Nat.add_sub_cancel] at ht
    obtain ⟨x, hx⟩ : ∃ x, lim a n = x := ⟨_, rfl⟩
    rw [hx] at q0 ht
    have t1 : ((x : Int) == 0) = false := by simp; omega
    have i0 : (0 : Int) ≤ (n : Int) := by omega
    have i1 : (n : Int) + 1 ≤ 262144 := by omega
    have t2 : decide ((262144 : Int) < (n : Int) + 1) = false := decide_eq_false (by omega)
    have t3 : decide ((0 : Int) < (n : Int) + 1) = true := decide_eq_true (by omega)
    clear hx ht hn
    go_enter Tryz.func388, Tryz.ntmps388
    go_upto_region 3 with fail
    go_wp2_with fail
    exact Hf.out
/-- A value that valid takes. -/
def Fit (w : World) (V : Value) : Prop := ∃ A n c a, V = .slice A n c ∧ Nm w A n a ∧ n ≤ 262144
theorem Num.fit {w : World} {V : Value} {a : Nat} (h : Num w V a) (hl : ln a ≤ 262144) : Fit w V := by
  obtain ⟨A, n, c, e, _, h2⟩ := h
  exact ⟨A, n, c, a, e, h2, by rw [h2.1]; exact hl⟩
set_option maxHeartbeats 1000000 in
theorem valid_any (A : Option Addr) (k c : Nat) (vs : List Value) (w : World) (h : Sl w 1 A k vs) (hk : k ≤ 1000) (hf : ∀ (j : Nat) V, vs[j]? = some V → Fit w V) :
    Calls Tryz.prog 335 #[.slice A k c] w fun e w' => e = .returned (.int .i64 0) ∧ w = w' := by
  refine calls_cps ?_
  intro R hR
  have HR := Lib.hid (hR.out (.returned (.int .i64 0)) w ⟨rfl, rfl⟩)
  have H := Lib.hid (And.intro h hf)
  clear hR h hf
  go_enter Tryz.func335, Tryz.ntmps335
  go_wp2_with fail
  go_loop [4, 5, 8] (fun _ _ s8 => ∃ i : Nat, s8 = .int .i64 (i : Nat) ∧ i ≤ k) (fun _ _ s8 => k - (intOf s8).toNat)
  case atStart => exact ⟨0, rfl, Nat.zero_le _⟩
  case round =>
    obtain ⟨i, rfl, hi⟩ := hrel
    by_cases hlt : i < k
    · have i1 : (i : Int) < (k : Int) := by omega
      have hv : i < vs.length := by have := H.out.1.1; omega
      obtain ⟨b, o, rfl, hb, hc⟩ := H.out.1.2 (by omega)
      have q0 := hc i _ (List.getElem?_eq_getElem hv)
      obtain ⟨A2, n, c2, a, hV, hN, hn⟩ := H.out.2 i _ (List.getElem?_eq_getElem hv)
      rw [hV] at q0
      have HN := Lib.hid hN
      clear hV hN hc
      go_wp2_with ((with_reducible refine (natCheck_ok A2 n c2 a _ HN.out hn).mono ?_); rintro e w' ⟨rfl, rfl⟩)
      exact ⟨⟨i + 1, by go_num, by omega⟩, by simp [intOf]; omega⟩
    · obtain rfl : k = i := by omega
      go_wp2_with fail
      exact HR.out
theorem valid_one (V : Value) (w : World) (t : TypeId) (h : Fit w V) :
    Calls Tryz.prog 335 #[.slice (some ⟨w.heap.size, 0, none⟩) 1 1] (w.alloc (.cells #[V] t)) fun e w' => e = .returned (.int .i64 0) ∧ w.alloc (.cells #[V] t) = w' :=
  valid_any _ 1 1 [V] _ (Sl.new w #[V] t 1 1 rfl) (by omega) fun j U hU => by
    rcases j with _ | j
    · simp at hU
      subst hU
      obtain ⟨A, n, c, a, e, h2, h3⟩ := h
      exact ⟨A, n, c, a, e, h2.alloc _, h3⟩
    · simp at hU
theorem valid_two (V V2 : Value) (w : World) (t : TypeId) (h : Fit w V) (h' : Fit w V2) :
    Calls Tryz.prog 335 #[.slice (some ⟨w.heap.size, 0, none⟩) 2 2] (w.alloc (.cells #[V, V2] t)) fun e w' => e = .returned (.int .i64 0) ∧ w.alloc (.cells #[V, V2] t) = w' :=
  valid_any _ 2 2 [V, V2] _ (Sl.new w #[V, V2] t 1 2 rfl) (by omega) fun j U hU => by
    rcases j with _ | _ | j
    · simp at hU
      subst hU
      obtain ⟨A, n, c, a, e, h2, h3⟩ := h
      exact ⟨A, n, c, a, e, h2.alloc _, h3⟩
    · simp at hU
      subst hU
      obtain ⟨A, n, c, a, e, h2, h3⟩ := h'
      exact ⟨A, n, c, a, e, h2.alloc _, h3⟩
    · simp at hU
/-- A call that hands back a number and no error. -/
def GetsOk (w : World) (v : Nat) (e : Ending) (w' : World) : Prop := ∃ V, e = .returned (.tuple #[V, .int .i64 0]) ∧ Num w' V v ∧ Below w.heap.size w w'
theorem short_ok (V : Value) (a : Nat) (w : World) (h : Num w V a) (hl : ln a ≤ 262144) :
    Calls Tryz.prog 338 #[V] w fun e w' => e = .returned (.tuple #[V, .int .i64 0]) ∧ w = w' := by
  obtain ⟨A, n, c, rfl, hnc, hN⟩ := h
  have hn : n ≤ 262144 := by rw [hN.1]; exact hl
  refine calls_cps ?_
  intro R hR
  have Hf := Lib.hid (hR.out _ w ⟨rfl, rfl⟩)
  clear hR hN hl
  go_enter Tryz.func338, Tryz.ntmps338
  go_wp2
  exact Hf.out
set_option maxHeartbeats 1000000 in
theorem bits_any (V : Value) (a : Nat) (w : World) (h : Num w V a) (hl : ln a ≤ 262144) :
    Calls Tryz.prog 270 #[V] w fun e w' => e = .returned (.tuple #[.int .i64 (bitsN a : Nat), .int .i64 0]) ∧ Below w.heap.size w w' := by
  obtain ⟨A, n, c, rfl, hnc, hN⟩ := h
  have hn : n ≤ 262144 := by rw [hN.1]; exact hl
  refine calls_cps ?_
  intro R hR
  have Hf := Lib.hid (hR.out _ (w.alloc (.cells #[Value.slice A n c] 285)) ⟨rfl, below_new w _⟩)
  have HN := Lib.hid hN
  have HF := Lib.hid (show Fit w (.slice A n c) from ⟨A, n, c, a, rfl, hN, hn⟩)
  clear hR hN hl
  go_enter Tryz.func270, Tryz.ntmps270
  go_wp2_with (first
    | ((with_reducible refine (valid_one _ w _ HF.out).mono ?_); rintro e w' ⟨rfl, rfl⟩)
    | ((with_reducible refine (length_any A n c a _ (HN.out.alloc _) (by omega)).mono ?_); rintro e w' ⟨rfl, rfl⟩))
  exact Hf.out
set_option maxHeartbeats 1000000 in
theorem cmp_num (V V2 : Value) (a b : Nat) (w : World) (h : Num w V a) (h2 : Num w V2 b) (hl : ln a ≤ 262144) (hl2 : ln b ≤ 262144) :
    Calls Tryz.prog 272 #[V, V2] w fun e w' => e = .returned (.tuple #[.int .i64 (cmpN a b), .int .i64 0]) ∧ Below w.heap.size w w' := by
  have HF := Lib.hid (h.fit hl)
  have HF2 := Lib.hid (h2.fit hl2)
  obtain ⟨A, n, c, rfl, hnc, hN⟩ := h
  obtain ⟨B, m, d, rfl, hmd, hM⟩ := h2
  have hn : n ≤ 262144 := by rw [hN.1]; exact hl
  have hm : m ≤ 262144 := by rw [hM.1]; exact hl2
  refine calls_cps ?_
  intro R hR
  obtain ⟨x, hx⟩ : ∃ x, cmpN a b = x := ⟨_, rfl⟩
  rw [hx] at hR
  have Hf := Lib.hid (show ∀ q, R (.returned (.tuple #[.int .i64 x, .int .i64 0])) ((w.alloc (.cells #[Value.slice A n c, Value.slice B m d] 285)).drewN q) from fun q => hR.out _ _ ⟨rfl, below_drewN (below_new w _) q⟩)
  have Hx := Lib.hid hx
  have HN := Lib.hid hN
  have HM := Lib.hid hM
  clear hR hN hM hl hl2 hx
  go_enter Tryz.func272, Tryz.ntmps272
  go_wp2_with (first
    | ((with_reducible refine (valid_two _ _ w _ HF.out HF2.out).mono ?_); rintro e w' ⟨rfl, rfl⟩)
    | ((with_reducible refine (ncompare_any A B n c m d a b _ (HN.out.alloc _) (HM.out.alloc _) (by omega) (by omega)).mono ?_); rw [Hx.out]; rintro e w' ⟨rfl, q, rfl⟩))
  exact Hf.out _
set_option maxHeartbeats 1000000 in
theorem mul_num (V V2 : Value) (a b : Nat) (w : World) (h : Num w V a) (h2 : Num w V2 b) (hl : ln a + ln b ≤ 262144) :
    Calls Tryz.prog 275 #[V, V2] w (GetsOk w (a * b)) := by
  have HF := Lib.hid (h.fit (by omega))
  have HF2 := Lib.hid (h2.fit (by omega))
  have Hab := Lib.hid (show ln (a * b) ≤ 262144 from Nat.le_trans (ln_mul_le a b) hl)
  obtain ⟨A, n, c, rfl, hnc, hN⟩ := h
  obtain ⟨B, m, d, rfl, hmd, hM⟩ := h2
  have hn : n + m ≤ 262144 := by rw [hN.1, hM.1]; exact hl
  refine calls_cps ?_
  intro R hR
  have Hf := Lib.hid (show ∀ V W, Num W V (a * b) → Below (w.alloc (.cells #[Value.slice A n c, Value.slice B m d] 285)).heap.size (w.alloc (.cells #[Value.slice A n c, Value.slice B m d] 285)) W → R (.returned (.tuple #[V, .int .i64 0])) W from fun V W g1 g2 => hR.out _ _ ⟨V, rfl, g1, below_one _ g2⟩)
  have HN := Lib.hid hN
  have HM := Lib.hid hM
  have t1 : decide ((n : Int) + (m : Int) > 262145) = false := decide_eq_false (by omega)
  clear hR hN hM hl
  go_enter Tryz.func275, Tryz.ntmps275
  go_wp2_with (first
    | ((with_reducible refine (valid_two _ _ w _ HF.out HF2.out).mono ?_); rintro e w' ⟨rfl, rfl⟩)
    | ((with_reducible refine (times_any A B n c m d a b _ (HN.out.alloc _) (HM.out.alloc _) hnc hmd (by omega) (by omega)).mono ?_); intro e w1 hw1; obtain ⟨V, rfl, hV, hb1⟩ := hw1.gets)
    | ((with_reducible refine (short_ok V (a * b) _ hV Hab.out).mono ?_); rintro e w' ⟨rfl, rfl⟩))
  exact Hf.out _ _ hV hb1
set_option maxHeartbeats 1000000 in
theorem shift_up (V : Value) (a s : Nat) (w : World) (h : Num w V a) (hs : s ≤ 1000000) (hl : ln a ≤ 262144) (hl2 : ln (a * 2 ^ s) ≤ 262144) :
    Calls Tryz.prog 271 #[V, .int .i64 (s : Nat)] w (GetsOk w (a * 2 ^ s)) := by
  have HF := Lib.hid (h.fit hl)
  have Hl2 := Lib.hid hl2
  obtain ⟨A, n, c, rfl, hnc, hN⟩ := h
  have hn : n ≤ 262144 := by rw [hN.1]; exact hl
  refine calls_cps ?_
  intro R hR
  have Hf := Lib.hid (show ∀ V W, Num W V (a * 2 ^ s) → Below (w.alloc (.cells #[Value.slice A n c] 285)).heap.size (w.alloc (.cells #[Value.slice A n c] 285)) W → R (.returned (.tuple #[V, .int .i64 0])) W from fun V W g1 g2 => hR.out _ _ ⟨V, rfl, g1, below_one _ g2⟩)
  have HN := Lib.hid hN
  clear hR hl hl2
  have t2 : decide ((s : Int) ≤ -8388608) = false := decide_eq_false (by omega)
  have t3 : decide ((s : Int) < 0) = false := decide_eq_false (by omega)
  have t4 : decide ((8388608 : Int) < (s : Int)) = false := decide_eq_false (by omega)
  rcases Nat.eq_zero_or_pos n with h0 | h0
  · have ha : a = 0 := ln_eq_zero.1 (by rw [← hN.1, h0])
    have Hg := Lib.hid (Hf.out (.slice none 0 0) _ (by rw [ha, Nat.zero_mul]; exact Num.nil _) (Below.refl _ _))
    have t1 : ((n : Int) == 0) = true := by simp [h0]
    clear hN ha h0
    go_enter Tryz.func271, Tryz.ntmps271
    go_wp2_with ((with_reducible refine (valid_one _ w _ HF.out).mono ?_); rintro e w' ⟨rfl, rfl⟩)
    exact Hg.out
  · have t1 : ((n : Int) == 0) = false := by simp; omega
    clear hN
    go_enter Tryz.func271, Tryz.ntmps271
    go_wp2_with (first
      | ((with_reducible refine (valid_one _ w _ HF.out).mono ?_); rintro e w' ⟨rfl, rfl⟩)
      | ((with_reducible refine (up_any A n c a s _ (HN.out.alloc _) (by omega) (by omega)).mono ?_); intro e w1 hw1; obtain ⟨V, rfl, hV, hb1⟩ := hw1.gets)
      | ((with_reducible refine (short_ok V (a * 2 ^ s) _ hV Hl2.out).mono ?_); rintro e w' ⟨rfl, rfl⟩))
    exact Hf.out _ _ hV hb1
set_option maxHeartbeats 1000000 in
theorem divmod_num (V V2 : Value) (a b : Nat) (w : World) (h : Num w V a) (h2 : Num w V2 b) (hl : ln a ≤ 262144) (hl2 : ln b ≤ 262144) (hb : 0 < b) :
    Calls Tryz.prog 281 #[V, V2] w fun e w' => ∃ V1 V2, e = .returned (.tuple #[V1, V2, .int .i64 0]) ∧ Num w' V1 (a / b) ∧ Num w' V2 (a % b) ∧ Below w.heap.size w w' := by
  have HF := Lib.hid (h.fit hl)
  have HF2 := Lib.hid (h2.fit hl2)
  obtain ⟨A, n, c, rfl, hnc, hN⟩ := h
  obtain ⟨B, m, d, rfl, hmd, hM⟩ := h2
  have hn : n ≤ 262144 := by rw [hN.1]; exact hl
  have hm : m ≤ 262144 := by rw [hM.1]; exact hl2
  have hm0 : 0 < m := by rw [hM.1]; exact ln_pos (by omega)
  have t1 : ((m : Int) == 0) = false := by simp; omega
  refine calls_cps ?_
  intro R hR
  have Hf := Lib.hid (show ∀ V1 V2 W, Num W V1 (a / b) → Num W V2 (a % b) → Below (w.alloc (.cells #[Value.slice A n c, Value.slice B m d] 285)).heap.size (w.alloc (.cells #[Value.slice A n c, Value.slice B m d] 285)) W → R (.returned (.tuple #[V1, V2, .int .i64 0])) W from fun V1 V2 W g1 g2 g3 => hR.out _ _ ⟨V1, V2, rfl, g1, g2, below_one _ g3⟩)
  have HN := Lib.hid hN
  have HM := Lib.hid hM
  have Hb := Lib.hid hb
  clear hR hN hM hl hl2 hb
  go_enter Tryz.func281, Tryz.ntmps281
  go_wp2_with (first
    | ((with_reducible refine (valid_two _ _ w _ HF.out HF2.out).mono ?_); rintro e w' ⟨rfl, rfl⟩)
    | ((with_reducible refine (npart_any A B n c m d a b _ (HN.out.alloc _) (HM.out.alloc _) hnc hmd (by omega) (by omega) Hb.out).mono ?_); rintro e w1 ⟨V1, V2, rfl, hV1, hV2, hb1⟩))
  go_ret3
  exact Hf.out _ _ _ hV1 hV2 hb1
set_option maxHeartbeats 1000000 in
theorem of_any (v : Nat) (w : World) (hv : v < 18446744073709551616) : Calls Tryz.prog 273 #[.int .u64 (v : Nat)] w (GetsNum w v) := by
  refine calls_cps ?_
  intro R hR
  obtain ⟨lo, hlo⟩ : ∃ x, v % 4294967296 = x := ⟨_, rfl⟩
  obtain ⟨hi, hhi⟩ : ∃ x, v / 4294967296 = x := ⟨_, rfl⟩
  have e1 : (v : Int) % 4294967296 = (lo : Int) := by omega
  have e2 : (v : Int) / 4294967296 = (hi : Int) := by omega
  have e3 : (hi : Int) % 4294967296 = (hi : Int) := by omega
  have Hr := Lib.hid (show RdN (w.alloc (.cells #[Value.int .u32 (lo : Nat), Value.int .u32 (hi : Nat)] 133)) (some ⟨w.heap.size, 0, none⟩) 2 (fun i => if i = 0 then lo else hi) from
    ⟨fun i _ => by dsimp only; split <;> omega, fun _ => ⟨_, _, rfl, by simp, fun i hi' => by
      rw [cell_of_row _ _ _ _ _ (0, 0) (heap_alloc_new w _)]
      obtain rfl | rfl : i = 0 ∨ i = 1 := by omega
      · rfl
      · rfl⟩⟩)
  have Hv := Lib.hid (show fv (fun i => if i = 0 then lo else hi) 2 = v from by
    show 0 + lo * pw 0 + hi * pw 1 = v
    rw [pw_zero, pw_one]; omega)
  have Hf := Lib.hid (show ∀ k, k ≤ 2 → Nm (w.alloc (.cells #[Value.int .u32 (lo : Nat), Value.int .u32 (hi : Nat)] 133)) (some ⟨w.heap.size, 0, none⟩) k v → R (.returned (.slice (some ⟨w.heap.size, 0, none⟩) k 2)) (w.alloc (.cells #[Value.int .u32 (lo : Nat), Value.int .u32 (hi : Nat)] 133)) from fun k g1 g2 => hR.out _ _ ⟨_, rfl, ⟨_, k, 2, rfl, g1, g2⟩, below_new w _⟩)
  clear hR hlo hhi
  go_enter Tryz.func273, Tryz.ntmps273
  go_wp2_with fail
  refine (natTrim_any _ 2 2 _ _ Hr.out (by omega) (by omega)).mono ?_
  rintro e w' ⟨k, rfl, hk, hnm, rfl⟩
  rw [Hv.out] at hnm
  have Hg := Lib.hid (Hf.out k hk hnm)
  clear hnm
  go_wp2_with fail
  exact Hg.out
end
section
open Go.RowKit
theorem odd_test {r : Nat} (hr : r ≤ 1000000) : (bits BinOp.and IntKind.i64 (r : Int) 1 == 1) = decide (r % 2 = 1) := by
  have h1 : (BitVec.ofInt 64 (r : Int)).toNat = r := by
    rw [BitVec.ofInt_natCast, BitVec.toNat_ofNat]; exact Nat.mod_eq_of_lt (by omega)
  have h2 : (BitVec.ofInt 64 (1 : Int)).toNat = 1 := by decide
  have h3 : bits BinOp.and IntKind.i64 (r : Int) 1 = ((r % 2 : Nat) : Int) := by
    show IntKind.i64.wrap ((BitVec.ofInt 64 (r : Int) &&& BitVec.ofInt 64 (1 : Int)).toNat : Int) = _
    rw [BitVec.toNat_and, h1, h2, Nat.and_one_is_mod]
    exact IntWalk.i64_in _ (by omega)
  rw [h3]
  rcases Nat.mod_two_eq_zero_or_one r with h | h <;> rw [h] <;> rfl
theorem times_num (V V2 : Value) (a b : Nat) (w : World) (h : Num w V a) (h2 : Num w V2 b) (hl : ln a ≤ 300000) (hl2 : ln b ≤ 300000) :
    Calls Tryz.prog 343 #[V, V2] w (GetsNum w (a * b)) := by
  obtain ⟨A, n, c, rfl, hnc, hN⟩ := h
  obtain ⟨B, m, d, rfl, hmd, hM⟩ := h2
  exact (times_any A B n c m d a b w hN hM hnc hmd (by rw [hN.1]; exact hl) (by rw [hM.1]; exact hl2)).mono fun _ _ h => h.gets
theorem ln_pow_le (a : Nat) : ∀ n, 0 < n → ln (a ^ n) ≤ ln a * n
  | 0, h => absurd h (Nat.lt_irrefl _)
  | 1, _ => by rw [Nat.pow_one, Nat.mul_one]; exact Nat.le_refl _
  | n + 2, _ => by
    rw [Nat.pow_succ, Nat.mul_succ]
    exact Nat.le_trans (ln_mul_le _ _) (Nat.add_le_add_right (ln_pow_le a (n + 1) (by omega)) _)
theorem ln_pow_le' {a : Nat} (_ha : 0 < a) (n : Nat) : ln (a ^ n) ≤ ln a * n + 1 := by
  rcases Nat.eq_zero_or_pos n with h | h
  · subst h
    rw [Nat.pow_zero]
    have : ln 1 ≤ 1 := (ln_le_iff 1 1).2 (by rw [pw_one]; omega)
    omega
  · have := ln_pow_le a n h; omega
theorem le_mul_pow {o a r : Nat} (_ha : 0 < a) (hr : 0 < r) : o * a ≤ o * a ^ r := Nat.mul_le_mul_left o (le_pow_self hr)
theorem sq_le_pow {o a r : Nat} (ha : 0 < a) (ho : 0 < o) (hr : 2 ≤ r) : a * a ≤ o * a ^ r := by
  have h1 : a ^ 2 ≤ a ^ r := Nat.pow_le_pow_right ha hr
  rw [Nat.pow_two] at h1
  have h2 : 1 * a ^ r ≤ o * a ^ r := Nat.mul_le_mul_right _ ho
  omega
theorem pow_half {o a r : Nat} : (if r % 2 = 1 then o * a else o) * (a * a) ^ (r / 2) = o * a ^ r := by
  have e : (a * a) ^ (r / 2) = a ^ (2 * (r / 2)) := by rw [← Nat.pow_two, ← Nat.pow_mul]
  rw [e]
  split
  · rename_i h
    have h2 : r = 2 * (r / 2) + 1 := by omega
    conv => rhs; rw [h2, Nat.pow_succ]
    rw [Nat.mul_assoc, Nat.mul_comm a]
  · rename_i h
    have h2 : r = 2 * (r / 2) := by omega
    conv => rhs; rw [h2]
set_option maxHeartbeats 2000000 in
theorem raise_any (V : Value) (a n : Nat) (w : World) (h : Num w V a) (ha : 0 < a) (hl : ln a * n ≤ 262143) (hn : n ≤ 1000000) :
    Calls Tryz.prog 348 #[V, .int .i64 (n : Nat)] w (GetsNum w (a ^ n)) := by
  refine calls_cps ?_
  intro R hR
  have HR := Lib.hid (show ∀ V W, Num W V (a ^ n) → Below w.heap.size w W → R (.returned V) W from fun V W g1 g2 => hR.out _ _ ⟨V, rfl, g1, g2⟩)
  have Hl := Lib.hid (show ln (a ^ n) ≤ 262144 from Nat.le_trans (ln_pow_le' ha n) (by omega))
  have H := Lib.hid h
  have Ha := Lib.hid ha
  have Hone := Lib.hid (show Num (w.alloc (.cells #[Value.int .u32 1] 133)) (.slice (some ⟨w.heap.size, 0, none⟩) 1 1) 1 from
    ⟨_, 1, 1, rfl, Nat.le_refl _, by
      have h := (rd_one w 1 (by omega) 133).nm (v := 1) (by simp [fv, pw_zero])
      have h1 : ln 1 = 1 := ln_eq (k := 0) (by rw [pw_zero]; omega) (by rw [pw_one]; omega)
      rwa [h1] at h⟩)
  have Hln : Hid (ln a ≤ 262144 ∨ n = 0) := Lib.hid (by
    rcases Nat.eq_zero_or_pos n with h0 | h0
    · exact .inr h0
    · refine .inl (Nat.le_trans ?_ (show ln a * n ≤ 262144 by omega))
      have := Nat.mul_le_mul_left (ln a) h0
      omega)
  clear hR h ha hl
  go_enter Tryz.func348, Tryz.ntmps348
  go_wp2_with fail
  obtain ⟨w1, hw1⟩ : ∃ w1, w.alloc (.cells #[Value.int .u32 1] 133) = w1 := ⟨_, rfl⟩
  have Hb1 := Lib.hid (show Below w.heap.size w w1 from by rw [← hw1]; exact below_new w _)
  have HV1 := Lib.hid (show Num w1 V a from H.out.below (by rw [← hw1]; exact below_new w _))
  rw [hw1] at Hone ⊢
  clear hw1 H
  go_loopw [0, 1, 5] (fun s0 s1 s5 wr => ∃ (V0 V5 : Value) (a' r o : Nat), V0 = s0 ∧ V5 = s5 ∧ s1 = .int .i64 (r : Nat) ∧ r ≤ 1000000 ∧ Hid (Num wr V0 a' ∧ Num wr V5 o) ∧ Hid (o * a' ^ r = a ^ n ∧ 0 < a' ∧ 0 < o ∧ (r = 0 ∨ ln a' ≤ 262144) ∧ ln o ≤ 262144) ∧ Hid (Below w.heap.size w wr)) (fun _ s1 _ _ => (intOf s1).toNat)
  case atStart =>
    refine ⟨_, _, a, n, 1, rfl, rfl, rfl, hn, Lib.hid ⟨HV1.out, Hone.out⟩, Lib.hid ⟨Nat.one_mul _, Ha.out, by omega, ?_, ?_⟩, Hb1⟩
    · rcases Hln.out with h | h
      · exact .inr h
      · exact .inl h
    · exact Nat.le_trans ((ln_le_iff 1 1).2 (by rw [pw_one]; omega)) (by omega)
  case round =>
    obtain ⟨V0, V5, a', r, o, rfl, rfl, rfl, hr, HN, HI, HW⟩ := hrel
    rcases Nat.eq_zero_or_pos r with h0 | h0
    · subst h0
      have Hf := Lib.hid (HR.out _ wr (by have := HN.out.2; have h := HI.out.1; rw [Nat.pow_zero, Nat.mul_one] at h; rwa [h] at this) HW.out)
      go_wp2_with fail
      exact Hf.out
    · have r0 : (0 : Int) < (r : Int) := by omega
      have Hla := Lib.hid (show ln a' ≤ 262144 from by
        rcases HI.out.2.2.2.1 with h | h
        · omega
        · exact h)
      have Ho1 := Lib.hid (show r % 2 = 1 → ln (o * a') ≤ 262144 ∧ 0 < o * a' from fun _ => ⟨Nat.le_trans (ln_mono (le_mul_pow HI.out.2.1 h0)) (by rw [HI.out.1]; exact Hl.out), Nat.mul_pos HI.out.2.2.1 HI.out.2.1⟩)
      have Hsq := Lib.hid (show 2 ≤ r → ln (a' * a') ≤ 262144 from fun h => Nat.le_trans (ln_mono (sq_le_pow HI.out.2.1 HI.out.2.2.1 h)) (by rw [HI.out.1]; exact Hl.out))
      have Hh := Lib.hid (pow_half (o := o) (a := a') (r := r))
      rw [HI.out.1] at Hh
      have tb := odd_test hr
      rcases Nat.mod_two_eq_zero_or_one r with hp | hp
      · rw [hp] at tb
        have Hp := Lib.hid hp
        have h2 : 2 ≤ r := by omega
        have t2 : decide ((1 : Int) < (r : Int)) = true := decide_eq_true (by omega)
        have tb' : (bits BinOp.and IntKind.i64 (r : Int) 1 == 1) = false := tb
        clear tb hp
        go_wp2_with ((with_reducible refine (times_num V0 V0 a' a' _ HN.out.1 HN.out.1 (Nat.le_trans Hla.out (by omega)) (Nat.le_trans Hla.out (by omega))).mono ?_); rintro e w2 ⟨V2, rfl, hV2, hb2⟩)
        refine ⟨⟨_, _, a' * a', r / 2, o, rfl, rfl, by go_num, by omega, Lib.hid ⟨hV2, HN.out.2.below hb2⟩, Lib.hid ⟨?_, Nat.mul_pos HI.out.2.1 HI.out.2.1, HI.out.2.2.1, .inr (Hsq.out h2), HI.out.2.2.2.2⟩, Lib.hid (HW.out.trans (hb2.mono HW.out.size))⟩, by simp [intOf]; omega⟩
        have h := Hh.out
        rwa [Hp.out, if_neg (by omega)] at h
      · rw [hp] at tb
        have Hp := Lib.hid hp
        have tb' : (bits BinOp.and IntKind.i64 (r : Int) 1 == 1) = true := tb
        clear tb hp
        rcases Nat.lt_or_ge 1 r with h2 | h2
        · have t2 : decide ((1 : Int) < (r : Int)) = true := decide_eq_true (by omega)
          go_wp2_with (first
            | ((with_reducible refine (times_num V5 V0 o a' _ HN.out.2 HN.out.1 (Nat.le_trans HI.out.2.2.2.2 (by omega)) (Nat.le_trans Hla.out (by omega))).mono ?_); rintro e w2 ⟨V2, rfl, hV2, hb2⟩)
            | ((with_reducible refine (times_num V0 V0 a' a' _ (HN.out.1.below hb2) (HN.out.1.below hb2) (Nat.le_trans Hla.out (by omega)) (Nat.le_trans Hla.out (by omega))).mono ?_); rintro e w3 ⟨V3, rfl, hV3, hb3⟩))
          refine ⟨⟨_, _, a' * a', r / 2, o * a', rfl, rfl, by go_num, by omega, Lib.hid ⟨hV3, hV2.below hb3⟩, Lib.hid ⟨?_, Nat.mul_pos HI.out.2.1 HI.out.2.1, (Ho1.out Hp.out).2, .inr (Hsq.out h2), (Ho1.out Hp.out).1⟩, Lib.hid ((HW.out.trans (hb2.mono HW.out.size)).trans (hb3.mono (Nat.le_trans HW.out.size hb2.size)))⟩, by simp [intOf]; omega⟩
          have h := Hh.out
          rwa [Hp.out, if_pos rfl] at h
        · obtain rfl : r = 1 := by omega
          go_wp2_with ((with_reducible refine (times_num V5 V0 o a' _ HN.out.2 HN.out.1 (Nat.le_trans HI.out.2.2.2.2 (by omega)) (Nat.le_trans Hla.out (by omega))).mono ?_); rintro e w2 ⟨V2, rfl, hV2, hb2⟩)
          refine ⟨⟨_, _, a', 0, o * a', rfl, rfl, by go_num, by omega, Lib.hid ⟨HN.out.1.below hb2, hV2⟩, Lib.hid ⟨?_, HI.out.2.1, (Ho1.out Hp.out).2, .inl rfl, (Ho1.out Hp.out).1⟩, Lib.hid (HW.out.trans (hb2.mono HW.out.size))⟩, by simp [intOf]⟩
          have h := HI.out.1
          rw [Nat.pow_one] at h
          rw [Nat.pow_zero, Nat.mul_one, h]
theorem bits_le_ln (a : Nat) : bitsN a ≤ 32 * ln a := (bitsN_le_iff _ _).2 (by rw [← pw_two]; exact lt_pw_ln a)
theorem ln_one : ln 1 = 1 := ln_eq (k := 0) (by rw [pw_zero]; omega) (by rw [pw_one]; omega)
theorem num_one (w : World) (t : TypeId) : Num (w.alloc (.cells #[Value.int .u32 1] t)) (.slice (some ⟨w.heap.size, 0, none⟩) 1 1) 1 :=
  ⟨_, 1, 1, rfl, Nat.le_refl _, by
    have h := (rd_one w 1 (by omega) t).nm (v := 1) (by simp [fv, pw_zero])
    rwa [ln_one] at h⟩
theorem compare_num (V V2 : Value) (a b : Nat) (w : World) (h : Num w V a) (h2 : Num w V2 b) (hl : ln a ≤ 1000000) (hl2 : ln b ≤ 1000000) :
    Calls Tryz.prog 340 #[V, V2] w fun e w' => e = .returned (.int .i64 (cmpN a b)) ∧ Qt w w' := by
  obtain ⟨A, n, c, rfl, hnc, hN⟩ := h
  obtain ⟨B, m, d, rfl, hmd, hM⟩ := h2
  exact ncompare_any A B n c m d a b w hN hM (by rw [hN.1]; exact hl) (by rw [hM.1]; exact hl2)
theorem own_num' (V : Value) (a : Nat) (w : World) (h : Num w V a) (hl : ln a ≤ 1000000) : Calls Tryz.prog 347 #[V] w (GetsNum w a) := by
  obtain ⟨A, n, c, rfl, hnc, hN⟩ := h
  exact own_num A n c a w hN (by rw [hN.1]; exact hl)
theorem length_num (V : Value) (a : Nat) (w : World) (h : Num w V a) (hl : ln a ≤ 1000000) : Calls Tryz.prog 336 #[V] w fun e w' => e = .returned (.int .i64 (bitsN a : Nat)) ∧ w = w' := by
  obtain ⟨A, n, c, rfl, hnc, hN⟩ := h
  exact length_any A n c a w hN (by rw [hN.1]; exact hl)
set_option maxRecDepth 16000 in
set_option maxHeartbeats 2000000 in
theorem power_any (V : Value) (a n : Nat) (w : World) (h : Num w V a) (ha : 0 < a) (hl : ln a * n ≤ 262143) (hla : ln a ≤ 262143) (hn : n ≤ 1000000) :
    Calls Tryz.prog 342 #[V, .int .i64 (n : Nat)] w (GetsOk w (a ^ n)) := by
  refine calls_cps ?_
  intro R hR
  have HR := Lib.hid (show ∀ V W, Num W V (a ^ n) → Below w.heap.size w W → R (.returned (.tuple #[V, .int .i64 0])) W from fun V W g1 g2 => hR.out _ _ ⟨V, rfl, g1, g2⟩)
  have Hl := Lib.hid (show ln (a ^ n) ≤ 262144 from Nat.le_trans (ln_pow_le' ha n) (by omega))
  have Hln := Lib.hid hl
  have Hone := Lib.hid (num_one w 133)
  have HV := Lib.hid (h.below (below_new w (.cells #[Value.int .u32 1] 133)))
  have Hb := Lib.hid (below_new w (.cells #[Value.int .u32 1] 133))
  have hn0 : (0 : Int) < (ln a : Nat) := by have := ln_pos (v := a) (by omega); omega
  obtain ⟨A, L, c, rfl, hLc, hN⟩ := h
  have hL0 : ((L : Int) == 0) = false := by
    have : 0 < L := by rw [hN.1]; exact ln_pos (by omega)
    simp; omega
  have Ha := Lib.hid ha
  clear hR hl hN hn0 ha hLc
  rcases Nat.eq_zero_or_pos n with h0 | h0
  · subst h0
    have Hf := Lib.hid (HR.out _ _ (by rw [Nat.pow_zero]; exact Hone.out) Hb.out)
    go_enter Tryz.func342, Tryz.ntmps342
    go_wp2_with fail
    exact Hf.out
  · have t0 : ((n : Int) == 0) = false := by simp; omega
    obtain ⟨w1, hw1⟩ : ∃ w1, w.alloc (.cells #[Value.int .u32 1] 133) = w1 := ⟨_, rfl⟩
    obtain ⟨g, hg⟩ : ∃ g, w.heap.size = g := ⟨_, rfl⟩
    by_cases h1 : a = 1
    · have H1 := Lib.hid h1
      have hx : cmpN a 1 = 0 := by rw [h1]; rfl
      have Hx := Lib.hid hx
      clear h1 hx hw1 hg
      go_enter Tryz.func342, Tryz.ntmps342
      go_wp2_with ((with_reducible refine (compare_num _ _ a 1 _ HV.out Hone.out (Nat.le_trans hla (by omega)) (by rw [ln_one]; omega)).mono ?_); rw [Hx.out]; rintro e w' ⟨rfl, q, rfl⟩)
      refine (own_num' _ a _ (HV.out.below (below_drewN (Below.refl _ _) q)) (Nat.le_trans hla (by omega))).mono ?_
      rintro e w2 ⟨V2, rfl, hV2, hb2⟩
      have Hf := Lib.hid (HR.out V2 w2 (by rw [H1.out] at hV2 ⊢; rwa [Nat.one_pow]) (Hb.out.trans (Below.trans (below_drewN (Below.refl _ _) q) (hb2.mono (by simp)))))
      clear hV2 hb2
      go_wp2_with fail
      exact Hf.out
    · have hx : cmpN a 1 = 1 := by have := Ha.out; unfold cmpN; rw [if_neg (by omega), if_neg h1]
      have Hx := Lib.hid hx
      obtain ⟨B, hB⟩ : ∃ B, bitsN a = B := ⟨_, rfl⟩
      have hB1 : 1 ≤ B := by rw [← hB]; exact bitsN_pos Ha.out
      obtain ⟨z, hz⟩ : ∃ z, (B - 1) * n = z := ⟨_, rfl⟩
      have hzl : z < 8388608 := by
        have h2 : (B - 1) * n ≤ 32 * ln a * n := Nat.mul_le_mul_right n (by rw [← hB]; have := bits_le_ln a; omega)
        have h3 := Hln.out
        rw [Nat.mul_assoc] at h2; omega
      have hzi : ((B : Int) - 1) * (n : Int) = (z : Int) := by rw [← hz, ← Int.natCast_one, ← Int.ofNat_sub hB1]; simp
      have hB2 : (1 : Int) ≤ (B : Int) := by omega
      have hB3 : (B : Int) ≤ 9000000 := by have := bits_le_ln a; omega
      have HB := Lib.hid hB
      have t6 : decide ((8388608 : Int) ≤ (n : Int)) = false := decide_eq_false (by omega)
      have t7 : decide ((8388608 : Int) ≤ (z : Int)) = false := decide_eq_false (by omega)
      have t8 : decide (8388608 ≤ n) = false := decide_eq_false (by omega)
      have t9 : decide (8388608 ≤ z) = false := decide_eq_false (by omega)
      clear h1 hx hw1 hg hB hz hB1
      go_enter Tryz.func342, Tryz.ntmps342
      go_upto_region 6 with ((with_reducible refine (compare_num _ _ a 1 _ HV.out Hone.out (Nat.le_trans hla (by omega)) (by rw [ln_one]; omega)).mono ?_); rw [Hx.out]; rintro e w' ⟨rfl, q, rfl⟩)
      go_wp2_with (first
        | ((with_reducible refine (compare_num _ _ a 1 _ HV.out Hone.out (Nat.le_trans hla (by omega)) (by rw [ln_one]; omega)).mono ?_); rw [Hx.out]; rintro e w' ⟨rfl, q, rfl⟩)
        | ((with_reducible refine (length_num _ a _ (HV.out.below (below_drewN (Below.refl _ _) q)) (Nat.le_trans hla (by omega))).mono ?_); rw [HB.out]; rintro e w' ⟨rfl, rfl⟩)
        | ((with_reducible refine (raise_any _ a n _ (HV.out.below (below_drewN (Below.refl _ _) q)) Ha.out Hln.out hn).mono ?_); rintro e w2 ⟨V2, rfl, hV2, hb2⟩)
        | ((with_reducible refine (short_ok V2 (a ^ n) _ hV2 Hl.out).mono ?_); rintro e w' ⟨rfl, rfl⟩))
      exact HR.out V2 w2 hV2 (Hb.out.trans (Below.trans (below_drewN (Below.refl _ _) q) (hb2.mono (by simp))))
set_option maxHeartbeats 1000000 in
theorem pow_num (V : Value) (a n : Nat) (w : World) (h : Num w V a) (ha : 0 < a) (hl : ln a * n ≤ 262143) (hla : ln a ≤ 262143) (hn : n ≤ 1000000) :
    Calls Tryz.prog 274 #[V, .int .i64 (n : Nat)] w (GetsOk w (a ^ n)) := by
  have HF := Lib.hid (h.fit (by omega))
  refine calls_cps ?_
  intro R hR
  have Hf := Lib.hid (show ∀ V1 W, Num W V1 (a ^ n) → Below (w.alloc (.cells #[V] 285)).heap.size (w.alloc (.cells #[V] 285)) W → R (.returned (.tuple #[V1, .int .i64 0])) W from fun V1 W g1 g2 => hR.out _ _ ⟨V1, rfl, g1, below_one _ g2⟩)
  have HV := Lib.hid (h.below (below_new w (.cells #[V] 285)))
  have Ha := Lib.hid ha
  have Hl := Lib.hid hl
  obtain ⟨A, L, c, rfl, -, -⟩ := h
  clear hR ha hl
  go_enter Tryz.func274, Tryz.ntmps274
  go_wp2_with (first
    | ((with_reducible refine (valid_one _ w _ HF.out).mono ?_); rintro e w' ⟨rfl, rfl⟩)
    | ((with_reducible refine (power_any _ a n _ HV.out Ha.out Hl.out hla hn).mono ?_); rintro e w2 ⟨V2, rfl, hV2, hb2⟩))
  exact Hf.out _ _ hV2 hb2
end
section
open Go.RowKit
theorem or_two {x y t : Nat} (h : x + y * 4294967296 = t) (hx : x < 4294967296) (hy : y < 4294967296) : bits .or .u64 (x : Int) ((y : Int) * 4294967296) = (t : Int) := by
  have e1 : bits .or .u64 (x : Int) ((y * 4294967296 : Nat) : Int) = ((x ||| y * 4294967296 : Nat) : Int) := u64_or_nat x (y * 4294967296) (by omega) (by omega)
  have e2 : x ||| y * 4294967296 = y * 4294967296 + x := or_low (r := 32) (by omega) (by omega)
  have e3 : ((y : Int) * 4294967296) = ((y * 4294967296 : Nat) : Int) := by simp
  rw [e3, e1, e2]; omega
theorem or_zero {x : Nat} (hx : x < 4294967296) : bits .or .u64 0 (x : Int) = (x : Int) := by
  have e1 : bits .or .u64 ((0 : Nat) : Int) (x : Int) = ((0 ||| x : Nat) : Int) := u64_or_nat 0 x (by omega) (by omega)
  rw [Nat.zero_or] at e1
  exact e1
set_option maxRecDepth 16000 in
set_option maxHeartbeats 1000000 in
theorem uint64_big (V : Value) (a : Nat) (w : World) (h : Num w V a) (hl : ln a ≤ 262144) (h2 : 2 < ln a) :
    Calls Tryz.prog 283 #[V] w fun e w' => e = .returned (.tuple #[.int .u64 0, .int .i64 5]) ∧ Below w.heap.size w w' := by
  have HF := Lib.hid (h.fit hl)
  obtain ⟨A, n, c, rfl, hnc, hN⟩ := h
  have hn : 2 < n := by rw [hN.1]; exact h2
  have t1 : decide ((2 : Int) < (n : Int)) = true := decide_eq_true (by omega)
  refine calls_cps ?_
  intro R hR
  have Hf := Lib.hid (hR.out _ (w.alloc (.cells #[Value.slice A n c] 285)) ⟨rfl, below_new w _⟩)
  clear hR hN hl h2
  go_enter Tryz.func283, Tryz.ntmps283
  go_wp2_with ((with_reducible refine (valid_one _ w _ HF.out).mono ?_); rintro e w' ⟨rfl, rfl⟩)
  exact Hf.out
set_option maxRecDepth 16000 in
set_option maxHeartbeats 1000000 in
theorem uint64_small (V : Value) (a : Nat) (w : World) (h : Num w V a) (h2 : ln a ≤ 2) :
    Calls Tryz.prog 283 #[V] w fun e w' => e = .returned (.tuple #[.int .u64 (a : Nat), .int .i64 0]) ∧ Below w.heap.size w w' := by
  have HF := Lib.hid (h.fit (by omega))
  obtain ⟨A, n, c, rfl, hnc, hN⟩ := h
  have hn : n ≤ 2 := by rw [hN.1]; exact h2
  have t1 : decide ((2 : Int) < (n : Int)) = false := decide_eq_false (by omega)
  refine calls_cps ?_
  intro R hR
  have Hf := Lib.hid (hR.out _ (w.alloc (.cells #[Value.slice A n c] 285)) ⟨rfl, below_new w _⟩)
  have HN := Lib.hid (hN.alloc (.cells #[Value.slice A n c] 285))
  clear hR hN h2
  go_enter Tryz.func283, Tryz.ntmps283
  go_wp2_with ((with_reducible refine (valid_one _ w _ HF.out).mono ?_); rintro e w' ⟨rfl, rfl⟩)
  go_loopw [5, 6, 7, 19] (fun s5 _ _ s19 wr => ∃ (i v : Nat), s5 = .int .u64 (v : Nat) ∧ s19 = .int .i64 (i : Nat) ∧ i ≤ n ∧ Hid (v = fv (lim a) i) ∧ wr = w.alloc (.cells #[Value.slice A n c] 285)) (fun _ _ _ s19 _ => n - (intOf s19).toNat)
  case atStart => exact ⟨0, 0, rfl, rfl, Nat.zero_le _, Lib.hid rfl, rfl⟩
  case round =>
    obtain ⟨i, v, rfl, rfl, hi, HI, rfl⟩ := hrel
    by_cases hlt : i < n
    · have i1 : (i : Int) < (n : Int) := by omega
      obtain ⟨bl, oa, rfl, hbl, q0⟩ := HN.out.2.at_ hlt
      have hx := lim_lt a i
      obtain ⟨x, hxx⟩ : ∃ x, lim a i = x := ⟨_, rfl⟩
      rw [hxx] at q0 hx
      obtain rfl | rfl : i = 0 ∨ i = 1 := by omega
      · obtain rfl : v = 0 := HI.out
        have ho := or_zero hx
        have Hv := Lib.hid (show x = fv (lim a) 1 from by show x = 0 + lim a 0 * pw 0; rw [hxx, pw_zero]; omega)
        clear hxx
        rw [Nat.add_zero] at q0
        go_wp2_with fail
        exact ⟨⟨1, x, rfl, rfl, by omega, Hv, trivial⟩, by simp [intOf]; omega⟩
      · have hv : v = lim a 0 := by rw [HI.out]; show 0 + lim a 0 * pw 0 = _; rw [pw_zero]; omega
        have hvl : v < 4294967296 := by rw [hv]; exact lim_lt a 0
        obtain ⟨t, ht⟩ : ∃ t, v + x * 4294967296 = t := ⟨_, rfl⟩
        have ho := or_two ht hvl hx
        have Hv := Lib.hid (show t = fv (lim a) 2 from by show t = 0 + lim a 0 * pw 0 + lim a 1 * pw 1; rw [hxx, ← hv, pw_zero, pw_one]; omega)
        clear hxx hv ht
        go_wp2_with fail
        exact ⟨⟨2, t, rfl, rfl, by omega, Hv, trivial⟩, by simp [intOf]; omega⟩
    · obtain rfl : n = i := by omega
      have hv := HI.out
      rw [HN.out.val] at hv
      subst hv
      go_wp2_with fail
      exact Hf.out
/-- Newton's steps. -/
theorem root_start {a n : Nat} (hn : 0 < n) : root n a ≤ 2 ^ ((bitsN a + n - 1) / n) := by
  refine Nat.le_of_lt (root_lt hn ?_)
  refine Nat.lt_of_lt_of_le (lt_two_bits a) ?_
  rw [← Nat.pow_mul]
  refine Nat.pow_le_pow_right (by omega) ?_
  have := Nat.div_add_mod (bitsN a + n - 1) n
  have h2 := Nat.mod_lt (bitsN a + n - 1) hn
  rw [Nat.mul_comm] at this
  omega
theorem root_small {a n : Nat} (hn : bitsN a ≤ n) (ha : 0 < a) (hn0 : 0 < n) : root n a = 1 := by
  refine root_eq hn0 (by rw [Nat.one_pow]; exact ha) ?_
  exact Nat.lt_of_lt_of_le (lt_two_bits a) (Nat.pow_le_pow_right (by omega) hn)
theorem ln_two_pow (t : Nat) : ln (2 ^ t) ≤ t / 32 + 1 := by
  refine (ln_le_iff _ _).2 ?_
  rw [pw_two]
  exact Nat.pow_lt_pow_right (by omega) (by omega)
/-- How long the powers within Newton's step are. -/
theorem step_len {a n x : Nat} (hn : 0 < n) (hn2 : n ≤ 1000) (hl : ln a ≤ 2000) (hx : x ≤ 2 ^ ((bitsN a + n - 1) / n)) : ln x ≤ 64001 ∧ ln x * (n - 1) ≤ 66000 := by
  have h1 := Nat.le_trans (ln_mono hx) (ln_two_pow _)
  have hb := bits_le_ln a
  obtain ⟨B, hB⟩ : ∃ B, bitsN a = B := ⟨_, rfl⟩
  rw [hB] at h1 hb hx
  obtain ⟨t, ht⟩ : ∃ t, (B + n - 1) / n = t := ⟨_, rfl⟩
  rw [ht] at h1
  have h2 : t * n ≤ B + n - 1 := by rw [← ht]; exact Nat.div_mul_le_self _ _
  have h3 : t ≤ t * n := Nat.le_mul_of_pos_right _ hn
  refine ⟨by omega, ?_⟩
  have h4 : ln x * (n - 1) ≤ (t / 32 + 1) * (n - 1) := Nat.mul_le_mul_right _ h1
  have h5 : (t / 32 + 1) * (n - 1) ≤ (t / 32 + 1) * n := Nat.mul_le_mul_left _ (by omega)
  have h6 : t / 32 * n ≤ t * n := Nat.mul_le_mul_right _ (Nat.div_le_self _ _)
  have h7 : (t / 32 + 1) * n = t / 32 * n + n := by rw [Nat.add_mul, Nat.one_mul]
  omega
theorem up_num (V : Value) (a s : Nat) (w : World) (h : Num w V a) (hl : ln a ≤ 300000) (hs : s ≤ 10000000) :
    Calls Tryz.prog 339 #[V, .int .i64 (s : Nat)] w (GetsNum w (a * 2 ^ s)) := by
  obtain ⟨A, n, c, rfl, hnc, hN⟩ := h
  exact (up_any A n c a s w hN (by rw [hN.1]; exact hl) hs).mono fun _ _ h => h.gets
theorem plus_num (V V2 : Value) (a b : Nat) (w : World) (h : Num w V a) (h2 : Num w V2 b) (hl : ln a ≤ 600000) (hl2 : ln b ≤ 600000) :
    Calls Tryz.prog 349 #[V, V2] w (GetsNum w (a + b)) := by
  obtain ⟨A, n, c, rfl, hnc, hN⟩ := h
  obtain ⟨B, m, d, rfl, hmd, hM⟩ := h2
  exact (plus_any A B n c m d a b w hN hM (by rw [hN.1]; exact hl) (by rw [hM.1]; exact hl2)).mono fun _ _ h => h.gets
theorem part_num (V V2 : Value) (a b : Nat) (w : World) (h : Num w V a) (h2 : Num w V2 b) (hl : ln a ≤ 300000) (hl2 : ln b ≤ 300000) (hb : 0 < b) :
    Calls Tryz.prog 346 #[V, V2] w (PartP w (a / b) (a % b)) := by
  obtain ⟨A, n, c, rfl, hnc, hN⟩ := h
  obtain ⟨B, m, d, rfl, hmd, hM⟩ := h2
  exact npart_any A B n c m d a b w hN hM hnc hmd (by rw [hN.1]; exact hl) (by rw [hM.1]; exact hl2) hb
theorem num_oneAt (w : World) (t : TypeId) {b : Nat} (hb : b = w.heap.size) : Num (w.alloc (.cells #[Value.int .u32 1] t)) (.slice (some ⟨b, 0, none⟩) 1 1) 1 := by
  subst hb; exact num_one w t
theorem cmpN_le {a b : Nat} (h : a < b) : cmpN a b < 0 := by rw [cmpN_lt h]; omega
theorem newton_next {n a x : Nat} (hx : 0 < x) (ha : 0 < a) (hge : root (n + 1) a ≤ x) : (root (n + 1) a ≤ (x * n + a / x ^ n) / (n + 1)) ∧ 0 < root (n + 1) a ∧ (x ≤ (x * n + a / x ^ n) / (n + 1) → root (n + 1) a = x) := by
  refine ⟨newton_ge hx, ?_, fun h => ?_⟩
  · exact le_root (by omega) (by rw [Nat.one_pow]; exact ha)
  · rcases Nat.eq_or_lt_of_le hge with h1 | h1
    · exact h1
    · have := newton_lt h1; omega
set_option maxRecDepth 16000 in
set_option maxHeartbeats 4000000 in
theorem root_num (V : Value) (a n : Nat) (w : World) (h : Num w V a) (hl : ln a ≤ 2000) (hn0 : 0 < n) (hn : n ≤ 1000) :
    Calls Tryz.prog 282 #[V, .int .i64 (n : Nat)] w (GetsOk w (root n a)) := by
  have HF := Lib.hid (h.fit (by omega))
  refine calls_cps ?_
  intro R hR
  have HR := Lib.hid (show ∀ V W, Num W V (root n a) → Below w.heap.size w W → R (.returned (.tuple #[V, .int .i64 0])) W from fun V W g1 g2 => hR.out _ _ ⟨V, rfl, g1, g2⟩)
  have HV := Lib.hid (h.below (below_new w (.cells #[V] 285)))
  have Hb := Lib.hid (below_new w (.cells #[V] 285))
  have Hl := Lib.hid hl
  obtain ⟨A, L, c, rfl, -, hN⟩ := h
  have hLz : L = 0 ↔ a = 0 := by rw [hN.1]; exact ln_eq_zero
  have u1 : decide ((n : Int) < 1) = false := decide_eq_false (by omega)
  have u2 : decide (n < 1) = false := decide_eq_false (by omega)
  clear hR hl hN
  by_cases h1 : n = 1 ∨ a = 0
  · have Hr := Lib.hid (show root n a = a from by
      rcases h1 with h1 | h1
      · rw [h1, root_one]
      · rw [h1, root_zero hn0])
    have hla : ln a ≤ 1000000 := by have := Hl.out; omega
    by_cases h2 : n = 1
    · have u3 : ((n : Int) == 1) = true := by simp [h2]
      clear h1 h2 hLz
      go_enter Tryz.func282, Tryz.ntmps282
      go_wp2_with (first
        | ((with_reducible refine (valid_one _ w _ HF.out).mono ?_); rintro e w' ⟨rfl, rfl⟩)
        | ((with_reducible refine (own_num' _ a _ HV.out hla).mono ?_); rintro e w2 ⟨V2, rfl, hV2, hb2⟩))
      exact HR.out _ _ (by rw [Hr.out]; exact hV2) (Hb.out.trans (hb2.mono (by simp)))
    · have u3 : ((n : Int) == 1) = false := by simp; omega
      have u4 : ((L : Int) == 0) = true := by
        have : L = 0 := hLz.2 (by omega)
        simp [this]
      clear h1 h2 hLz
      go_enter Tryz.func282, Tryz.ntmps282
      go_wp2_with (first
        | ((with_reducible refine (valid_one _ w _ HF.out).mono ?_); rintro e w' ⟨rfl, rfl⟩)
        | ((with_reducible refine (own_num' _ a _ HV.out hla).mono ?_); rintro e w2 ⟨V2, rfl, hV2, hb2⟩))
      exact HR.out _ _ (by rw [Hr.out]; exact hV2) (Hb.out.trans (hb2.mono (by simp)))
  · have hn1 : n ≠ 1 := fun e => h1 (.inl e)
    have ha0 : a ≠ 0 := fun e => h1 (.inr e)
    have u3 : ((n : Int) == 1) = false := by simp; omega
    have u4 : ((L : Int) == 0) = false := by
      have : L ≠ 0 := fun e => ha0 (hLz.1 e)
      simp; omega
    have Ha := Lib.hid (show 0 < a by omega)
    obtain ⟨B, hB⟩ : ∃ B, bitsN a = B := ⟨_, rfl⟩
    have hBl : B ≤ 64000 := by have := bits_le_ln a; have := Hl.out; omega
    have HB := Lib.hid hB
    have hn2 : 2 ≤ n := by omega
    have hla : ln a ≤ 1000000 := by have := Hl.out; omega
    clear h1 hn1 ha0 hLz hB
    obtain ⟨w1, hw1⟩ : ∃ w1, w.alloc (.cells #[Value.slice A L c] 285) = w1 := ⟨_, rfl⟩
    by_cases hBn : B ≤ n
    · have u5 : decide ((B : Int) ≤ (n : Int)) = true := decide_eq_true (by omega)
      have u6 : decide (B ≤ n) = true := decide_eq_true hBn
      have Hr := Lib.hid (show root n a = 1 from root_small (by rw [HB.out]; exact hBn) Ha.out hn0)
      clear hBn hw1
      go_enter Tryz.func282, Tryz.ntmps282
      go_wp2_with (first
        | ((with_reducible refine (valid_one _ w _ HF.out).mono ?_); rintro e w' ⟨rfl, rfl⟩)
        | ((with_reducible refine (length_num _ a _ HV.out hla).mono ?_); rw [HB.out]; rintro e w' ⟨rfl, rfl⟩))
      exact HR.out _ _ (by rw [Hr.out]; exact (show Num _ (.slice (some ⟨w.heap.size + 1, 0, none⟩) 1 1) 1 from num_oneAt _ _ (by simp))) (Hb.out.trans ((below_new _ _).mono (by simp)))
    · have u5 : decide ((B : Int) ≤ (n : Int)) = false := decide_eq_false (by omega)
      have u6 : decide (B ≤ n) = false := decide_eq_false hBn
      obtain ⟨k, hk⟩ : ∃ k, n - 1 = k := ⟨_, rfl⟩
      have hnk : n = k + 1 := by omega
      obtain ⟨t, ht⟩ : ∃ t, (B + n - 1) / n = t := ⟨_, rfl⟩
      have hti : ((B : Int) + (n : Int) - 1) / (n : Int) = (t : Int) := by
        rw [← ht, Int.natCast_ediv, Int.ofNat_sub (by omega), Int.natCast_add]; rfl
      have htl : t ≤ 65000 := by
        have : (B + n - 1) / n ≤ B + n - 1 := Nat.div_le_self _ _
        omega
      have hBi : (B : Int) ≤ 64000 := by omega
      have hki : (n : Int) - 1 = (k : Int) := by omega
      have hkl : k ≤ 1000 := by omega
      have Hst := Lib.hid (root_start (a := a) hn0)
      have Hlen := Lib.hid (fun x => step_len (a := a) (n := n) (x := x) hn0 hn Hl.out)
      have Hnx := Lib.hid (fun x => newton_next (n := k) (a := a) (x := x))
      rw [HB.out, ht] at Hst Hlen
      rw [← hnk] at Hnx
      rw [hk] at Hlen
      have HV1 := HV
      have Hb1 := Hb
      rw [hw1] at HV1 Hb1
      have HV1 := Lib.hid HV1.out
      have Hn1 := Lib.hid hnk
      have hn64 : n < 18446744073709551616 := by omega
      have hk64 : k < 18446744073709551616 := by omega
      have Ho := Lib.hid (show Num (w1.alloc (.cells #[Value.int .u32 1] 133)) (.slice (some ⟨w1.heap.size, 0, none⟩) 1 1) 1 from num_one _ _)
      have HVo := Lib.hid (HV1.out.below (below_new w1 (.cells #[Value.int .u32 1] 133)))
      have Hbo := Lib.hid (Hb1.out.trans ((below_new w1 (.cells #[Value.int .u32 1] 133)).mono Hb1.out.size))
      have hln1 : ln 1 ≤ 300000 := by rw [ln_one]; omega
      have Hw1 := Lib.hid hw1
      clear hk hnk hBn ht hBl hw1
      go_enter Tryz.func282, Tryz.ntmps282
      go_upto_region 10 with (first
        | ((with_reducible refine (valid_one _ w _ HF.out).mono ?_); rintro e w' ⟨rfl, rfl⟩)
        | ((with_reducible refine (length_num _ a _ HV.out hla).mono ?_); rw [HB.out]; rintro e w' ⟨rfl, rfl⟩))
      rw [Hw1.out]
      clear Hw1 HV Hb
      go_wp2_with (first
        | ((with_reducible refine (length_num _ a _ HVo.out hla).mono ?_); rw [HB.out]; rintro e w' ⟨rfl, rfl⟩)
        | ((with_reducible refine (up_num _ 1 t _ Ho.out hln1 (by omega)).mono ?_); rintro e w2 ⟨V7, rfl, hV7, hb2⟩; have HV2 := Lib.hid (HVo.out.below hb2); have Hb2 := Lib.hid (Hbo.out.trans (hb2.mono Hbo.out.size)); have H7 := Lib.hid hV7; clear hV7 hb2)
        | ((with_reducible refine (of_any k _ hk64).mono ?_); rintro e w3 ⟨V8, rfl, hV8, hb3⟩; have HV3 := Lib.hid (HV2.out.below hb3); have Hb3 := Lib.hid (Hb2.out.trans (hb3.mono Hb2.out.size)); have H73 := Lib.hid (H7.out.below hb3); have H8 := Lib.hid hV8; clear hV8 hb3)
        | ((with_reducible refine (of_any n _ hn64).mono ?_); rintro e w4 ⟨V9, rfl, hV9, hb4⟩; have HV4 := Lib.hid (HV3.out.below hb4); have Hb4 := Lib.hid (Hb3.out.trans (hb4.mono Hb3.out.size)); have H74 := Lib.hid (H73.out.below hb4); have H84 := Lib.hid (H8.out.below hb4); have H9 := Lib.hid hV9; clear hV9 hb4))
      have hkn : ln k ≤ 100 := Nat.le_trans ((ln_le_iff 1 k).2 (by rw [pw_one]; omega)) (by omega)
      have hnn : ln n ≤ 100 := Nat.le_trans ((ln_le_iff 1 n).2 (by rw [pw_one]; omega)) (by omega)
      obtain ⟨x0, hx0⟩ : ∃ x, 2 ^ t = x := ⟨_, rfl⟩
      rw [Nat.one_mul] at H74
      rw [hx0] at H74 Hst Hlen
      have Hx0 := Lib.hid hx0
      clear Ho HVo Hbo HV2 Hb2 H7 HV3 Hb3 H73 H8 HV1 Hb1 hx0 hti
      go_loopg [7, 10, 11, 12, 13] x0 (fun gk s7 _ _ _ _ wr => ∃ V7 : Value, V7 = s7 ∧ Hid (Num wr V7 gk ∧ Num wr (.slice A L c) a ∧ Num wr V8 k ∧ Num wr V9 n) ∧ Hid (root n a ≤ gk ∧ gk ≤ x0) ∧ Hid (Below w.heap.size w wr))
      case atStart => exact ⟨_, rfl, Lib.hid ⟨H74.out, HV4.out, H84.out, H9.out⟩, Lib.hid ⟨Hst.out, Nat.le_refl _⟩, Hb4⟩
      case round =>
        clear H74 HV4 H84 H9 Hb4
        obtain ⟨V7, rfl, HN, HI, HW⟩ := hrel
        obtain ⟨x, hx⟩ : ∃ x, gk = x := ⟨_, rfl⟩
        rw [hx] at HN HI
        have Hgx := Lib.hid hx
        have hxp : 0 < x := by
          have h1 := (Hnx.out x)
          have h2 : 0 < root n a := le_root hn0 (by rw [Nat.one_pow]; exact Ha.out)
          have := HI.out.1
          omega
        have hlx := (Hlen.out x HI.out.2)
        have Hnew := Lib.hid (Hnx.out x hxp Ha.out HI.out.1)
        have Hlt := Lib.hid (show root n a < x → (x * k + a / x ^ k) / n < x from fun h => by
          rw [Hn1.out] at h ⊢; exact newton_lt h)
        obtain ⟨y, hy⟩ : ∃ y, (x * k + a / x ^ k) / n = y := ⟨_, rfl⟩
        have Hy := Lib.hid hy
        have hxk : 0 < x ^ k := Nat.pow_pos hxp
        have hl1 : ln (x ^ k) ≤ 300000 := Nat.le_trans (ln_pow_le' hxp k) (by omega)
        have hl2 : ln (a / x ^ k) ≤ 300000 := Nat.le_trans (ln_div_le _ _) (by have := Hl.out; omega)
        have hl3 : ln (x * k) ≤ 200000 := Nat.le_trans (ln_mul_le _ _) (by omega)
        have hl4 : ln (x * k + a / x ^ k) ≤ 300000 := Nat.le_trans (ln_add_le _ _) (by have := ln_div_le a (x ^ k); have := Hl.out; omega)
        have hl5 : ln x ≤ 300000 := by omega
        have hl6 : ln a ≤ 300000 := by have := Hl.out; omega
        have hl7 : ln x * k ≤ 262143 := by omega
        have hly : ln y ≤ 1000000 := by rw [← hy]; exact Nat.le_trans (ln_div_le _ _) (by omega)
        have hlx6 : ln x ≤ 1000000 := by omega
        have hk3 : ln k ≤ 300000 := by omega
        have hn3 : ln n ≤ 300000 := by omega
        have hl36 : ln (x * k) ≤ 600000 := by omega
        have hl26 : ln (a / x ^ k) ≤ 600000 := by omega
        clear hx hlx hy
        have Hk1000 := Lib.hid (show k ≤ 1000000 by omega)
        go_wp2_with (first
          | ((with_reducible refine (raise_any V7 x k _ HN.out.1 hxp hl7 Hk1000.out).mono ?_); rintro e w5 ⟨V5, rfl, hV5, hb5⟩; have HN5 := Lib.hid (show Num w5 V7 x ∧ Num w5 (.slice A L c) a ∧ Num w5 V8 k ∧ Num w5 V9 n ∧ Num w5 V5 (x ^ k) from ⟨HN.out.1.below hb5, HN.out.2.1.below hb5, HN.out.2.2.1.below hb5, HN.out.2.2.2.below hb5, hV5⟩); have HW5 := Lib.hid (HW.out.trans (hb5.mono HW.out.size)); clear hV5 hb5)
          | ((with_reducible refine (part_num _ V5 a (x ^ k) _ HN5.out.2.1 HN5.out.2.2.2.2 hl6 hl1 hxk).mono ?_); rintro e w6 ⟨V6, V6', rfl, hV6, -, hb6⟩; have HN6 := Lib.hid (show Num w6 V7 x ∧ Num w6 (.slice A L c) a ∧ Num w6 V8 k ∧ Num w6 V9 n ∧ Num w6 V6 (a / x ^ k) from ⟨HN5.out.1.below hb6, HN5.out.2.1.below hb6, HN5.out.2.2.1.below hb6, HN5.out.2.2.2.1.below hb6, hV6⟩); have HW6 := Lib.hid (HW5.out.trans (hb6.mono HW5.out.size)); clear hV6 hb6)
          | ((with_reducible refine (times_num V7 V8 x k _ HN6.out.1 HN6.out.2.2.1 hl5 hk3).mono ?_); rintro e wA ⟨VA, rfl, hVA, hbA⟩; have HNA := Lib.hid (show Num wA V7 x ∧ Num wA (.slice A L c) a ∧ Num wA V8 k ∧ Num wA V9 n ∧ Num wA V6 (a / x ^ k) ∧ Num wA VA (x * k) from ⟨HN6.out.1.below hbA, HN6.out.2.1.below hbA, HN6.out.2.2.1.below hbA, HN6.out.2.2.2.1.below hbA, HN6.out.2.2.2.2.below hbA, hVA⟩); have HWA := Lib.hid (HW6.out.trans (hbA.mono HW6.out.size)); clear hVA hbA)
          | ((with_reducible refine (plus_num VA V6 (x * k) (a / x ^ k) _ HNA.out.2.2.2.2.2 HNA.out.2.2.2.2.1 hl36 hl26).mono ?_); rintro e wB ⟨VB, rfl, hVB, hbB⟩; have HNB := Lib.hid (show Num wB V7 x ∧ Num wB (.slice A L c) a ∧ Num wB V8 k ∧ Num wB V9 n ∧ Num wB VB (x * k + a / x ^ k) from ⟨HNA.out.1.below hbB, HNA.out.2.1.below hbB, HNA.out.2.2.1.below hbB, HNA.out.2.2.2.1.below hbB, hVB⟩); have HWB := Lib.hid (HWA.out.trans (hbB.mono HWA.out.size)); clear hVB hbB)
          | ((with_reducible refine (part_num VB V9 (x * k + a / x ^ k) n _ HNB.out.2.2.2.2 HNB.out.2.2.2.1 hl4 hn3 hn0).mono ?_); rw [Hy.out]; rintro e wC ⟨VC, VC', rfl, hVC, -, hbC⟩; have HNC := Lib.hid (show Num wC V7 x ∧ Num wC (.slice A L c) a ∧ Num wC V8 k ∧ Num wC V9 n ∧ Num wC VC y from ⟨HNB.out.1.below hbC, HNB.out.2.1.below hbC, HNB.out.2.2.1.below hbC, HNB.out.2.2.2.1.below hbC, hVC⟩); have HWC := Lib.hid (HWB.out.trans (hbC.mono HWB.out.size)); clear hVC hbC))
        rcases Nat.lt_or_ge y x with hyx | hyx
        · obtain ⟨z, hz⟩ : ∃ z, cmpN y x = z := ⟨_, rfl⟩
          have hz0 : z < 0 := by rw [← hz]; exact cmpN_le hyx
          have Hz := Lib.hid hz
          have Hyx := Lib.hid hyx
          clear hz hyx
          refine (compare_num VC V7 y x _ HNC.out.2.2.2.2 HNC.out.1 hly hlx6).mono ?_
          rw [Hz.out]
          rintro e wD ⟨rfl, hqD⟩
          have hbD := hqD.below
          have HND := Lib.hid (show Num wD VC y ∧ Num wD (.slice A L c) a ∧ Num wD V8 k ∧ Num wD V9 n from ⟨HNC.out.2.2.2.2.below hbD, HNC.out.2.1.below hbD, HNC.out.2.2.1.below hbD, HNC.out.2.2.2.1.below hbD⟩)
          have HWD := Lib.hid (HWC.out.trans (hbD.mono HWC.out.size))
          clear hqD hbD
          go_wp2_with fail
          go_roundg y
          case measure => have := Hgx.out; have := Hyx.out; omega
          case rel =>
            refine ⟨_, rfl, HND, Lib.hid ⟨?_, ?_⟩, HWD⟩
            · have h := Hnew.out.1
              rwa [Hy.out] at h
            · have := HI.out.2; have := Hyx.out; omega
        · obtain ⟨z, hz⟩ : ∃ z, cmpN y x = z := ⟨_, rfl⟩
          have hz0 : 0 ≤ z := by rw [← hz]; exact cmpN_ge hyx
          have Hz := Lib.hid hz
          have Hrx := Lib.hid (Hnew.out.2.2 (by rw [Hy.out]; exact hyx))
          clear hz hyx
          refine (compare_num VC V7 y x _ HNC.out.2.2.2.2 HNC.out.1 hly hlx6).mono ?_
          rw [Hz.out]
          rintro e wD ⟨rfl, hqD⟩
          have hbD := hqD.below
          have Hf := Lib.hid (HR.out V7 wD (by rw [Hrx.out]; exact HNC.out.1.below hbD) (HWC.out.trans (hbD.mono HWC.out.size)))
          clear hqD hbD
          go_wp2_with fail
          exact Hf.out
end
end Go.Proofs.YtndcijkgaadpgaaGreatDoor
