/-
  Contracts of the first reference's Mul, DivMod, Gcd and the second's of, reduce, Make, Mul; each states its condition.
-/
import Derived.Test.YtojbldoekalbnaaGreatNQx
namespace Go.Proofs.YtojbldoekalbnaaGreat
section
open Go.RowKit
theorem run_mkN (m : Nat) (hm : m ≤ 4000000) (w : World) (k : IntKind) : (Instr.makeSlice 104 (.int k (m : Int)) (.int k (m : Int))).run Tryz.prog w = .ok (.slice (some ⟨w.heap.size, 0, none⟩) m m) (w.alloc (.cells (madeCells #[Value.int .u32 0] m) 137)) :=
  run_make_row' 104 137 (.int .u32 0) 4 Tryz.underlying104 infoU rfl k k m (by omega) (by omega) w
set_option maxRecDepth 16000 in
set_option maxHeartbeats 4000000 in
theorem rmul_any (V V2 : Value) (a b : Nat) (w : World) (g1 : Num w V a) (g2 : Num w V2 b) (hla : ln a ≤ 100000) (hlb : ln b ≤ 100000) :
    Calls Tryz.prog 101 #[V, V2] w (GetsNum w (a * b)) := by
  obtain ⟨A, n, c, rfl, hnc, h1⟩ := g1
  obtain ⟨B, m, d, rfl, hmd, h2⟩ := g2
  have hn : n ≤ 100000 := by rw [h1.1]; exact hla
  have hm : m ≤ 100000 := by rw [h2.1]; exact hlb
  refine calls_cps ?_
  intro R hR
  have HR := Lib.hid (show ∀ V W, Num W V (a * b) → Below w.heap.size w W → R (.returned V) W from fun V W g1 g2 => hR.out _ _ ⟨V, rfl, g1, g2⟩)
  have H := Lib.hid (And.intro h1 h2)
  clear hR h1 h2 hla hlb
  have hmk : (Instr.makeSlice 104 (.int .i64 ((n : Int) + (m : Int) + 1)) (.int .i64 ((n : Int) + (m : Int) + 1))).run Tryz.prog w = .ok (.slice (some ⟨w.heap.size, 0, none⟩) (n + m + 1) (n + m + 1)) (w.alloc (.cells (madeCells #[Value.int .u32 0] (n + m + 1)) 137)) := by
    have h := run_mkN (n + m + 1) (by omega) w .i64
    rwa [Int.natCast_add, Int.natCast_add] at h
  have HB := Lib.hid (BlkU.new w (n + m + 1))
  have Hb := Lib.hid (below_new w (.cells (madeCells #[Value.int .u32 0] (n + m + 1)) 137))
  obtain ⟨W1, hW1⟩ : ∃ W1, w.alloc (.cells (madeCells #[Value.int .u32 0] (n + m + 1)) 137) = W1 := ⟨_, rfl⟩
  obtain ⟨g, hg⟩ : ∃ g, w.heap.size = g := ⟨_, rfl⟩
  rw [hW1] at HB Hb hmk
  rw [hg] at HB Hb hmk
  have Hg := Lib.hid hg
  clear hW1 hg
  go_enter Tryz.func101, Tryz.ntmps101
  go_wp2_with fail
  go_loopw [6, 7, 8, 9] (fun s6 _ _ _ wr => ∃ (i : Nat) (o : Nat → Nat), s6 = .int .i64 (i : Nat) ∧ i ≤ n ∧ Hid (BlkU wr g (n + m + 1) o ∧ fv o (n + m + 1) = fv (lim a) i * b ∧ (∀ k, i + m ≤ k → k < n + m + 1 → o k = 0)) ∧ Hid (Below g w wr)) (fun s6 _ _ _ _ => n - (intOf s6).toNat)
  case atStart => exact ⟨0, fun _ => 0, rfl, Nat.zero_le _, Lib.hid ⟨HB.out, by rw [fv_zero]; simp [fv], fun _ _ _ => rfl⟩, Hb⟩
  case round =>
    obtain ⟨i, o, rfl, hi, HI, HW⟩ := hrel
    obtain ⟨wo, rfl⟩ : ∃ wo : World, wo = wr := ⟨_, rfl⟩
    by_cases hlt : i < n
    · have i1 : (i : Int) < (n : Int) := by omega
      have hx := lim_lt a i
      obtain ⟨x, hxx⟩ : ∃ x, lim a i = x := ⟨_, rfl⟩
      rw [hxx] at hx
      have Hxx := Lib.hid hxx
      clear hxx
      go_wp2_with fail
      go_loopw [7, 8, 9] (fun s7 s8 _ wr => ∃ (j cy : Nat) (o : Nat → Nat), s7 = .int .u64 (cy : Nat) ∧ s8 = .int .i64 (j : Nat) ∧ j ≤ m ∧ cy < 4294967296 ∧ Hid (BlkU wr g (n + m + 1) o ∧ fv o (n + m + 1) + cy * pw (i + j) = fv (lim a) i * b + x * pw i * fv (lim b) j ∧ (∀ k, i + m ≤ k → k < n + m + 1 → o k = 0)) ∧ Hid (Below g w wr)) (fun _ s8 _ _ => m - (intOf s8).toNat)
      case atStart => exact ⟨0, 0, o, rfl, rfl, Nat.zero_le _, by omega, Lib.hid ⟨HI.out.1, by rw [HI.out.2.1]; simp [fv], HI.out.2.2⟩, HW⟩
      case round =>
        obtain ⟨j, cy, o2, rfl, rfl, hj, hcy, HI2, HW2⟩ := hrel
        by_cases hjt : j < m
        · have j1 : (j : Int) < (m : Int) := by omega
          obtain ⟨bl, oa, rfl, hbl, q0⟩ := (H.out.1.2.below (by rw [Hg.out]; exact HW2.out)).at_ hlt
          rw [Hxx.out] at q0
          obtain ⟨bl2, ob, rfl, hbl2, r0⟩ := (H.out.2.2.below (by rw [Hg.out]; exact HW2.out)).at_ hjt
          have hy := lim_lt b j
          obtain ⟨y, hyy⟩ : ∃ y, lim b j = y := ⟨_, rfl⟩
          rw [hyy] at r0 hy
          have f0 := HI2.out.1.frozen
          have c0 := HI2.out.1.cell (i := i + j) (by omega)
          have hz := HI2.out.1.1 (i + j) (by omega)
          obtain ⟨z, hzz⟩ : ∃ z, o2 (i + j) = z := ⟨_, rfl⟩
          rw [hzz] at c0 hz
          have hmb := mul_bound hx hy hz hcy
          obtain ⟨t, ht⟩ : ∃ t, x * y + z + cy = t := ⟨_, rfl⟩
          obtain ⟨p, hp⟩ : ∃ p, x * y = p := ⟨_, rfl⟩
          have hpi : (x : Int) * (y : Int) = (p : Int) := by rw [← hp]; simp
          have hxy : (p : Int) + (z : Int) + (cy : Int) = (t : Int) := by rw [← ht, ← hp]; simp
          have htl : t < 18446744073709551616 := by omega
          have hpl : p + z < 18446744073709551616 := by omega
          have Hn := Lib.hid (show BlkU ((wr.drewN 0).setCell ⟨g, i + j, none⟩ (.int .u32 ((t % 4294967296 : Nat) : Int))) g (n + m + 1) (upd1 o2 (i + j) (t % 4294967296)) ∧ fv (upd1 o2 (i + j) (t % 4294967296)) (n + m + 1) + t / 4294967296 * pw (i + (j + 1)) = fv (lim a) i * b + x * pw i * fv (lim b) (j + 1) ∧ (∀ k, i + m ≤ k → k < n + m + 1 → upd1 o2 (i + j) (t % 4294967296) k = 0) from by
            refine ⟨(HI2.out.1.drewN 0).set _ _ (Nat.mod_lt _ (by omega)), ?_, fun k k1 k2 => by rw [upd1_ne (by omega)]; exact HI2.out.2.2 k k1 k2⟩
            rw [← Nat.add_assoc, row_step (x := x) (bj := y) (by omega) HI2.out.2.1 (by rw [← ht, hzz]), fv_succ, hyy, school_alg])
          have Hset := Lib.hid (fun q => HI2.out.1.drewN q |>.set (i + j) (t % 4294967296) (Nat.mod_lt _ (by omega)))
          have e1 : (t : Int) % 4294967296 = ((t % 4294967296 : Nat) : Int) := by simp
          have e2 : (t : Int) / 4294967296 = ((t / 4294967296 : Nat) : Int) := by simp
          have ht2 : t / 4294967296 < 4294967296 := by omega
          obtain ⟨tl, htl'⟩ : ∃ x, t % 4294967296 = x := ⟨_, rfl⟩
          obtain ⟨th, hth'⟩ : ∃ x, t / 4294967296 = x := ⟨_, rfl⟩
          rw [htl'] at e1 Hn Hset
          rw [hth'] at e2 Hn ht2
          have e3 : (tl : Int) % 4294967296 = (tl : Int) := by omega
          have z2 : ((i : Int) + (j : Int)).toNat = i + j := by omega
          clear hyy hzz ht hp hmb htl' hth'
          go_wp2_with fail
          go_quiet (fail)
          go_wp2_with fail
          exact ⟨⟨j + 1, th, _, by rfl, by go_num, by omega, ht2, Lib.hid ⟨Hset.out _, Hn.out.2⟩, Lib.hid ((below_drewN HW2.out _).setCell (by simp) _)⟩, by simp [intOf]; omega⟩
        · obtain rfl : m = j := by omega
          have f0 := HI2.out.1.frozen
          have c0 := HI2.out.1.cell (i := i + m) (by omega)
          have hcm : (cy : Int) % 4294967296 = (cy : Int) := by omega
          have Hn := Lib.hid (show BlkU (wr.setCell ⟨g, i + m, none⟩ (.int .u32 (cy : Nat))) g (n + m + 1) (upd1 o2 (i + m) cy) ∧ fv (upd1 o2 (i + m) cy) (n + m + 1) = fv (lim a) (i + 1) * b ∧ (∀ k, i + 1 + m ≤ k → k < n + m + 1 → upd1 o2 (i + m) cy k = 0) from by
            refine ⟨HI2.out.1.set _ _ hcy, ?_, fun k k1 k2 => by rw [upd1_ne (by omega)]; exact HI2.out.2.2 k (by omega) k2⟩
            have h := fv_upd (f := o2) (k := i + m) (x := cy) (n := n + m + 1) (by omega)
            rw [HI2.out.2.2 (i + m) (Nat.le_refl _) (by omega), Nat.zero_mul, Nat.add_zero] at h
            rw [h, HI2.out.2.1, H.out.2.val, fv_succ, Hxx.out, Nat.add_mul])
          go_wp2_with fail
          exact ⟨⟨i + 1, _, by go_num, by omega, Hn, Lib.hid (HW2.out.setCell (by simp) _)⟩, by simp [intOf]; omega⟩
    · obtain rfl : n = i := by omega
      have Hset := Lib.hid (show Rd wo (some ⟨g, 0, none⟩) (n + m + 1) o ∧ fv o (n + m + 1) = a * b from ⟨HI.out.1.rd0 _ (Nat.le_refl _), by rw [HI.out.2.1, H.out.1.val]⟩)
      go_wp2_with fail
      refine (rtrim_any (some ⟨g, 0, none⟩) (n + m + 1) (n + m + 1) (a * b) o wo Hset.out.1 (by omega) Hset.out.2).mono ?_
      rintro e w6 ⟨V6, rfl, hV6, hb6⟩
      have Hf := Lib.hid (HR.out V6 w6 hV6 (by rw [Hg.out]; exact HW.out.trans (hb6.mono (by have := HW.out.size; rw [Hg.out] at this; exact this))))
      clear hV6 hb6
      go_wp2_with fail
      exact Hf.out
set_option maxHeartbeats 1000000 in
theorem rtimes_any (V : Value) (a v : Nat) (w : World) (g1 : Num w V a) (hla : ln a ≤ 100000) (hv : v < 4294967296) :
    Calls Tryz.prog 152 #[V, .int .u32 (v : Nat)] w (GetsNum w (a * v)) := by
  refine calls_cps ?_
  intro R hR
  have HR := Lib.hid (show ∀ V W, Num W V (a * v) → Below w.heap.size w W → R (.returned V) W from fun V W g1 g2 => hR.out _ _ ⟨V, rfl, g1, g2⟩)
  have G1 := Lib.hid g1
  have hlv : ln v ≤ 100000 := Nat.le_trans ((ln_le_iff 1 v).2 (by rw [pw_one]; exact hv)) (by omega)
  have hv64 : v < 18446744073709551616 := by omega
  clear hR g1
  go_enter Tryz.func152, Tryz.ntmps152
  go_wp2_with (first
    | ((with_reducible refine (rOf_any v _ hv64).mono ?_); rintro e w1 ⟨V1, rfl, hV1, hb1⟩)
    | ((with_reducible refine (rmul_any V V1 a v _ (G1.out.below hb1) hV1 hla hlv).mono ?_); rintro e w2 ⟨V2, rfl, hV2, hb2⟩))
  exact HR.out _ _ hV2 (hb1.trans (hb2.mono hb1.size))
end
section
open Go.RowKit
theorem limb_room (m k : Nat) : lim (m * 2 ^ (k + 1)) (k / 32) + 2 ^ (k % 32) < 4294967296 := by
  obtain ⟨r, hr⟩ : ∃ r, k % 32 = r := ⟨_, rfl⟩
  obtain ⟨q, hq⟩ : ∃ q, k / 32 = q := ⟨_, rfl⟩
  have hr32 : r < 32 := by omega
  rw [hr, hq]
  have e : m * 2 ^ (k + 1) = m * 2 ^ (r + 1) * pw q := by
    rw [pw_two, Nat.mul_assoc, ← Nat.pow_add, show r + 1 + 32 * q = k + 1 by omega]
  unfold lim
  rw [e, Nat.mul_div_cancel _ (pw_pos q)]
  have e2 : (4294967296 : Nat) = 2 ^ (31 - r) * 2 ^ (r + 1) := by
    rw [← Nat.pow_add, show 31 - r + (r + 1) = 32 by omega]
  have h1 : m * 2 ^ (r + 1) % 4294967296 = m % 2 ^ (31 - r) * 2 ^ (r + 1) := by
    rw [e2, Nat.mul_mod_mul_right]
  rw [h1]
  have h2 : m % 2 ^ (31 - r) < 2 ^ (31 - r) := Nat.mod_lt _ (Nat.pow_pos (by omega))
  have h3 : (m % 2 ^ (31 - r) + 1) * 2 ^ (r + 1) ≤ 2 ^ (31 - r) * 2 ^ (r + 1) := Nat.mul_le_mul_right _ h2
  rw [Nat.add_mul, Nat.one_mul, ← e2, Nat.pow_succ] at h3
  have h4 : 0 < 2 ^ r := Nat.pow_pos (by omega)
  rw [Nat.pow_succ]
  omega
/-- One binary digit of a long division. -/
theorem bin_step {a b k X : Nat} (hb : 0 < b) (hX : X = a / 2 ^ (k + 1) % b * 2 + a / 2 ^ k % 2) :
    (X < b → a / 2 ^ k / b = 2 * (a / 2 ^ (k + 1) / b) ∧ a / 2 ^ k % b = X) ∧ (b ≤ X → a / 2 ^ k / b = 2 * (a / 2 ^ (k + 1) / b) + 1 ∧ a / 2 ^ k % b = X - b) := by
  have e : a / 2 ^ k = 2 * (a / 2 ^ (k + 1)) + a / 2 ^ k % 2 := by
    rw [Nat.pow_succ, ← Nat.div_div_eq_div_mul]
    have := Nat.div_add_mod (a / 2 ^ k) 2
    omega
  obtain ⟨y, hy⟩ : ∃ y, a / 2 ^ (k + 1) = y := ⟨_, rfl⟩
  obtain ⟨z, hz⟩ : ∃ z, a / 2 ^ k % 2 = z := ⟨_, rfl⟩
  rw [hy, hz] at e hX
  rw [hy, e]
  have h1 := Nat.div_add_mod y b
  have h2 := Nat.mod_lt y hb
  obtain ⟨q, hq⟩ : ∃ q, y / b = q := ⟨_, rfl⟩
  obtain ⟨r, hr⟩ : ∃ r, y % b = r := ⟨_, rfl⟩
  rw [hq, hr] at h1
  rw [hr] at hX h2
  rw [hq]
  have hz1 : z ≤ 1 := by have := Nat.mod_lt (a / 2 ^ k) (show 0 < 2 by omega); omega
  have e2 : 2 * y + z = b * (2 * q) + X := by
    rw [← h1, Nat.mul_left_comm b 2 q]; omega
  refine ⟨fun h => ?_, fun h => ?_⟩
  · rw [e2, Nat.mul_add_div hb, Nat.mul_add_mod, Nat.div_eq_of_lt h, Nat.mod_eq_of_lt h]
    exact ⟨Nat.add_zero _, rfl⟩
  · have e3 : b * (2 * q) + X = b * (2 * q + 1) + (X - b) := by rw [Nat.mul_add, Nat.mul_one]; omega
    have h5 : X - b < b := by omega
    rw [e2, e3, Nat.mul_add_div hb, Nat.mul_add_mod, Nat.div_eq_of_lt h5, Nat.mod_eq_of_lt h5]
    exact ⟨Nat.add_zero _, rfl⟩
theorem rtimes_two (V : Value) (a : Nat) (w : World) (g1 : Num w V a) (hla : ln a ≤ 100000) :
    Calls Tryz.prog 152 #[V, .int .u32 2] w (GetsNum w (a * 2)) := rtimes_any V a 2 w g1 hla (by omega)
set_option maxRecDepth 16000 in
set_option maxHeartbeats 4000000 in
theorem rdivmod_any (V V2 : Value) (a b : Nat) (w : World) (g1 : Num w V a) (g2 : Num w V2 b) (hla : ln a ≤ 20000) (hlb : ln b ≤ 20000) (hb : 0 < b) :
    Calls Tryz.prog 121 #[V, V2] w (PartP w (a / b) (a % b)) := by
  have G1 := Lib.hid g1
  have G2 := Lib.hid g2
  obtain ⟨A, n, c, rfl, hnc, h1⟩ := g1
  have hn : n ≤ 20000 := by rw [h1.1]; exact hla
  refine calls_cps ?_
  intro R hR
  have HR := Lib.hid (show ∀ V1 V2 W, Num W V1 (a / b) → Num W V2 (a % b) → Below w.heap.size w W → R (.returned (.tuple #[V1, V2])) W from fun V1 V2 W g1 g2 g3 => hR.out _ _ ⟨V1, V2, rfl, g1, g2, g3⟩)
  obtain ⟨K, hK⟩ : ∃ K, bitsN a = K := ⟨_, rfl⟩
  have hKn : K ≤ 32 * n := by rw [← hK, h1.1]; exact bits_le_ln a
  have HK := Lib.hid hK
  have Hb := Lib.hid hb
  have Han := Lib.hid (show a / b < pw n from Nat.lt_of_le_of_lt (Nat.div_le_self _ _) h1.lt)
  have ln6 : ln a ≤ 600000 := by omega
  have ln7 : ln b ≤ 600000 := by omega
  have Hlb := Lib.hid hlb
  clear hR hK hb h1 hla hlb
  have hmk : (Instr.makeSlice 104 (.int .i64 (n : Int)) (.int .i64 (n : Int))).run Tryz.prog w = .ok (.slice (some ⟨w.heap.size, 0, none⟩) n n) (w.alloc (.cells (madeCells #[Value.int .u32 0] n) 137)) := run_mkN n (by omega) w .i64
  have HB := Lib.hid (BlkU.new w n)
  have HbA := Lib.hid (below_new w (.cells (madeCells #[Value.int .u32 0] n) 137))
  have Hgs0 := Lib.hid (show w.heap.size < (w.alloc (.cells (madeCells #[Value.int .u32 0] n) 137)).heap.size by simp)
  obtain ⟨W1, hW1⟩ : ∃ W1, w.alloc (.cells (madeCells #[Value.int .u32 0] n) 137) = W1 := ⟨_, rfl⟩
  obtain ⟨g, hg⟩ : ∃ g, w.heap.size = g := ⟨_, rfl⟩
  rw [hW1] at HB HbA hmk Hgs0
  rw [hg] at HB HbA hmk Hgs0
  have Hg := Lib.hid hg
  clear hW1 hg
  go_enter Tryz.func121, Tryz.ntmps121
  go_upto_region 2 with fail
  clear hmk
  have HB2 := Lib.hid (HB.out.below (below_new W1 (.cells #[] 137)))
  have Hb2 := Lib.hid (HbA.out.trans ((below_new W1 (.cells #[] 137)).mono (Nat.le_of_lt Hgs0.out)))
  have H2 := Lib.hid (show Num (W1.alloc (.cells #[] 137)) (.slice A n c) a ∧ Num (W1.alloc (.cells #[] 137)) V2 b from ⟨G1.out.below (by rw [Hg.out]; exact Hb2.out), G2.out.below (by rw [Hg.out]; exact Hb2.out)⟩)
  go_upto_region 4 with ((with_reducible refine (rbits_any _ a _ H2.out.1 ln6).mono ?_); rw [HK.out]; rintro e w' ⟨rfl, hw⟩; subst hw)
  obtain ⟨W2, hW2⟩ : ∃ W, W1.alloc (.cells #[] 137) = W := ⟨_, rfl⟩
  obtain ⟨g2, hg2⟩ : ∃ g, W1.heap.size = g := ⟨_, rfl⟩
  rw [hW2] at HB2 Hb2 H2 ⊢
  rw [hg2]
  clear hW2 hg2 HB HbA
  go_wp2_with fail
  go_loopw [7, 8, 9, 10] (fun s7 s8 _ _ wr => ∃ (V7 : Value) (k : Nat) (fq : Nat → Nat), V7 = s7 ∧ s8 = .int .i64 ((k : Int) - 1) ∧ k ≤ K ∧ Hid (Num wr V7 (a / 2 ^ k % b) ∧ Num wr (.slice A n c) a ∧ Num wr V2 b) ∧ Hid (BlkU wr g n fq ∧ fv fq n = a / 2 ^ k / b * 2 ^ k) ∧ Hid (Below g w wr)) (fun _ s8 _ _ _ => (intOf s8 + 1).toNat)
  case atStart =>
    have h0 : a / 2 ^ K = 0 := Nat.div_eq_of_lt (by rw [← HK.out]; exact lt_two_bits a)
    refine ⟨_, K, fun _ => 0, rfl, rfl, Nat.le_refl _, Lib.hid ⟨?_, H2.out.1, H2.out.2⟩, Lib.hid ⟨HB2.out, ?_⟩, Hb2⟩
    · rw [h0, Nat.zero_mod]
      exact ⟨_, 0, 0, rfl, Nat.le_refl _, Nm.zero _ _⟩
    · rw [h0, Nat.zero_div, Nat.zero_mul, fv_zero]
  case round =>
    obtain ⟨V7, k, fq, rfl, rfl, hk, HN, HI, HW⟩ := hrel
    have hsz : g ≤ wr.heap.size := by have := HW.out.size; rw [Hg.out] at this; exact this
    rcases k with _ | k
    · have Hq := Lib.hid (show Rd wr (some ⟨g, 0, none⟩) n fq ∧ fv fq n = a / b ∧ Num wr V7 (a % b) from ⟨HI.out.1.rd0 _ (Nat.le_refl _), by have h := HI.out.2; rwa [Nat.pow_zero, Nat.div_one, Nat.mul_one] at h, by have h := HN.out.1; rwa [Nat.pow_zero, Nat.div_one] at h⟩)
      go_wp2_with fail
      refine (rtrim_any (some ⟨g, 0, none⟩) n n (a / b) fq wr Hq.out.1 (by omega) Hq.out.2.1).mono ?_
      rintro e w6 ⟨V6, rfl, hV6, hb6⟩
      have Hf := Lib.hid (HR.out V6 V7 w6 hV6 (Hq.out.2.2.below hb6) (by rw [Hg.out]; exact HW.out.trans (hb6.mono hsz)))
      clear hV6 hb6
      go_wp2_with fail
      first | exact Hf.out | (go_ret2; exact Hf.out)
    · have i0 : (0 : Int) ≤ (k : Int) := by omega
      have hk20 : k ≤ 20000000 := by omega
      obtain ⟨r, hr⟩ : ∃ r, a / 2 ^ (k + 1) % b = r := ⟨_, rfl⟩
      obtain ⟨z, hz⟩ : ∃ z, a / 2 ^ k % 2 = z := ⟨_, rfl⟩
      have hz2 : z < 18446744073709551616 := by omega
      have Hbit := Lib.hid (fun W h => rbit_any (.slice A n c) a k W h hk20)
      rw [hz] at Hbit
      obtain ⟨X, hX⟩ : ∃ X, r * 2 + z = X := ⟨_, rfl⟩
      have Hbs := Lib.hid (bin_step (a := a) (b := b) (k := k) (X := X) Hb.out (by rw [hr, hz, hX]))
      rw [hr] at HN
      have hrb : r < b := by rw [← hr]; exact Nat.mod_lt _ Hb.out
      have hlr : ln r ≤ 20000 := Nat.le_trans (ln_mono (Nat.le_of_lt hrb)) Hlb.out
      have hlr2 : ln (r * 2) ≤ 20001 := Nat.le_trans (ln_mul_le _ _) (by have : ln 2 ≤ 1 := (ln_le_iff 1 2).2 (by rw [pw_one]; omega); omega)
      have hlz : ln z ≤ 100000 := Nat.le_trans ((ln_le_iff 1 z).2 (by rw [pw_one]; omega)) (by omega)
      have hlX : ln X ≤ 20003 := by
        rw [← hX]
        refine Nat.le_trans (ln_add_le _ _) ?_
        have : ln z ≤ 1 := (ln_le_iff 1 z).2 (by rw [pw_one]; omega)
        omega
      have Hadd := Lib.hid (fun V V' W h h' => radd_any V V' (r * 2) z W h h' (by omega) hlz)
      rw [hX] at Hadd
      have HX := Lib.hid hX
      have Hr := Lib.hid hr
      have zi : IntKind.u64.wrap (z : Int) = (z : Int) := IntWalk.u64_in _ (by omega)
      have hlrr : ln r ≤ 100000 := by omega
      have hX6 : ln X ≤ 600000 := by omega
      have hX1 : ln X ≤ 100000 := by omega
      clear hr hz hX hlr hlr2
      go_upto_region 7 with (first
        | ((with_reducible refine (rtimes_two V7 r _ HN.out.1 hlrr).mono ?_); rintro e w1 ⟨V1, rfl, hV1, hb1⟩; have H1 := Lib.hid (show Num w1 V1 (r * 2) ∧ Num w1 (.slice A n c) a ∧ Num w1 V2 b from ⟨hV1, HN.out.2.1.below hb1, HN.out.2.2.below hb1⟩); have Hb1 := Lib.hid hb1; clear hV1 hb1)
        | ((with_reducible refine (Hbit.out _ H1.out.2.1).mono ?_); rintro e w' ⟨rfl, hw⟩; subst hw)
        | ((with_reducible refine (rOf_any z _ hz2).mono ?_); rintro e w2 ⟨V3, rfl, hV3, hb2⟩; have H3 := Lib.hid (show Num w2 V1 (r * 2) ∧ Num w2 (.slice A n c) a ∧ Num w2 V2 b ∧ Num w2 V3 z from ⟨H1.out.1.below hb2, H1.out.2.1.below hb2, H1.out.2.2.below hb2, hV3⟩); have Hb3 := Lib.hid (Hb1.out.trans (hb2.mono Hb1.out.size)); clear hV3 hb2)
        | ((with_reducible refine (Hadd.out V1 V3 _ H3.out.1 H3.out.2.2.2).mono ?_); rintro e w3 ⟨V4, rfl, hV4, hb4⟩; have H4 := Lib.hid (show Num w3 V4 X ∧ Num w3 (.slice A n c) a ∧ Num w3 V2 b from ⟨hV4, H3.out.2.1.below hb4, H3.out.2.2.1.below hb4⟩); have Hb4 := Lib.hid (Hb3.out.trans (hb4.mono Hb3.out.size)); clear hV4 hb4))
      obtain ⟨cz, hcz⟩ : ∃ cz, cmpN X b = cz := ⟨_, rfl⟩
      have Hcz := Lib.hid hcz
      rcases Nat.lt_or_ge X b with hlt | hge
      · have hc0 : cz < 0 := by rw [← hcz]; exact cmpN_le hlt
        have Hs := Lib.hid (Hbs.out.1 hlt)
        clear hcz hlt
        go_wp2_with ((with_reducible refine (rcmp_any V4 V2 X b _ H4.out.1 H4.out.2.2 hX6 ln7).mono ?_); rw [Hcz.out]; rintro e w5 ⟨rfl, hq5⟩)
        have hb5 := Hb4.out.trans (hq5.below.mono Hb4.out.size)
        refine ⟨⟨V4, k, fq, rfl, by go_num, by omega, Lib.hid ⟨by rw [Hs.out.2]; exact H4.out.1.below hq5.below, H4.out.2.1.below hq5.below, H4.out.2.2.below hq5.below⟩, Lib.hid ⟨HI.out.1.below hb5, ?_⟩, Lib.hid (HW.out.trans (hb5.mono hsz))⟩, by simp [intOf]⟩
        rw [HI.out.2, Hs.out.1, Nat.pow_succ]; ac_rfl
      · have hc0 : 0 ≤ cz := by rw [← hcz]; exact cmpN_ge hge
        have Hs := Lib.hid (Hbs.out.2 hge)
        have hXb : b ≤ X := hge
        clear hcz hge
        obtain ⟨kq, hkq⟩ : ∃ q, k / 32 = q := ⟨_, rfl⟩
        obtain ⟨kr, hkr⟩ : ∃ q, k % 32 = q := ⟨_, rfl⟩
        have kqi : (k : Int) / 32 = (kq : Int) := by omega
        have kri : (k : Int) % 32 = (kr : Int) := by omega
        have hkqn : kq < n := by omega
        have kqn : (kq : Int) < (n : Int) := by omega
        have kq0 : (0 : Int) ≤ (kq : Int) := by omega
        have hkr32 : kr < 32 := by omega
        have Hroom := Lib.hid (show fq kq + 2 ^ kr < 4294967296 from by
          have h1 := limb_room (a / 2 ^ (k + 1) / b) k
          rw [← HI.out.2, hkq, hkr, lim_fv HI.out.1.1 hkqn] at h1
          exact h1)
        have Hpk := Lib.hid (show 2 ^ kr * pw kq = 2 ^ k by rw [pw_two, ← Nat.pow_add, show kr + 32 * kq = k by omega])
        clear hkq hkr
        go_upto_region 9 with (first
          | ((with_reducible refine (rcmp_any V4 V2 X b _ H4.out.1 H4.out.2.2 hX6 ln7).mono ?_); rw [Hcz.out]; rintro e w5 ⟨rfl, hq5⟩; have Hb5 := Lib.hid (Hb4.out.trans (hq5.below.mono Hb4.out.size)); have hgw5 : g + 1 ≤ w5.heap.size := Nat.lt_of_lt_of_le HI.out.1.lt Hb5.out.size; have H5 := Lib.hid (show Num w5 V4 X ∧ Num w5 (.slice A n c) a ∧ Num w5 V2 b from ⟨H4.out.1.below hq5.below, H4.out.2.1.below hq5.below, H4.out.2.2.below hq5.below⟩); clear hq5)
          | ((with_reducible refine (rsub_new V4 V2 X b _ H5.out.1 H5.out.2.2 hX1 hXb).mono ?_); rintro e w6 ⟨V6, rfl, hV6, hb6⟩; have H6 := Lib.hid (hV6.less hgw5); have Hb6 := Lib.hid (Hb5.out.trans (hb6.mono Hb5.out.size)); clear hV6 hb6))
        have HI6 := Lib.hid (HI.out.1.below Hb6.out)
        go_wp2_with fail
        go_loop [9, 10] (fun s9 s10 => ∃ (kk p : Nat), s9 = .int .u32 (p : Nat) ∧ s10 = .int .i64 (kk : Nat) ∧ kk ≤ kr ∧ p < 4294967296 ∧ Hid (p = 2 ^ kk)) (fun _ s10 => kr - (intOf s10).toNat)
        case atStart => exact ⟨0, 1, rfl, rfl, Nat.zero_le _, by omega, Lib.hid (Nat.pow_zero 2).symm⟩
        case round =>
          obtain ⟨kk, p, rfl, rfl, hkk, hp, HP⟩ := hrel
          rcases Nat.lt_or_ge kk kr with hlt2 | hge2
          · have j1 : (kk : Int) < (kr : Int) := by omega
            have hp31 : p ≤ 1073741824 := by
              rw [HP.out]
              have : 2 ^ kk ≤ 2 ^ 30 := Nat.pow_le_pow_right (by omega) (by omega)
              omega
            have Hn := Lib.hid (show p * 2 = 2 ^ (kk + 1) by rw [HP.out, Nat.pow_succ])
            go_wp2_with fail
            exact ⟨⟨kk + 1, p * 2, by simp, by go_num, by omega, by omega, Hn⟩, by simp [intOf]; omega⟩
          · obtain rfl : kr = kk := by omega
            have f0 := HI6.out.frozen
            have c0 := HI6.out.cell (i := kq) hkqn
            have hx := HI6.out.1 kq hkqn
            have hroom := Hroom.out
            rw [← HP.out] at hroom
            obtain ⟨x, hxx⟩ : ∃ x, fq kq = x := ⟨_, rfl⟩
            rw [hxx] at c0 hx hroom
            have hri : (x : Int) + (p : Int) ≤ 4294967295 := by omega
            have Hn := Lib.hid (show BlkU (w6.setCell ⟨g, kq, none⟩ (.int .u32 ((x + p : Nat) : Int))) g n (upd1 fq kq (x + p)) ∧ fv (upd1 fq kq (x + p)) n = a / 2 ^ k / b * 2 ^ k from by
              refine ⟨HI6.out.set kq (x + p) hroom, ?_⟩
              have h := fv_upd (f := fq) (k := kq) (x := x + p) (n := n) hkqn
              rw [hxx, HI.out.2, Nat.add_mul] at h
              have h2 : p * pw kq = 2 ^ k := by rw [HP.out]; exact Hpk.out
              rw [h2] at h
              rw [Hs.out.1, Nat.add_mul, Nat.one_mul]
              have h3 : a / 2 ^ (k + 1) / b * 2 ^ (k + 1) = 2 * (a / 2 ^ (k + 1) / b) * 2 ^ k := by rw [Nat.pow_succ]; ac_rfl
              rw [h3] at h
              omega)
            rw [Int.natCast_add] at Hn
            have HF := Lib.hid (show (Num (w6.setCell ⟨g, kq, none⟩ (.int .u32 ((x : Int) + (p : Int)))) V6 (X - b) ∧ Num (w6.setCell ⟨g, kq, none⟩ (.int .u32 ((x : Int) + (p : Int)))) (.slice A n c) a ∧ Num (w6.setCell ⟨g, kq, none⟩ (.int .u32 ((x : Int) + (p : Int)))) V2 b) ∧ Below g w (w6.setCell ⟨g, kq, none⟩ (.int .u32 ((x : Int) + (p : Int)))) from by
              have hbf : Below g w (w6.setCell ⟨g, kq, none⟩ (.int .u32 ((x : Int) + (p : Int)))) := (HW.out.trans (Hb6.out.mono hsz)).setCell (by simp) _
              have hbw : Below w.heap.size w (w6.setCell ⟨g, kq, none⟩ (.int .u32 ((x : Int) + (p : Int)))) := by rw [Hg.out]; exact hbf
              exact ⟨⟨H6.out.set (Nat.lt_succ_self g), G1.out.below hbw, G2.out.below hbw⟩, hbf⟩)
            clear hxx hroom hge2
            go_wp2_with fail
            exact ⟨⟨V6, k, _, rfl, by go_num, by omega, Lib.hid ⟨by rw [Hs.out.2]; exact HF.out.1.1, HF.out.1.2.1, HF.out.1.2.2⟩, Hn, Lib.hid HF.out.2⟩, by simp [intOf]⟩
end
section
open Go.RowKit
set_option maxRecDepth 16000 in
set_option maxHeartbeats 2000000 in
theorem rgcd_any (V V2 : Value) (a b : Nat) (w : World) (g1 : Num w V a) (g2 : Num w V2 b) (hla : ln a ≤ 20000) (hlb : ln b ≤ 20000) :
    Calls Tryz.prog 97 #[V, V2] w (GetsNum w (Nat.gcd a b)) := by
  have G1 := Lib.hid g1
  obtain ⟨B, m, d, rfl, hmd, h2⟩ := g2
  have G2 := Lib.hid h2
  have hmb : m = ln b := h2.1
  refine calls_cps ?_
  intro R hR
  have HR := Lib.hid (show ∀ V1 W, Num W V1 (Nat.gcd a b) → Below w.heap.size w W → R (.returned V1) W from fun V1 W g1 g2 => hR.out _ _ ⟨V1, rfl, g1, g2⟩)
  have Hla := Lib.hid hla
  have Hlb := Lib.hid hlb
  clear hR g1 h2 hla hlb
  go_enter Tryz.func97, Tryz.ntmps97
  go_upto_block 0 with fail
  go_wp2_with fail
  go_loopg [0, 1, 5, 6] b (fun gk s0 s1 _ _ wr => ∃ (V0 : Value) (x n c : Nat) (A : Option Addr), V0 = s0 ∧ s1 = .slice A n c ∧ n ≤ c ∧ n ≤ 20000 ∧ Hid (Num wr V0 x ∧ Nm wr A n gk) ∧ Hid (ln x ≤ 20000 ∧ ln gk ≤ 20000 ∧ Nat.gcd x gk = Nat.gcd a b) ∧ Hid (Below w.heap.size w wr))
  case atStart => exact ⟨_, a, m, d, B, rfl, rfl, hmd, by rw [hmb]; exact Hlb.out, Lib.hid ⟨G1.out, G2.out⟩, Lib.hid ⟨Hla.out, Hlb.out, rfl⟩, Lib.hid (Below.refl _ _)⟩
  case round =>
    obtain ⟨V0, x, n, c, A, rfl, rfl, hnc, hn, HN, HI, HW⟩ := hrel
    have hng := HN.out.2.1
    rcases Nat.eq_zero_or_pos gk with h0 | h0
    · subst h0
      rw [ln_zero] at hng
      subst hng
      have Hf := Lib.hid (HR.out V0 wr (by rw [← HI.out.2.2, Nat.gcd_zero_right]; exact HN.out.1) HW.out)
      go_wp2_with fail
      exact Hf.out
    · have hnp : 0 < n := by rw [hng]; exact ln_pos (by omega)
      have t1 : (0 : Int) < (n : Int) := by omega
      have hl1 := HI.out.1
      have hl2 := HI.out.2.1
      obtain ⟨y, hy⟩ : ∃ y, gk = y := ⟨_, rfl⟩
      have Hy := Lib.hid hy
      rw [hy] at HN HI hl2 h0
      have HV := Lib.hid (show Num wr (.slice A n c) y from ⟨A, n, c, rfl, hnc, HN.out.2⟩)
      clear hy hng
      go_upto_region 3 with ((with_reducible refine (rdivmod_any V0 (.slice A n c) x y _ HN.out.1 HV.out hl1 hl2 h0).mono ?_); rintro e w1 ⟨V1, V2, rfl, hV1, hV2, hb1⟩)
      have Hb1 := Lib.hid hb1
      have HVy := Lib.hid (HV.out.below hb1)
      obtain ⟨A2, n2, c2, rfl, hnc2, hm2⟩ := hV2
      have Hm2 := Lib.hid hm2
      have hn2 : n2 = ln (x % y) := hm2.1
      have hle : ln (x % y) ≤ 20000 := Nat.le_trans (ln_mono (Nat.mod_le _ _)) hl1
      have hn20 : n2 ≤ 20000 := by omega
      clear hV1 hb1 hm2
      go_wp2_with fail
      go_roundg (x % y)
      case measure => have := Hy.out; have := Nat.mod_lt x h0; omega
      case rel =>
        refine ⟨_, y, n2, c2, A2, rfl, rfl, hnc2, hn20, Lib.hid ⟨HVy.out, Hm2.out⟩, Lib.hid ⟨hl2, hle, ?_⟩, Lib.hid (HW.out.trans (Hb1.out.mono HW.out.size))⟩
        rw [← HI.out.2.2, Nat.gcd_comm y (x % y), ← Nat.gcd_rec, Nat.gcd_comm]
theorem bsize_any (x : Int) (w : World) (h1 : -1000000000000000 ≤ x) (h2 : x ≤ 1000000000000000) :
    Calls Tryz.prog 100 #[.int .i64 x] w fun e w' => e = .returned (.int .u64 (x.natAbs : Nat)) ∧ w = w' := by
  refine calls_cps ?_
  intro R hR
  rcases Int.lt_or_le x 0 with hx | hx
  · have t1 : decide (x < 0) = true := decide_eq_true hx
    have Hf := Lib.hid (hR.out (.returned (.int .u64 (x.natAbs : Nat))) w ⟨rfl, rfl⟩)
    have e : ((x.natAbs : Nat) : Int) = -x := by omega
    rw [e] at Hf
    clear hR e
    go_enter Tryz.func100, Tryz.ntmps100
    go_wp2_with fail
    have e2 : -(x + 1) + 1 = -x := by omega
    rw [← e2] at Hf
    exact Hf.out
  · have t1 : decide (x < 0) = false := decide_eq_false (by omega)
    have Hf := Lib.hid (hR.out (.returned (.int .u64 (x.natAbs : Nat))) w ⟨rfl, rfl⟩)
    have e : ((x.natAbs : Nat) : Int) = x := by omega
    rw [e] at Hf
    clear hR e
    go_enter Tryz.func100, Tryz.ntmps100
    go_wp2_with fail
    exact Hf.out
/-- A signed number of the second reference. -/
def Bg (w : World) (V : Value) (x : Int) : Prop := ∃ A n c, V = .agg #[.bool (decide (x < 0)), .slice A n c] ∧ n ≤ c ∧ Nm w A n x.natAbs
theorem Bg.below {w w' : World} {V : Value} {x : Int} (h : Bg w V x) (hb : Below w.heap.size w w') : Bg w' V x := by
  obtain ⟨A, n, c, e, h1, h2⟩ := h
  exact ⟨A, n, c, e, h1, h2.below hb⟩
theorem set2_heap {W : World} {z : Nat} {t : TypeId} {u0 u1 : Value} (h : W.heap[z]? = some (.cells #[u0, u1] t (0, 0))) (a b : Value) : ((W.setCell ⟨z, 0, none⟩ a).setCell ⟨z, 1, none⟩ b).heap[z]? = some (.cells #[a, b] t (0, 0)) := by
  simp only [World.setCell, Array.getElem?_modify, h]
  simp
set_option maxHeartbeats 2000000 in
theorem bof_any (x : Int) (w : World) (h1 : -1000000000000000 ≤ x) (h2 : x ≤ 1000000000000000) :
    Calls Tryz.prog 65 #[.int .i64 x] w fun e w' => ∃ V, e = .returned V ∧ Bg w' V x ∧ Below w.heap.size w w' := by
  refine calls_cps ?_
  intro R hR
  have HR := Lib.hid (show ∀ V1 W, Bg W V1 x → Below w.heap.size w W → R (.returned V1) W from fun V1 W g1 g2 => hR.out _ _ ⟨V1, rfl, g1, g2⟩)
  obtain ⟨p, hp⟩ : ∃ p, decide (x < 0) = p := ⟨_, rfl⟩
  obtain ⟨v, hv⟩ : ∃ v, x.natAbs = v := ⟨_, rfl⟩
  have hv64 : v < 18446744073709551616 := by omega
  have Hsz := Lib.hid (fun W => bsize_any x W h1 h2)
  rw [hv] at Hsz
  have HF := Lib.hid (show ∀ W A n c, n ≤ c → Nm W A n v → Below w.heap.size w W → R (.returned (.agg #[.bool p, .slice A n c])) W from fun W A n c g1 g2 g3 => HR.out _ _ ⟨A, n, c, by rw [hp], g1, by rw [hv]; exact g2⟩ g3)
  clear hR HR hv
  go_enter Tryz.func65, Tryz.ntmps65
  go_upto_region 1 with fail
  have Hb0 := Lib.hid (below_new w (.cells #[Value.bool false, .slice none 0 0] 106))
  have Hz0 := Lib.hid (heap_alloc_new w (.cells #[Value.bool false, .slice none 0 0] 106))
  have Hzl := Lib.hid (show w.heap.size < (w.alloc (.cells #[Value.bool false, .slice none 0 0] 106)).heap.size by simp)
  obtain ⟨W0, hW0⟩ : ∃ W, w.alloc (.cells #[Value.bool false, .slice none 0 0] 106) = W := ⟨_, rfl⟩
  obtain ⟨z, hze⟩ : ∃ z, w.heap.size = z := ⟨_, rfl⟩
  rw [hW0] at Hz0 Hb0 Hzl ⊢
  rw [hze] at Hz0 Hzl ⊢
  have Hze := Lib.hid hze
  clear hW0 hze
  go_wp2_with (first
    | (go_at_call 100; (with_reducible refine (Hsz.out _).mono ?_); rintro e w' ⟨rfl, hw⟩; subst hw)
    | (go_at_call 99; (with_reducible refine (rOf_new v _ hv64).mono ?_); rintro e w1 ⟨V1, rfl, ⟨A, n, c, rfl, hnc, hN, hB⟩, hb1⟩; have HB1 := Lib.hid hB; have HN1 := Lib.hid hN; have Hz1 := Lib.hid ((hb1.block z Hzl.out).trans Hz0.out); have Hb1 := Lib.hid (Hb0.out.trans (hb1.mono Hb0.out.size)); obtain ⟨z0, z1, z4⟩ := cells2 Hz1.out; clear hN hb1 hB))
  have hs := set2_heap Hz1.out (.bool p) (.slice A n c)
  have hb9 : Below w.heap.size w ((w1.setCell ⟨z, 0, none⟩ (.bool p)).setCell ⟨z, 1, none⟩ (.slice A n c)) := (Hb1.out.setCell (Nat.le_of_eq Hze.out) _).setCell (Nat.le_of_eq Hze.out) _
  have hn9 : Nm ((w1.setCell ⟨z, 0, none⟩ (.bool p)).setCell ⟨z, 1, none⟩ (.slice A n c)) A n v :=
    HN1.out.kx (S := fun j => j = z) (kx_set (S := fun j => j = z) (kx_set (S := fun j => j = z) (Kx.refl _ _) rfl _ _) rfl _ _) (fun hn ad ha hs => by have := HB1.out hn ad ha; have := Hzl.out; omega)
  obtain ⟨y0, y1, -⟩ := cells2 hs
  refine bodyPost_ret (v := .agg #[.bool p, .slice A n c]) ?_ rfl (HF.out _ A n c hnc hn9 hb9)
  simp [results, Tryz.results65, go_sem, y0, y1]
end
section
open Go.RowKit
theorem ln_small {v : Nat} (h : v < 4294967296) : ln v ≤ 1 := (ln_le_iff 1 v).2 (by rw [pw_one]; exact h)
def lowV (x : Int) (g most : Nat) : Int := if x.natAbs / g ≤ most then qd x g else 0
set_option maxRecDepth 16000 in
set_option maxHeartbeats 2000000 in
theorem low_any (p : Bool) (A : Option Addr) (n c : Nat) (Vg : Value) (x : Int) (g most : Nat) (w : World) (h : Bg w (.agg #[.bool p, .slice A n c]) x) (hg : Num w Vg g) (hx : x.natAbs ≤ 1000000000) (hgp : 0 < g) (hgl : g ≤ 1000000000) (hm : most ≤ 1000) :
    Calls Tryz.prog 98 #[.agg #[.bool p, .slice A n c], Vg, .int .i64 (most : Nat)] w fun e w' => e = .returned (.tuple #[.int .i64 (lowV x g most), .bool (decide (x.natAbs / g ≤ most))]) ∧ Below w.heap.size w w' := by
  refine calls_cps ?_
  intro R hR
  obtain ⟨A', n', c', he, hnc, hN⟩ := h
  simp only [Value.agg.injEq, Array.mk.injEq, List.cons.injEq, Value.bool.injEq, Value.slice.injEq, and_true] at he
  obtain ⟨rfl, rfl, rfl, rfl⟩ := he
  obtain ⟨v, hv⟩ : ∃ v, x.natAbs = v := ⟨_, rfl⟩
  obtain ⟨q, hq⟩ : ∃ q, v / g = q := ⟨_, rfl⟩
  have hqv : q ≤ 1000000000 := by rw [← hq]; exact Nat.le_trans (Nat.div_le_self _ _) (by omega)
  have hq64 : q < 18446744073709551616 := by omega
  have hqd : qd x g = if x < 0 then -(q : Int) else (q : Int) := by unfold qd; rw [hv, hq]
  unfold lowV at hR
  rw [hqd, hv, hq] at hR
  rw [hv] at hN
  have Hsm := Lib.hid (fun V W (h : Num W V q) => rsmall_any V q W h (Nat.le_trans (ln_small (by omega)) (by omega)))
  rw [if_pos hq64] at Hsm
  have lv : ln v ≤ 20000 := Nat.le_trans (ln_small (by omega)) (by omega)
  have lg : ln g ≤ 20000 := Nat.le_trans (ln_small (by omega)) (by omega)
  have Hdm := Lib.hid (fun V V2 W (h : Num W V v) (h2 : Num W V2 g) => rdivmod_any V V2 v g W h h2 lv lg hgp)
  rw [hq] at Hdm
  have HN := Lib.hid hN
  have Hg := Lib.hid hg
  clear hN hg hqd hv hq lv lg hgp hgl hx
  have Hb0 := Lib.hid (below_new w (.cells #[Value.bool (decide (x < 0)), .slice A n c] 106))
  have Hz0 := Lib.hid (heap_alloc_new w (.cells #[Value.bool (decide (x < 0)), .slice A n c] 106))
  have Hzl := Lib.hid (show w.heap.size < (w.alloc (.cells #[Value.bool (decide (x < 0)), .slice A n c] 106)).heap.size by simp)
  obtain ⟨s, hs⟩ : ∃ s, decide (x < 0) = s := ⟨_, rfl⟩
  rw [hs] at Hb0 Hz0 Hzl ⊢
  have hq0 : (0 : Int) ≤ (q : Int) := by omega
  have hmi : (most : Int) ≤ 1000 := by omega
  have hm0 : (0 : Int) ≤ (most : Int) := by omega
  have wq : IntKind.i64.wrap (q : Int) = (q : Int) := IntWalk.i64_in _ (by omega)
  have wm : IntKind.u64.wrap (most : Int) = (most : Int) := IntWalk.u64_in _ (by omega)
  have HR := Lib.hid hR
  have Hs := Lib.hid hs
  clear hR hs
  go_enter Tryz.func98, Tryz.ntmps98
  go_upto_region 1 with fail
  obtain ⟨W0, hW0⟩ : ∃ W, w.alloc (.cells #[Value.bool s, .slice A n c] 106) = W := ⟨_, rfl⟩
  obtain ⟨z, hze⟩ : ∃ z, w.heap.size = z := ⟨_, rfl⟩
  rw [hW0] at Hz0 Hb0 Hzl ⊢
  rw [hze] at Hz0 Hzl ⊢
  have HN0 := Lib.hid (show Num W0 (.slice A n c) v from ⟨A, n, c, rfl, hnc, HN.out.below Hb0.out⟩)
  have Hg0 := Lib.hid (Hg.out.below Hb0.out)
  obtain ⟨y0, y1, y4⟩ := cells2 Hz0.out
  clear hW0 hze HN Hg
  go_upto_region 3 with (first
    | (go_at_call 121; (with_reducible refine (Hdm.out _ Vg _ HN0.out Hg0.out).mono ?_); rintro e w1 ⟨V1, V2, rfl, hV1, hV2, hb1⟩; have HV1 := Lib.hid hV1; have Hz1 := Lib.hid ((hb1.block z Hzl.out).trans Hz0.out); have Hb1 := Lib.hid (Hb0.out.trans (hb1.mono Hb0.out.size)); clear hV1 hV2 hb1 y0 y1 y4; obtain ⟨y0, y1, y4⟩ := cells2 Hz1.out)
    | (go_at_call 74; (with_reducible refine (Hsm.out V1 _ HV1.out).mono ?_); rintro e w' ⟨rfl, hw⟩; subst hw))
  rcases Nat.lt_or_ge most q with hlt | hge
  · have t1 : decide (most < q) = true := decide_eq_true hlt
    have HF := Lib.hid (show R (.returned (.tuple #[.int .i64 0, .bool false])) w1 from HR.out _ _ ⟨by rw [if_neg (by omega), show decide (q ≤ most) = false from decide_eq_false (by omega)], Hb1.out⟩)
    clear hlt
    go_wp2_with fail
    exact HF.out
  · have t1 : decide (most < q) = false := decide_eq_false (by omega)
    cases s with
    | true =>
      have HF := Lib.hid (show R (.returned (.tuple #[.int .i64 (-(q : Int)), .bool true])) w1 from HR.out _ _ ⟨by rw [if_pos hge, if_pos (of_decide_eq_true Hs.out), show decide (q ≤ most) = true from decide_eq_true hge], Hb1.out⟩)
      clear hge
      go_wp2_with fail
      exact HF.out
    | false =>
      have HF := Lib.hid (show R (.returned (.tuple #[.int .i64 (q : Int), .bool true])) w1 from HR.out _ _ ⟨by rw [if_pos hge, if_neg (of_decide_eq_false Hs.out), show decide (q ≤ most) = true from decide_eq_true hge], Hb1.out⟩)
      clear hge
      go_wp2_with fail
      exact HF.out
theorem low_at (p : Bool) (A : Option Addr) (n c : Nat) (Vg : Value) (x : Int) (g most : Nat) (m v : Int) (q : Bool) (w W : World) (hm1 : (most : Int) = m) (hv : lowV x g most = v) (hq : decide (x.natAbs / g ≤ most) = q) (h : Bg w (.agg #[.bool p, .slice A n c]) x) (hx : x.natAbs ≤ 1000000000) (hgp : 0 < g) (hgl : g ≤ 1000000000) (hm : most ≤ 1000) (hb : Below w.heap.size w W) (hg : Num W Vg g) :
    Calls Tryz.prog 98 #[.agg #[.bool p, .slice A n c], Vg, .int .i64 m] W fun e w' => e = .returned (.tuple #[.int .i64 v, .bool q]) ∧ Below W.heap.size W w' := by
  subst hm1 hv hq
  exact low_any p A n c Vg x g most W (h.below hb) hg hx hgp hgl hm
theorem qd_nat (a : Int) (g : Nat) : (qd a g).natAbs = a.natAbs / g := by
  unfold qd
  split
  · rw [Int.natAbs_neg, Int.natAbs_natCast]
  · rw [Int.natAbs_natCast]
/-- When a reduction is valid. -/
def lowB (a b c d : Int) (g : Nat) : Prop := a.natAbs / g ≤ 960 ∧ b.natAbs / g ≤ 960 ∧ c.natAbs / g ≤ 960 ∧ d.natAbs / g ≤ 24
theorem low_ok {a b c d : Int} (hd : 1 ≤ d) (h : lowB a b c d (g4 a b c d)) : redT a b c d = some (redV a b c d) := by
  have hg : 0 < g4 a b c d := g4_pos (by omega)
  have hdv := (g4_dvd a b c d).2.2.2
  refine redT_yes ((okB_iff _).2 ⟨redV_one hg, ?_, ?_, ?_, ?_, ?_⟩)
  · show 1 ≤ qd d (g4 a b c d)
    unfold qd
    rw [if_neg (by omega)]
    have := Nat.div_pos (Nat.le_of_dvd (by omega) hdv) hg
    omega
  · show qd d (g4 a b c d) ≤ 24
    have := h.2.2.2
    unfold qd
    rw [if_neg (by omega)]
    omega
  · show (qd a (g4 a b c d)).natAbs ≤ 960
    rw [qd_nat]; exact h.1
  · show (qd b (g4 a b c d)).natAbs ≤ 960
    rw [qd_nat]; exact h.2.1
  · show (qd c (g4 a b c d)).natAbs ≤ 960
    rw [qd_nat]; exact h.2.2.1
theorem low_no {a b c d : Int} (_hd : 1 ≤ d) (h : ¬ lowB a b c d (g4 a b c d)) : redT a b c d = none := by
  rcases hk : (redV a b c d).okB with _ | _
  · exact redT_no hk
  · refine absurd ?_ h
    have ho := (okB_iff _).1 hk
    have h1 : (qd a (g4 a b c d)).natAbs ≤ 960 := ho.two
    have h2 : (qd b (g4 a b c d)).natAbs ≤ 960 := ho.three
    have h3 : (qd c (g4 a b c d)).natAbs ≤ 960 := ho.five
    have h4 : 1 ≤ qd d (g4 a b c d) := ho.lo
    have h5 : qd d (g4 a b c d) ≤ 24 := ho.hi
    have h6 : (qd d (g4 a b c d)).natAbs ≤ 24 := by omega
    rw [qd_nat] at h1 h2 h3 h6
    exact ⟨h1, h2, h3, h6⟩
/-- Five blocks laid one after the other. -/
theorem five_new (w : World) (o0 o1 o2 o3 o4 : Obj) {W : World} (hW : ((((w.alloc o0).alloc o1).alloc o2).alloc o3).alloc o4 = W) : (W.heap[w.heap.size]? = some o0 ∧ W.heap[w.heap.size + 1]? = some o1 ∧ W.heap[w.heap.size + 2]? = some o2 ∧ W.heap[w.heap.size + 3]? = some o3 ∧ W.heap[w.heap.size + 4]? = some o4) ∧ w.heap.size + 4 < W.heap.size ∧ Below w.heap.size w W := by
  subst hW
  obtain ⟨⟨a0, a1, a2⟩, -, hb⟩ := three_new w o0 o1 o2 rfl
  obtain ⟨W3, hW3⟩ : ∃ W, ((w.alloc o0).alloc o1).alloc o2 = W := ⟨_, rfl⟩
  have s3 : W3.heap.size = w.heap.size + 3 := by rw [← hW3]; simp
  rw [hW3] at a0 a1 a2 hb ⊢
  have h1 := below_new W3 o3
  have h2 := below_new (W3.alloc o3) o4
  have s4 : (W3.alloc o3).heap.size = w.heap.size + 4 := by simp [s3]
  refine ⟨⟨?_, ?_, ?_, ?_, ?_⟩, by simp [s3], ?_⟩
  · exact (h2.block _ (by omega)).trans ((h1.block _ (by omega)).trans a0)
  · exact (h2.block _ (by omega)).trans ((h1.block _ (by omega)).trans a1)
  · exact (h2.block _ (by omega)).trans ((h1.block _ (by omega)).trans a2)
  · exact (h2.block _ (by omega)).trans (by rw [← s3]; exact heap_alloc_new W3 o3)
  · rw [← s4]; exact heap_alloc_new _ o4
  · exact (hb.trans (h1.mono (by omega))).trans (h2.mono (by omega))
theorem bg_agg {w : World} {V : Value} {x : Int} (h : Bg w V x) : ∃ p A n c, V = .agg #[.bool p, .slice A n c] ∧ Num w (.slice A n c) x.natAbs := by
  obtain ⟨A, n, c, e, h1, h2⟩ := h
  exact ⟨_, A, n, c, e, A, n, c, rfl, h1, h2⟩
set_option maxRecDepth 16000 in
set_option maxHeartbeats 4000000 in
theorem rreduce_any (a b c d : Int) (V0 V1 V2 V3 : Value) (w : World) (h0 : Bg w V0 a) (h1 : Bg w V1 b) (h2 : Bg w V2 c) (h3 : Bg w V3 d) (ha : a.natAbs ≤ 1000000000) (hb : b.natAbs ≤ 1000000000) (hc : c.natAbs ≤ 1000000000) (hd : 1 ≤ d) (hd2 : d ≤ 1000000000) :
    Calls Tryz.prog 64 #[V0, V1, V2, V3] w fun e w' => e = .returned (redRet (redT a b c d)) ∧ Below w.heap.size w w' := by
  refine calls_cps ?_
  intro R hR
  have hd' : d.natAbs ≤ 1000000000 := by omega
  obtain ⟨G, hG⟩ : ∃ G, g4 a b c d = G := ⟨_, rfl⟩
  have hGp : 0 < G := by rw [← hG]; exact g4_pos (by omega)
  have hGl : G ≤ 1000000000 := by
    rw [← hG]
    exact Nat.le_trans (Nat.le_of_dvd (by omega) (g4_dvd a b c d).2.2.2) hd'
  have Hg4 := Lib.hid (show Nat.gcd (Nat.gcd a.natAbs b.natAbs) (Nat.gcd c.natAbs d.natAbs) = G from by rw [← hG]; unfold g4; simp only [Nat.gcd_assoc])
  have Hyes := Lib.hid (show ∀ W va vb vc vd, va = lowV a G 960 → vb = lowV b G 960 → vc = lowV c G 960 → vd = lowV d G 24 → lowB a b c d G → Below w.heap.size w W → R (.returned (.tuple #[.agg #[.int .i64 va, .int .i64 vb, .int .i64 vc, .int .i64 vd], .int .i64 0])) W from fun W va vb vc vd e1 e2 e3 e4 h hb => by
    refine hR.out _ _ ⟨?_, hb⟩
    rw [low_ok hd (by rw [hG]; exact h)]
    unfold redRet redV Tn.val
    rw [hG, e1, e2, e3, e4]
    unfold lowV
    rw [if_pos h.1, if_pos h.2.1, if_pos h.2.2.1, if_pos h.2.2.2])
  have Hno := Lib.hid (show ∀ W, ¬ lowB a b c d G → Below w.heap.size w W → R (.returned (.tuple #[.agg #[.int .i64 0, .int .i64 0, .int .i64 0, .int .i64 0], .int .i64 5])) W from fun W h hb => by
    refine hR.out _ _ ⟨?_, hb⟩
    rw [low_no hd (by rw [hG]; exact h)]
    rfl)
  obtain ⟨p0, A0, n0, c0, rfl, hN0⟩ := bg_agg h0
  obtain ⟨p1, A1, n1, c1, rfl, hN1⟩ := bg_agg h1
  obtain ⟨p2, A2, n2, c2, rfl, hN2⟩ := bg_agg h2
  obtain ⟨p3, A3, n3, c3, rfl, hN3⟩ := bg_agg h3
  have HB := Lib.hid (And.intro h0 (And.intro h1 (And.intro h2 h3)))
  have HN := Lib.hid (And.intro hN0 (And.intro hN1 (And.intro hN2 hN3)))
  have Hl := Lib.hid (show ln a.natAbs ≤ 20000 ∧ ln b.natAbs ≤ 20000 ∧ ln c.natAbs ≤ 20000 ∧ ln d.natAbs ≤ 20000 ∧ ln (Nat.gcd a.natAbs b.natAbs) ≤ 20000 ∧ ln (Nat.gcd c.natAbs d.natAbs) ≤ 20000 from by
    have hs : ∀ v, v ≤ 1000000000 → ln v ≤ 20000 := fun v hv => Nat.le_trans (ln_small (by omega)) (by omega)
    have k1 : Nat.gcd a.natAbs b.natAbs ≤ 1000000000 := by
      rcases Nat.eq_zero_or_pos a.natAbs with h | h
      · rw [h, Nat.gcd_zero_left]; exact hb
      · exact Nat.le_trans (Nat.gcd_le_left _ h) ha
    have k2 : Nat.gcd c.natAbs d.natAbs ≤ 1000000000 := Nat.le_trans (Nat.gcd_le_right _ (by omega)) hd'
    exact ⟨hs _ ha, hs _ hb, hs _ hc, hs _ hd', hs _ k1, hs _ k2⟩)
  have Hab := Lib.hid (show a.natAbs ≤ 1000000000 ∧ b.natAbs ≤ 1000000000 ∧ c.natAbs ≤ 1000000000 ∧ d.natAbs ≤ 1000000000 from ⟨ha, hb, hc, hd'⟩)
  clear hR h0 h1 h2 h3 hN0 hN1 hN2 hN3 ha hb hc hd hd2 hd' hG
  go_enter Tryz.func64, Tryz.ntmps64
  go_upto_region 1 with fail
  obtain ⟨W0, hW0⟩ : ∃ W, ((((w.alloc (.cells #[Value.bool p0, .slice A0 n0 c0] 106)).alloc (.cells #[Value.bool p1, .slice A1 n1 c1] 106)).alloc (.cells #[Value.bool p2, .slice A2 n2 c2] 106)).alloc (.cells #[Value.bool p3, .slice A3 n3 c3] 106)).alloc (.cells #[Value.int .i64 0, .int .i64 0, .int .i64 0, .int .i64 0] 30) = W := ⟨_, rfl⟩
  have hn := five_new _ _ _ _ _ _ hW0
  rw [hW0]
  obtain ⟨g, hg⟩ : ∃ g, w.heap.size = g := ⟨_, rfl⟩
  rw [hg] at hn ⊢
  have Hg := Lib.hid hg
  have Hb0 := Lib.hid (show Below w.heap.size w W0 by rw [hg]; exact hn.2.2)
  have HA := Lib.hid (show ∀ W', Below W0.heap.size W0 W' → W'.heap[g]? = some (.cells #[Value.bool p0, .slice A0 n0 c0] 106 (0, 0)) ∧ W'.heap[g + 1]? = some (.cells #[Value.bool p1, .slice A1 n1 c1] 106 (0, 0)) ∧ W'.heap[g + 2]? = some (.cells #[Value.bool p2, .slice A2 n2 c2] 106 (0, 0)) ∧ W'.heap[g + 3]? = some (.cells #[Value.bool p3, .slice A3 n3 c3] 106 (0, 0)) ∧ W'.heap[g + 4]? = some (.cells #[Value.int .i64 0, .int .i64 0, .int .i64 0, .int .i64 0] 30 (0, 0)) from fun W' hb =>
    ⟨(hb.block g (by omega)).trans hn.1.1, (hb.block (g + 1) (by omega)).trans hn.1.2.1, (hb.block (g + 2) (by omega)).trans hn.1.2.2.1, (hb.block (g + 3) (by omega)).trans hn.1.2.2.2.1, (hb.block (g + 4) (by omega)).trans hn.1.2.2.2.2⟩)
  have HN0 := Lib.hid (show Num W0 (.slice A0 n0 c0) a.natAbs ∧ Num W0 (.slice A1 n1 c1) b.natAbs ∧ Num W0 (.slice A2 n2 c2) c.natAbs ∧ Num W0 (.slice A3 n3 c3) d.natAbs from ⟨HN.out.1.below Hb0.out, HN.out.2.1.below Hb0.out, HN.out.2.2.1.below Hb0.out, HN.out.2.2.2.below Hb0.out⟩)
  have HB0 := Lib.hid (show Bg W0 (.agg #[.bool p0, .slice A0 n0 c0]) a ∧ Bg W0 (.agg #[.bool p1, .slice A1 n1 c1]) b ∧ Bg W0 (.agg #[.bool p2, .slice A2 n2 c2]) c ∧ Bg W0 (.agg #[.bool p3, .slice A3 n3 c3]) d from ⟨HB.out.1.below Hb0.out, HB.out.2.1.below Hb0.out, HB.out.2.2.1.below Hb0.out, HB.out.2.2.2.below Hb0.out⟩)
  clear hW0 hn hg HN HB
  have HC := Lib.hid (show ∀ W', Below W0.heap.size W0 W' → Below W0.heap.size W0 W' ∧ W'.cell? ⟨g, 1, none⟩ = some (.slice A0 n0 c0) ∧ W'.cell? ⟨g + 1, 1, none⟩ = some (.slice A1 n1 c1) ∧ W'.cell? ⟨g + 2, 1, none⟩ = some (.slice A2 n2 c2) ∧ W'.cell? ⟨g + 3, 1, none⟩ = some (.slice A3 n3 c3) from fun W' hb =>
    ⟨hb, (cells2 (HA.out W' hb).1).2.1, (cells2 (HA.out W' hb).2.1).2.1, (cells2 (HA.out W' hb).2.2.1).2.1, (cells2 (HA.out W' hb).2.2.2.1).2.1⟩)
  go_cut [10] (fun s10 wx => ∃ Vg : Value, Vg = s10 ∧ Hid (Num wx Vg G) ∧ Below W0.heap.size W0 wx)
  case first =>
    have hbz : Below W0.heap.size W0 W0.drew := (Below.refl _ W0).drew
    obtain ⟨-, f0, f1, f2, f3⟩ := HC.out _ (Below.refl _ W0)
    go_region_held3 (fun w' => Below W0.heap.size W0 w' ∧ w'.cell? ⟨g, 1, none⟩ = some (.slice A0 n0 c0) ∧ w'.cell? ⟨g + 1, 1, none⟩ = some (.slice A1 n1 c1) ∧ w'.cell? ⟨g + 2, 1, none⟩ = some (.slice A2 n2 c2) ∧ w'.cell? ⟨g + 3, 1, none⟩ = some (.slice A3 n3 c3))
      (first
        | (refine HC.out _ ?_; first | with_reducible exact hbz | with_reducible exact hk1 | with_reducible exact hk2 | with_reducible exact hk3)
        | go_keep)
      (first
      | (go_at_call 97; have hcur := (‹Below W0.heap.size W0 _ ∧ _›).1; (with_reducible refine (rgcd_any (.slice A0 n0 c0) (.slice A1 n1 c1) a.natAbs b.natAbs _ (HN0.out.1.below hcur) (HN0.out.2.1.below hcur) Hl.out.1 Hl.out.2.1).mono ?_); rintro e w1 ⟨U1, rfl, hU1, hb1⟩; have hk1 := hcur.trans (hb1.mono hcur.size); have HU1 := Lib.hid hU1; clear hU1 hb1 hcur)
      | (go_at_call 97; have hcur := (‹Below W0.heap.size W0 _ ∧ _›).1; (with_reducible refine (rgcd_any (.slice A2 n2 c2) (.slice A3 n3 c3) c.natAbs d.natAbs _ (HN0.out.2.2.1.below hcur) (HN0.out.2.2.2.below hcur) Hl.out.2.2.1 Hl.out.2.2.2.1).mono ?_); rintro e w2 ⟨U2, rfl, hU2, hb2⟩; have hk2 := hcur.trans (hb2.mono hcur.size); have HU2 := Lib.hid (show Num w2 U1 (Nat.gcd a.natAbs b.natAbs) ∧ Num w2 U2 (Nat.gcd c.natAbs d.natAbs) from ⟨HU1.out.below hb2, hU2⟩); clear hU2 hb2 hcur)
      | (go_at_call 97; have hcur := (‹Below W0.heap.size W0 _ ∧ _›).1; (with_reducible refine (rgcd_any U1 U2 _ _ _ HU2.out.1 HU2.out.2 Hl.out.2.2.2.2.1 Hl.out.2.2.2.2.2).mono ?_); rw [Hg4.out]; rintro e w3 ⟨U3, rfl, hU3, hb3⟩; have hk3 := hcur.trans (hb3.mono hcur.size); have HU3 := Lib.hid hU3; clear hU3 hb3 hcur))
    go_wp2_with fail
    go_meet
    exact ⟨_, rfl, HU3, hk3⟩
  case rest =>
    obtain ⟨Vg, rfl, HG, hbg⟩ := hcut
    obtain ⟨v0, hv0⟩ : ∃ v, lowV a G 960 = v := ⟨_, rfl⟩
    obtain ⟨q0, hq0⟩ : ∃ v, decide (a.natAbs / G ≤ 960) = v := ⟨_, rfl⟩
    have HL0 := Lib.hid (fun W hb hg => low_at p0 A0 n0 c0 Vg a G 960 960 v0 q0 W0 W rfl hv0 hq0 HB0.out.1 Hab.out.1 hGp hGl (by omega) hb hg)
    obtain ⟨v1, hv1⟩ : ∃ v, lowV b G 960 = v := ⟨_, rfl⟩
    obtain ⟨q1, hq1⟩ : ∃ v, decide (b.natAbs / G ≤ 960) = v := ⟨_, rfl⟩
    have HL1 := Lib.hid (fun W hb hg => low_at p1 A1 n1 c1 Vg b G 960 960 v1 q1 W0 W rfl hv1 hq1 HB0.out.2.1 Hab.out.2.1 hGp hGl (by omega) hb hg)
    obtain ⟨v2, hv2⟩ : ∃ v, lowV c G 960 = v := ⟨_, rfl⟩
    obtain ⟨q2, hq2⟩ : ∃ v, decide (c.natAbs / G ≤ 960) = v := ⟨_, rfl⟩
    have HL2 := Lib.hid (fun W hb hg => low_at p2 A2 n2 c2 Vg c G 960 960 v2 q2 W0 W rfl hv2 hq2 HB0.out.2.2.1 Hab.out.2.2.1 hGp hGl (by omega) hb hg)
    obtain ⟨v3, hv3⟩ : ∃ v, lowV d G 24 = v := ⟨_, rfl⟩
    obtain ⟨q3, hq3⟩ : ∃ v, decide (d.natAbs / G ≤ 24) = v := ⟨_, rfl⟩
    have HL3 := Lib.hid (fun W hb hg => low_at p3 A3 n3 c3 Vg d G 24 24 v3 q3 W0 W rfl hv3 hq3 HB0.out.2.2.2 Hab.out.2.2.2 hGp hGl (by omega) hb hg)
    have HV := Lib.hid (And.intro hv0 (And.intro hv1 (And.intro hv2 hv3)))
    have HQ := Lib.hid (And.intro hq0 (And.intro hq1 (And.intro hq2 hq3)))
    clear hv0 hv1 hv2 hv3 hq0 hq1 hq2 hq3
    obtain ⟨x0, y0, -⟩ := cells2 (HA.out wc hbg).1
    go_upto_region 6 with (first
      | (go_at_call 98; (with_reducible refine (HL0.out _ hbg HG.out).mono ?_); rintro e w5 ⟨rfl, hb5⟩; have HG5 := Lib.hid (HG.out.below hb5); have hb5 := hbg.trans (hb5.mono hbg.size); obtain ⟨x1, y1, -⟩ := cells2 (HA.out w5 hb5).2.1)
      | (go_at_call 98; (with_reducible refine (HL1.out _ hb5 HG5.out).mono ?_); rintro e w6 ⟨rfl, hb6⟩; have HG6 := Lib.hid (HG5.out.below hb6); have hb6 := hb5.trans (hb6.mono hb5.size); obtain ⟨x2, y2, -⟩ := cells2 (HA.out w6 hb6).2.2.1)
      | (go_at_call 98; (with_reducible refine (HL2.out _ hb6 HG6.out).mono ?_); rintro e w7 ⟨rfl, hb7⟩; have HG7 := Lib.hid (HG6.out.below hb7); have hb7 := hb6.trans (hb7.mono hb6.size); obtain ⟨x3, y3, -⟩ := cells2 (HA.out w7 hb7).2.2.2.1)
      | (go_at_call 98; (with_reducible refine (HL3.out _ hb7 HG7.out).mono ?_); rintro e w8 ⟨rfl, hb8⟩; have HG8 := Lib.hid (HG7.out.below hb8); have hb8 := hb7.trans (hb8.mono hb7.size)))
    have Hz8 := Lib.hid (HA.out w8 hb8).2.2.2.2
    have Hb8 := Lib.hid (Hb0.out.trans (hb8.mono Hb0.out.size))
    obtain ⟨z0, z1, z2, z3, z4⟩ := cells4 Hz8.out
    have Hgz := Lib.hid (show w.heap.size ≤ g + 4 by rw [Hg.out]; omega)
    clear hb5 hb6 hb7 hb8 hbg
    cases q0 with
    | false =>
      have Hf := Lib.hid (fun W hb => Hno.out W (fun h => by have := of_decide_eq_false HQ.out.1; exact this h.1) hb)
      go_wp2_with fail
      have hs4 := set4_heap Hz8.out (.int .i64 0) (.int .i64 0) (.int .i64 0) (.int .i64 0)
      have hb9 := Lib.hid (set4_below Hb8.out Hgz.out (.int .i64 0) (.int .i64 0) (.int .i64 0) (.int .i64 0))
      unfold set4 at hs4 hb9
      obtain ⟨y0, y1, y2, y3, -⟩ := cells4 hs4
      refine bodyPost_ret (v := .tuple #[.agg #[.int .i64 0, .int .i64 0, .int .i64 0, .int .i64 0], .int .i64 5]) ?_ rfl (Hf.out _ hb9.out)
      simp [results, Tryz.results64, go_sem, y0, y1, y2, y3]
    | true =>
      cases q1 with
      | false =>
        have Hf := Lib.hid (fun W hb => Hno.out W (fun h => by have := of_decide_eq_false HQ.out.2.1; exact this h.2.1) hb)
        go_wp2_with fail
        have hs4 := set4_heap Hz8.out (.int .i64 0) (.int .i64 0) (.int .i64 0) (.int .i64 0)
        have hb9 := Lib.hid (set4_below Hb8.out Hgz.out (.int .i64 0) (.int .i64 0) (.int .i64 0) (.int .i64 0))
        unfold set4 at hs4 hb9
        obtain ⟨y0, y1, y2, y3, -⟩ := cells4 hs4
        refine bodyPost_ret (v := .tuple #[.agg #[.int .i64 0, .int .i64 0, .int .i64 0, .int .i64 0], .int .i64 5]) ?_ rfl (Hf.out _ hb9.out)
        simp [results, Tryz.results64, go_sem, y0, y1, y2, y3]
      | true =>
        cases q2 with
        | false =>
          have Hf := Lib.hid (fun W hb => Hno.out W (fun h => by have := of_decide_eq_false HQ.out.2.2.1; exact this h.2.2.1) hb)
          go_wp2_with fail
          have hs4 := set4_heap Hz8.out (.int .i64 0) (.int .i64 0) (.int .i64 0) (.int .i64 0)
          have hb9 := Lib.hid (set4_below Hb8.out Hgz.out (.int .i64 0) (.int .i64 0) (.int .i64 0) (.int .i64 0))
          unfold set4 at hs4 hb9
          obtain ⟨y0, y1, y2, y3, -⟩ := cells4 hs4
          refine bodyPost_ret (v := .tuple #[.agg #[.int .i64 0, .int .i64 0, .int .i64 0, .int .i64 0], .int .i64 5]) ?_ rfl (Hf.out _ hb9.out)
          simp [results, Tryz.results64, go_sem, y0, y1, y2, y3]
        | true =>
          cases q3 with
          | false =>
            have Hf := Lib.hid (fun W hb => Hno.out W (fun h => by have := of_decide_eq_false HQ.out.2.2.2; exact this h.2.2.2) hb)
            go_wp2_with fail
            have hs4 := set4_heap Hz8.out (.int .i64 0) (.int .i64 0) (.int .i64 0) (.int .i64 0)
            have hb9 := Lib.hid (set4_below Hb8.out Hgz.out (.int .i64 0) (.int .i64 0) (.int .i64 0) (.int .i64 0))
            unfold set4 at hs4 hb9
            obtain ⟨y0, y1, y2, y3, -⟩ := cells4 hs4
            refine bodyPost_ret (v := .tuple #[.agg #[.int .i64 0, .int .i64 0, .int .i64 0, .int .i64 0], .int .i64 5]) ?_ rfl (Hf.out _ hb9.out)
            simp [results, Tryz.results64, go_sem, y0, y1, y2, y3]
          | true =>
            have Hf := Lib.hid (fun W hb => Hyes.out W v0 v1 v2 v3 HV.out.1.symm HV.out.2.1.symm HV.out.2.2.1.symm HV.out.2.2.2.symm ⟨of_decide_eq_true HQ.out.1, of_decide_eq_true HQ.out.2.1, of_decide_eq_true HQ.out.2.2.1, of_decide_eq_true HQ.out.2.2.2⟩ hb)
            go_wp2_with fail
            have hs4 := set4_heap Hz8.out (.int .i64 v0) (.int .i64 v1) (.int .i64 v2) (.int .i64 v3)
            have hb9 := Lib.hid (set4_below Hb8.out Hgz.out (.int .i64 v0) (.int .i64 v1) (.int .i64 v2) (.int .i64 v3))
            unfold set4 at hs4 hb9
            obtain ⟨y0, y1, y2, y3, -⟩ := cells4 hs4
            refine bodyPost_ret (v := .tuple #[.agg #[.int .i64 v0, .int .i64 v1, .int .i64 v2, .int .i64 v3], .int .i64 0]) ?_ rfl (Hf.out _ hb9.out)
            simp [results, Tryz.results64, go_sem, y0, y1, y2, y3]
end
section
open Go.RowKit
set_option maxRecDepth 16000 in
set_option maxHeartbeats 4000000 in
theorem rmake_any (a b c d : Int) (w : World) (ha : a.natAbs ≤ 1000000000) (hb : b.natAbs ≤ 1000000000) (hc : c.natAbs ≤ 1000000000) (hd : 1 ≤ d) (hd2 : d ≤ 1000000000) :
    Calls Tryz.prog 35 #[.int .i64 a, .int .i64 b, .int .i64 c, .int .i64 d] w fun e w' => e = .returned (redRet (redT a b c d)) ∧ Below w.heap.size w w' := by
  refine calls_cps ?_
  intro R hR
  have HO0 := Lib.hid (fun W => bof_any a W (by omega) (by omega))
  have HO1 := Lib.hid (fun W => bof_any b W (by omega) (by omega))
  have HO2 := Lib.hid (fun W => bof_any c W (by omega) (by omega))
  have HO3 := Lib.hid (fun W => bof_any d W (by omega) (by omega))
  have HD := Lib.hid (fun V0 V1 V2 V3 W h0 h1 h2 h3 => rreduce_any a b c d V0 V1 V2 V3 W h0 h1 h2 h3 ha hb hc hd hd2)
  obtain ⟨T, hT⟩ : ∃ T, redT a b c d = T := ⟨_, rfl⟩
  rw [hT] at hR HD
  have HR := Lib.hid hR
  have t1 : decide (d < 1) = false := decide_eq_false (by omega)
  clear hR hT ha hb hc hd hd2
  go_enter Tryz.func35, Tryz.ntmps35
  go_upto_region 1 with fail
  have Hb0 := Lib.hid (below_new w (.cells #[Value.int .i64 0, .int .i64 0, .int .i64 0, .int .i64 0] 30))
  have Hz0 := Lib.hid (heap_alloc_new w (.cells #[Value.int .i64 0, .int .i64 0, .int .i64 0, .int .i64 0] 30))
  have Hzl := Lib.hid (show w.heap.size < (w.alloc (.cells #[Value.int .i64 0, .int .i64 0, .int .i64 0, .int .i64 0] 30)).heap.size by simp)
  obtain ⟨W0, hW0⟩ : ∃ W, w.alloc (.cells #[Value.int .i64 0, .int .i64 0, .int .i64 0, .int .i64 0] 30) = W := ⟨_, rfl⟩
  obtain ⟨z, hze⟩ : ∃ z, w.heap.size = z := ⟨_, rfl⟩
  rw [hW0] at Hz0 Hb0 Hzl ⊢
  rw [hze] at Hz0 Hzl ⊢
  have Hz := Lib.hid hze
  clear hW0 hze
  go_wp2_with (first
    | (go_at_call 65; (with_reducible refine (HO0.out _).mono ?_); rintro e w1 ⟨V0, rfl, hV0, hb1⟩; have HV0 := Lib.hid hV0; clear hV0)
    | (go_at_call 65; (with_reducible refine (HO1.out _).mono ?_); rintro e w2 ⟨V1, rfl, hV1, hb2⟩; have HV1 := Lib.hid (And.intro (HV0.out.below hb2) hV1); have hb2 := hb1.trans (hb2.mono hb1.size); clear hV1)
    | (go_at_call 65; (with_reducible refine (HO2.out _).mono ?_); rintro e w3 ⟨V2, rfl, hV2, hb3⟩; have HV2 := Lib.hid (And.intro (HV1.out.1.below hb3) (And.intro (HV1.out.2.below hb3) hV2)); have hb3 := hb2.trans (hb3.mono hb2.size); clear hV2)
    | (go_at_call 65; (with_reducible refine (HO3.out _).mono ?_); rintro e w4 ⟨V3, rfl, hV3, hb4⟩; have HV3 := Lib.hid (And.intro (HV2.out.1.below hb4) (And.intro (HV2.out.2.1.below hb4) (And.intro (HV2.out.2.2.below hb4) hV3))); have hb4 := hb3.trans (hb4.mono hb3.size); clear hV3))
  refine (HD.out V0 V1 V2 V3 _ HV3.out.1 HV3.out.2.1 HV3.out.2.2.1 HV3.out.2.2.2).mono ?_
  rintro e w5 ⟨rfl, hb5⟩
  have hb5 := hb4.trans (hb5.mono hb4.size)
  have Hb8 := Lib.hid (Hb0.out.trans (hb5.mono Hb0.out.size))
  have Hzz := Lib.hid ((hb5.block z Hzl.out).trans Hz0.out)
  obtain ⟨z0, z1, z2, z3, z4⟩ := cells4 Hzz.out
  clear hb1 hb2 hb3 hb4 hb5
  cases T with
  | none =>
    unfold redRet
    go_wp2_with fail
    have hs4 := set4_heap Hzz.out (.int .i64 0) (.int .i64 0) (.int .i64 0) (.int .i64 0)
    have hb9 := Lib.hid (set4_below Hb8.out (Nat.le_of_eq Hz.out) (.int .i64 0) (.int .i64 0) (.int .i64 0) (.int .i64 0))
    unfold set4 at hs4 hb9
    obtain ⟨y0, y1, y2, y3, -⟩ := cells4 hs4
    refine bodyPost_ret (v := .tuple #[.agg #[.int .i64 0, .int .i64 0, .int .i64 0, .int .i64 0], .int .i64 5]) ?_ rfl (HR.out.out _ _ ⟨rfl, hb9.out⟩)
    simp [results, Tryz.results35, go_sem, y0, y1, y2, y3]
  | some t =>
    obtain ⟨t1, t2, t3, t4⟩ := t
    unfold redRet Tn.val
    dsimp only
    go_wp2_with fail
    have hs4 := set4_heap Hzz.out (.int .i64 t1) (.int .i64 t2) (.int .i64 t3) (.int .i64 t4)
    have hb9 := Lib.hid (set4_below Hb8.out (Nat.le_of_eq Hz.out) (.int .i64 t1) (.int .i64 t2) (.int .i64 t3) (.int .i64 t4))
    unfold set4 at hs4 hb9
    obtain ⟨y0, y1, y2, y3, -⟩ := cells4 hs4
    refine bodyPost_ret (v := .tuple #[.agg #[.int .i64 t1, .int .i64 t2, .int .i64 t3, .int .i64 t4], .int .i64 0]) ?_ rfl (HR.out.out _ _ ⟨rfl, hb9.out⟩)
    simp [results, Tryz.results35, go_sem, y0, y1, y2, y3]
set_option maxHeartbeats 4000000 in
theorem rmulT_any (a b : Tn) (w : World) (ha : a.Ok) (hb : b.Ok) :
    Calls Tryz.prog 38 #[a.val, b.val] w fun e w' => e = .returned (redRet (joinT a b 1)) ∧ Below w.heap.size w w' := by
  refine calls_cps ?_
  intro R hR
  obtain ⟨a1, a2, a3, ad⟩ := a
  obtain ⟨b1, b2, b3, bd⟩ := b
  unfold Tn.val
  unfold joinT at hR
  dsimp only at hR ⊢
  have A1 := ha.two
  have A2 := ha.three
  have A3 := ha.five
  have A4 := ha.lo
  have A5 := ha.hi
  have B1 := hb.two
  have B2 := hb.three
  have B3 := hb.five
  have B4 := hb.lo
  have B5 := hb.hi
  dsimp only at A1 A2 A3 A4 A5 B1 B2 B3 B4 B5
  have Ad : ad.natAbs ≤ 24 := abs_of A4 A5
  have Bd : bd.natAbs ≤ 24 := abs_of B4 B5
  rw [Int.one_mul] at hR
  have k1 := abs_ib (mul_bd A1 Bd (k := 23040) (by decide))
  have k2 := abs_ib (mul_bd B1 Ad (k := 23040) (by decide))
  have k3 := abs_ib (mul_bd A2 Bd (k := 23040) (by decide))
  have k4 := abs_ib (mul_bd B2 Ad (k := 23040) (by decide))
  have k5 := abs_ib (mul_bd A3 Bd (k := 23040) (by decide))
  have k6 := abs_ib (mul_bd B3 Ad (k := 23040) (by decide))
  have k7 := abs_ib (mul_bd Ad Bd (k := 576) (by decide))
  have k8 := mul_pos1 A4 B4
  have HR := Lib.hid hR
  clear hR ha hb A1 A2 A3 B1 B2 B3 Ad Bd
  obtain ⟨p1, e1⟩ : ∃ p, a1 * bd = p := ⟨_, rfl⟩
  obtain ⟨p2, e2⟩ : ∃ p, b1 * ad = p := ⟨_, rfl⟩
  obtain ⟨p3, e3⟩ : ∃ p, a2 * bd = p := ⟨_, rfl⟩
  obtain ⟨p4, e4⟩ : ∃ p, b2 * ad = p := ⟨_, rfl⟩
  obtain ⟨p5, e5⟩ : ∃ p, a3 * bd = p := ⟨_, rfl⟩
  obtain ⟨p6, e6⟩ : ∃ p, b3 * ad = p := ⟨_, rfl⟩
  obtain ⟨p7, e7⟩ : ∃ p, ad * bd = p := ⟨_, rfl⟩
  rw [e1, e2, e3, e4, e5, e6, e7] at HR
  rw [e1] at k1
  rw [e2] at k2
  rw [e3] at k3
  rw [e4] at k4
  rw [e5] at k5
  rw [e6] at k6
  rw [e7] at k7 k8
  simp only [Int.cast_ofNat_Int] at k1 k2 k3 k4 k5 k6 k7
  obtain ⟨q11, q12⟩ := k1
  obtain ⟨q21, q22⟩ := k2
  obtain ⟨q31, q32⟩ := k3
  obtain ⟨q41, q42⟩ := k4
  obtain ⟨q51, q52⟩ := k5
  obtain ⟨q61, q62⟩ := k6
  obtain ⟨-, q72⟩ := k7
  go_enter Tryz.func38, Tryz.ntmps38
  go_upto_region 1 with fail
  obtain ⟨W0, hW0⟩ : ∃ W, ((w.alloc (.cells #[Value.int .i64 a1, .int .i64 a2, .int .i64 a3, .int .i64 ad] 30)).alloc (.cells #[Value.int .i64 b1, .int .i64 b2, .int .i64 b3, .int .i64 bd] 30)).alloc (.cells #[Value.int .i64 0, .int .i64 0, .int .i64 0, .int .i64 0] 30) = W := ⟨_, rfl⟩
  have hn := three_new _ _ _ _ hW0
  rw [hW0]
  obtain ⟨g, hg⟩ : ∃ g, w.heap.size = g := ⟨_, rfl⟩
  rw [hg] at hn ⊢
  have Hn := Lib.hid hn
  have Hg := Lib.hid hg
  clear hW0 hn hg
  obtain ⟨a0, a1', a2', a3', -⟩ := cells4 Hn.out.1.1
  obtain ⟨b0, b1', b2', b3', -⟩ := cells4 Hn.out.1.2.1
  go_wp2_with fail
  clear e1 e2 e3 e4 e5 e6 e7
  refine (rmake_any (p1 + p2) (p3 + p4) (p5 + p6) p7 W0 (by omega) (by omega) (by omega) k8 (by omega)).mono ?_
  rintro e w3 ⟨rfl, hb3⟩
  have Hb8 := Lib.hid (show Below w.heap.size w w3 by rw [Hg.out]; exact Hn.out.2.2.trans (hb3.mono (Nat.le_of_lt (Nat.lt_of_le_of_lt (Nat.le_add_right g 2) Hn.out.2.1))))
  have Hgz := Lib.hid (show w.heap.size ≤ g + 1 + 1 by rw [Hg.out]; omega)
  have Hzz := Lib.hid ((hb3.block (g + 1 + 1) Hn.out.2.1).trans Hn.out.1.2.2)
  obtain ⟨z0, z1, z2, z3, z4⟩ := cells4 Hzz.out
  clear a0 a1' a2' a3' b0 b1' b2' b3' hb3
  obtain ⟨T, hT⟩ : ∃ T, redT (p1 + p2) (p3 + p4) (p5 + p6) p7 = T := ⟨_, rfl⟩
  rw [hT] at HR ⊢
  clear hT
  cases T with
  | none =>
    unfold redRet
    go_wp2_with fail
    have hs4 := set4_heap Hzz.out (.int .i64 0) (.int .i64 0) (.int .i64 0) (.int .i64 0)
    have hb9 := Lib.hid (set4_below Hb8.out Hgz.out (.int .i64 0) (.int .i64 0) (.int .i64 0) (.int .i64 0))
    unfold set4 at hs4 hb9
    obtain ⟨y0, y1, y2, y3, -⟩ := cells4 hs4
    refine bodyPost_ret (v := .tuple #[.agg #[.int .i64 0, .int .i64 0, .int .i64 0, .int .i64 0], .int .i64 5]) ?_ rfl (HR.out.out _ _ ⟨rfl, hb9.out⟩)
    simp [results, Tryz.results38, go_sem, y0, y1, y2, y3]
  | some t =>
    obtain ⟨t1, t2, t3, t4⟩ := t
    unfold redRet Tn.val
    dsimp only
    go_wp2_with fail
    have hs4 := set4_heap Hzz.out (.int .i64 t1) (.int .i64 t2) (.int .i64 t3) (.int .i64 t4)
    have hb9 := Lib.hid (set4_below Hb8.out Hgz.out (.int .i64 t1) (.int .i64 t2) (.int .i64 t3) (.int .i64 t4))
    unfold set4 at hs4 hb9
    obtain ⟨y0, y1, y2, y3, -⟩ := cells4 hs4
    refine bodyPost_ret (v := .tuple #[.agg #[.int .i64 t1, .int .i64 t2, .int .i64 t3, .int .i64 t4], .int .i64 0]) ?_ rfl (HR.out.out _ _ ⟨rfl, hb9.out⟩)
    simp [results, Tryz.results38, go_sem, y0, y1, y2, y3]
set_option maxHeartbeats 4000000 in
theorem rfifth_any (s u : Int) (w : World) (h1 : -12 ≤ s) (h2 : s ≤ 12) (h3 : 1 ≤ u) (h4 : u ≤ 24) :
    Calls Tryz.prog 13 #[.int .i64 s, .int .i64 u] w fun e w' => e = .returned (fifT s u).val ∧ Below w.heap.size w w' := by
  refine calls_cps ?_
  intro R hR
  have HM := Lib.hid (fun W => rmake_any (-u + 19 * s) (u - 12 * s) 0 u W (by omega) (by omega) (by omega) h3 (by omega))
  rw [(fifT_ok h1 h2 h3 h4).1] at HM
  obtain ⟨⟨t1, t2, t3, t4⟩, hT⟩ : ∃ T, fifT s u = T := ⟨_, rfl⟩
  rw [hT] at HM hR
  unfold redRet at HM
  unfold Tn.val at HM hR
  dsimp only at HM hR
  have HR := Lib.hid hR
  clear hR hT
  go_enter Tryz.func13, Tryz.ntmps13
  go_upto_region 1 with fail
  have Hb0 := Lib.hid (below_new w (.cells #[Value.int .i64 0, .int .i64 0, .int .i64 0, .int .i64 0] 30))
  have Hz0 := Lib.hid (heap_alloc_new w (.cells #[Value.int .i64 0, .int .i64 0, .int .i64 0, .int .i64 0] 30))
  have Hzl := Lib.hid (show w.heap.size < (w.alloc (.cells #[Value.int .i64 0, .int .i64 0, .int .i64 0, .int .i64 0] 30)).heap.size by simp)
  obtain ⟨W0, hW0⟩ : ∃ W, w.alloc (.cells #[Value.int .i64 0, .int .i64 0, .int .i64 0, .int .i64 0] 30) = W := ⟨_, rfl⟩
  obtain ⟨z, hze⟩ : ∃ z, w.heap.size = z := ⟨_, rfl⟩
  rw [hW0] at Hz0 Hb0 Hzl ⊢
  rw [hze] at Hz0 Hzl ⊢
  have Hz := Lib.hid hze
  clear hW0 hze
  go_upto_region 2 with (go_at_call 35; (with_reducible refine (HM.out _).mono ?_); rintro e w1 ⟨rfl, hb1⟩)
  have hA := heap_alloc_new w1 (.cells #[Value.int .i64 t1, .int .i64 t2, .int .i64 t3, .int .i64 t4] 30)
  have hb2 := hb1.trans ((below_new w1 (.cells #[Value.int .i64 t1, .int .i64 t2, .int .i64 t3, .int .i64 t4] 30)).mono hb1.size)
  obtain ⟨W2, hW2⟩ : ∃ W, w1.alloc (.cells #[Value.int .i64 t1, .int .i64 t2, .int .i64 t3, .int .i64 t4] 30) = W := ⟨_, rfl⟩
  obtain ⟨b2, hb2e⟩ : ∃ z, w1.heap.size = z := ⟨_, rfl⟩
  rw [hW2] at hA hb2 ⊢
  rw [hb2e] at hA ⊢
  obtain ⟨r0, r1, r2, r3, -⟩ := cells4 hA
  have Hb8 := Lib.hid (Hb0.out.trans (hb2.mono Hb0.out.size))
  have Hzz := Lib.hid ((hb2.block z Hzl.out).trans Hz0.out)
  obtain ⟨z0, z1, z2, z3, z4⟩ := cells4 Hzz.out
  clear hW2 hb2e hA hb1 hb2
  go_wp2_with fail
  have hs4 := set4_heap Hzz.out (.int .i64 t1) (.int .i64 t2) (.int .i64 t3) (.int .i64 t4)
  have hb9 := Lib.hid (set4_below Hb8.out (Nat.le_of_eq Hz.out) (.int .i64 t1) (.int .i64 t2) (.int .i64 t3) (.int .i64 t4))
  unfold set4 at hs4 hb9
  obtain ⟨y0, y1, y2, y3, -⟩ := cells4 hs4
  refine bodyPost_ret (v := .agg #[.int .i64 t1, .int .i64 t2, .int .i64 t3, .int .i64 t4]) ?_ rfl (HR.out.out _ _ ⟨rfl, hb9.out⟩)
  simp [results, Tryz.results13, go_sem, y0, y1, y2, y3]
end
end Go.Proofs.YtojbldoekalbnaaGreat
