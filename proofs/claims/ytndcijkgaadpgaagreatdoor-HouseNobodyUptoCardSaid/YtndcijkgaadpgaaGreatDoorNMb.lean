/-
  Contracts of nat's multiplication, shifts and comparison on limbs; each states its condition.
-/
import Derived.Test.YtndcijkgaadpgaaGreatDoorNMa
namespace Go.Proofs.YtndcijkgaadpgaaGreatDoor
section
open Go.RowKit
def TimesOk (L : Nat) : Prop := ∀ (A B : Option Addr) (n c m d a b : Nat) (w : World), n + m < L → Nm w A n a → Nm w B m b → n ≤ c → m ≤ d → n ≤ 300000 → m ≤ 300000 →
  Calls Tryz.prog 343 #[.slice A n c, .slice B m d] w (NewNum w (a * b))
theorem room_of {x k N T : Nat} (h : x * pw k ≤ T) (hT : T < pw N) (hk : k ≤ N) : k + ln x ≤ N := by
  have h1 : x < pw (N - k) := by
    have h2 : x * pw k < pw (N - k) * pw k := by rw [← pw_add, Nat.sub_add_cancel hk]; omega
    exact Nat.lt_of_mul_lt_mul_right h2
  have := (ln_le_iff (N - k) x).2 h1
  omega
theorem kar_alg (a0 a1 b0 b1 P : Nat) : (a0 + P * a1) * (b0 + P * b1) = a0 * b0 + ((a0 + a1) * (b0 + b1) - a0 * b0 - a1 * b1) * P + a1 * b1 * (P * P) := by
  have e1 : (a0 + a1) * (b0 + b1) - a0 * b0 - a1 * b1 = a0 * b1 + a1 * b0 := by
    rw [Nat.add_mul, Nat.mul_add, Nat.mul_add]; omega
  rw [e1, Nat.add_mul, Nat.mul_add, Nat.mul_add, Nat.add_mul]
  have f1 : a0 * (P * b1) = a0 * b1 * P := by ac_rfl
  have f2 : P * a1 * b0 = a1 * b0 * P := by ac_rfl
  have f3 : P * a1 * (P * b1) = a1 * b1 * (P * P) := by ac_rfl
  rw [f1, f2, f3]; omega
theorem Nm.ne {w : World} {A : Option Addr} {n v g : Nat} (h : Nm w A n v) (hg : w.heap.size ≤ g) : 0 < n → ∀ a, A = some a → a.block ≠ g := fun hn a e => by
  obtain ⟨b, o, e', hb, _⟩ := h.2.2 hn
  rw [e'] at e
  injection e with e
  subst e
  dsimp only
  omega
set_option maxHeartbeats 4000000 in
theorem karatsuba_of {L : Nat} (ih : TimesOk L) (A B : Option Addr) (n c m d a b : Nat) (w : World) (hL : n + m ≤ L) (h1 : Nm w A n a) (h2 : Nm w B m b) (hnc : n ≤ c) (hmd : m ≤ d) (hn : n ≤ 300000) (hm : 40 ≤ m) (hmn : m ≤ n) (hn2 : n < 2 * m) :
    Calls Tryz.prog 391 #[.slice A n c, .slice B m d] w (NewNum w (a * b)) := by
  refine calls_cps ?_
  intro R hR
  have HR := Lib.hid (show ∀ A' k c' W', k ≤ c' → Nm W' A' k (a * b) → (∀ ad, A' = some ad → w.heap.size ≤ ad.block) → Below w.heap.size w W' → R (.returned (.slice A' k c')) W' from fun A' k c' W' g1 g2 g3 g4 => hR.out _ _ ⟨A', k, c', rfl, g1, g2, g3, g4⟩)
  have H1 := Lib.hid h1
  have H2 := Lib.hid h2
  clear hR h1 h2
  obtain ⟨k, hk⟩ : ∃ k, (n + 1) / 2 = k := ⟨_, rfl⟩
  have hkq : ((n : Int) + 1) / 2 = (k : Int) := by omega
  have hk1 : 2 * k ≤ n + 1 := by omega
  have hk2 : n ≤ 2 * k := by omega
  have hk3 : k ≤ n := by omega
  have Hkq := Lib.hid hkq
  clear hk
  go_enter Tryz.func391, Tryz.ntmps391
  go_wp2_with fail
  refine (nsplit_any A n c k a w H1.out hnc (by omega)).mono ?_
  rintro e w1 ⟨A0, A1, n0, n1, c0, c1, rfl, ha1, ha2, ha3, ha4, ha5, ha6, hq1⟩
  have HA := Lib.hid (show Nm w1 A0 n0 (a % pw k) ∧ Nm w1 A1 n1 (a / pw k) from ⟨ha5.below hq1.below, ha6.below hq1.below⟩)
  have hln0 : n0 ≤ k := by rw [ha5.1]; exact (ln_le_iff _ _).2 (Nat.mod_lt _ (pw_pos k))
  have hln1 : n1 ≤ n - k := by rw [ha6.1, ln_div_pw, ← H1.out.1]; exact Nat.le_refl _
  have Hb1 := Lib.hid hq1.below
  have HB1 := Lib.hid (H2.out.below hq1.below)
  clear ha5 ha6 hq1
  go_wp2_with fail
  refine (nsplit_any B m d k b w1 HB1.out hmd (by omega)).mono ?_
  rintro e w2 ⟨B0, B1, m0, m1, d0, d1, rfl, hb1, hb2, hb3, hb4, hb5, hb6, hq2⟩
  have HB := Lib.hid (show Nm w2 B0 m0 (b % pw k) ∧ Nm w2 B1 m1 (b / pw k) from ⟨hb5.below hq2.below, hb6.below hq2.below⟩)
  have HA2 := Lib.hid (show Nm w2 A0 n0 (a % pw k) ∧ Nm w2 A1 n1 (a / pw k) from ⟨HA.out.1.below hq2.below, HA.out.2.below hq2.below⟩)
  have hlm0 : m0 ≤ k := by rw [hb5.1]; exact (ln_le_iff _ _).2 (Nat.mod_lt _ (pw_pos k))
  have hlm1 : m1 ≤ m - k := by rw [hb6.1, ln_div_pw, ← H2.out.1]; exact Nat.le_refl _
  have Hb2 := Lib.hid (Hb1.out.trans (hq2.below.mono Hb1.out.size))
  clear hb5 hb6 hq2 HA Hb1 HB1
  have HM := Lib.hid (show n1 ≤ k ∧ m1 ≤ k from ⟨by omega, by omega⟩)
  obtain ⟨a0, ea0⟩ : ∃ x, a % pw k = x := ⟨_, rfl⟩
  obtain ⟨a1, ea1⟩ : ∃ x, a / pw k = x := ⟨_, rfl⟩
  obtain ⟨b0, eb0⟩ : ∃ x, b % pw k = x := ⟨_, rfl⟩
  obtain ⟨b1, eb1⟩ : ∃ x, b / pw k = x := ⟨_, rfl⟩
  have Hab := Lib.hid (show a = a0 + pw k * a1 ∧ b = b0 + pw k * b1 from by rw [← ea0, ← ea1, ← eb0, ← eb1, Nat.mod_add_div, Nat.mod_add_div]; exact ⟨rfl, rfl⟩)
  rw [ea0, ea1] at HA2
  rw [eb0, eb1] at HB
  clear ea0 ea1 eb0 eb1
  go_wp2_with fail
  refine (ih A0 B0 n0 c0 m0 d0 a0 b0 w2 (by omega) HA2.out.1 HB.out.1 ha1 hb1 (by omega) (by omega)).mono ?_
  rintro e w3 ⟨AL, nl, cl, rfl, hl1, hl2, -, hl3⟩
  have HA3 := Lib.hid (show (Nm w3 A0 n0 a0 ∧ Nm w3 A1 n1 a1) ∧ Nm w3 B0 m0 b0 ∧ Nm w3 B1 m1 b1 from ⟨⟨HA2.out.1.below hl3, HA2.out.2.below hl3⟩, HB.out.1.below hl3, HB.out.2.below hl3⟩)
  have HL3 := Lib.hid hl2
  have Hb3 := Lib.hid (Hb2.out.trans (hl3.mono Hb2.out.size))
  clear hl2 hl3 HA2 HB Hb2
  go_wp2_with fail
  refine (ih A1 B1 n1 c1 m1 d1 a1 b1 w3 (by omega) HA3.out.1.2 HA3.out.2.2 ha3 hb3 (by omega) (by omega)).mono ?_
  rintro e w4 ⟨AH, nh, ch, rfl, hh1, hh2, -, hh3⟩
  have HA4 := Lib.hid (show ((Nm w4 A0 n0 a0 ∧ Nm w4 A1 n1 a1) ∧ Nm w4 B0 m0 b0 ∧ Nm w4 B1 m1 b1) ∧ Nm w4 AL nl (a0 * b0) ∧ Nm w4 AH nh (a1 * b1) from ⟨⟨⟨HA3.out.1.1.below hh3, HA3.out.1.2.below hh3⟩, HA3.out.2.1.below hh3, HA3.out.2.2.below hh3⟩, HL3.out.below hh3, hh2⟩)
  have Hb4 := Lib.hid (Hb3.out.trans (hh3.mono Hb3.out.size))
  clear hh2 hh3 HA3 HL3 Hb3
  go_wp2_with fail
  refine (plus_any A0 A1 n0 c0 n1 c1 a0 a1 w4 HA4.out.1.1.1 HA4.out.1.1.2 (by omega) (by omega)).mono ?_
  rintro e w5 ⟨AS, ns, cs, rfl, hs1, hs2, -, hs3⟩
  have HA5 := Lib.hid (show (Nm w5 B0 m0 b0 ∧ Nm w5 B1 m1 b1) ∧ Nm w5 AL nl (a0 * b0) ∧ Nm w5 AH nh (a1 * b1) from ⟨⟨HA4.out.1.2.1.below hs3, HA4.out.1.2.2.below hs3⟩, HA4.out.2.1.below hs3, HA4.out.2.2.below hs3⟩)
  have hns : ns ≤ k + 1 := by
    rw [hs2.1]
    refine Nat.le_trans (ln_add_le _ _) ?_
    rw [← HA4.out.1.1.1.1, ← HA4.out.1.1.2.1]
    have := HM.out.1
    omega
  have HS5 := Lib.hid hs2
  have Hb5 := Lib.hid (Hb4.out.trans (hs3.mono Hb4.out.size))
  clear hs2 hs3 HA4 Hb4
  go_wp2_with fail
  refine (plus_any B0 B1 m0 d0 m1 d1 b0 b1 w5 HA5.out.1.1 HA5.out.1.2 (by omega) (by omega)).mono ?_
  rintro e w6 ⟨AT, nt, ct, rfl, ht1, ht2, -, ht3⟩
  have HA6 := Lib.hid (show (Nm w6 AS ns (a0 + a1) ∧ Nm w6 AT nt (b0 + b1)) ∧ Nm w6 AL nl (a0 * b0) ∧ Nm w6 AH nh (a1 * b1) from ⟨⟨HS5.out.below ht3, ht2⟩, HA5.out.2.1.below ht3, HA5.out.2.2.below ht3⟩)
  have hnt : nt ≤ k + 1 := by
    rw [ht2.1]
    refine Nat.le_trans (ln_add_le _ _) ?_
    rw [← HA5.out.1.1.1, ← HA5.out.1.2.1]
    have := HM.out.2
    omega
  have Hb6 := Lib.hid (Hb5.out.trans (ht3.mono Hb5.out.size))
  clear ht2 ht3 HA5 HS5 Hb5
  go_wp2_with fail
  refine (ih AS AT ns cs nt ct (a0 + a1) (b0 + b1) w6 (by omega) HA6.out.1.1 HA6.out.1.2 hs1 ht1 (by omega) (by omega)).mono ?_
  rintro e w7 ⟨AM, nm, cm, rfl, hm1, hm2, -, hm3⟩
  have HA7 := Lib.hid (show Nm w7 AM nm ((a0 + a1) * (b0 + b1)) ∧ Nm w7 AL nl (a0 * b0) ∧ Nm w7 AH nh (a1 * b1) from ⟨hm2, HA6.out.2.1.below hm3, HA6.out.2.2.below hm3⟩)
  have hnm : nm ≤ 600000 := by
    rw [hm2.1]
    refine Nat.le_trans (ln_mul_le _ _) ?_
    rw [← HA6.out.1.1.1, ← HA6.out.1.2.1]
    omega
  have Hle := Lib.hid (show a0 * b0 ≤ (a0 + a1) * (b0 + b1) ∧ a1 * b1 ≤ (a0 + a1) * (b0 + b1) - a0 * b0 from by
    have e1 : (a0 + a1) * (b0 + b1) = a0 * b0 + a0 * b1 + (a1 * b0 + a1 * b1) := by rw [Nat.add_mul, Nat.mul_add, Nat.mul_add]
    rw [e1]; omega)
  have Hb7 := Lib.hid (Hb6.out.trans (hm3.mono Hb6.out.size))
  clear hm2 hm3 HA6 Hb6
  go_wp2_with fail
  refine (minus_any AM AL nm cm nl cl _ _ w7 HA7.out.1 HA7.out.2.1 (by omega) Hle.out.1).mono ?_
  rintro e w8 ⟨AN, nn, cn, rfl, hn1, hn2', -, hn3⟩
  have HA8 := Lib.hid (show Nm w8 AN nn ((a0 + a1) * (b0 + b1) - a0 * b0) ∧ Nm w8 AL nl (a0 * b0) ∧ Nm w8 AH nh (a1 * b1) from ⟨hn2', HA7.out.2.1.below hn3, HA7.out.2.2.below hn3⟩)
  have hnn : nn ≤ 600000 := by
    rw [hn2'.1]
    refine Nat.le_trans (ln_sub_le _ _) ?_
    rw [← HA7.out.1.1]
    exact hnm
  have Hb8 := Lib.hid (Hb7.out.trans (hn3.mono Hb7.out.size))
  clear hn2' hn3 HA7 Hb7
  go_wp2_with fail
  refine (minus_any AN AH nn cn nh ch _ _ w8 HA8.out.1 HA8.out.2.2 (by omega) Hle.out.2).mono ?_
  rintro e w9 ⟨AO, no, co, rfl, ho1, ho2, -, ho3⟩
  have HA9 := Lib.hid (show Nm w9 AO no ((a0 + a1) * (b0 + b1) - a0 * b0 - a1 * b1) ∧ Nm w9 AL nl (a0 * b0) ∧ Nm w9 AH nh (a1 * b1) from ⟨ho2, HA8.out.2.1.below ho3, HA8.out.2.2.below ho3⟩)
  have Hb9 := Lib.hid (Hb8.out.trans (ho3.mono Hb8.out.size))
  clear ho2 ho3 HA8 Hb8
  have hmk : (Instr.makeSlice 68 (.int .i64 ((n : Int) + (m : Int) + 2)) (.int .i64 ((n : Int) + (m : Int) + 2))).run Tryz.prog w9 = .ok (.slice (some ⟨w9.heap.size, 0, none⟩) (n + m + 2) (n + m + 2)) (w9.alloc (.cells (madeCells #[Value.int .u32 0] (n + m + 2)) 133)) := by
    have h := run_mkU (n + m + 2) (by omega) w9 .i64
    rwa [Int.natCast_add, Int.natCast_add] at h
  have HBk := Lib.hid (BlkU.new w9 (n + m + 2))
  have HbA := Lib.hid (below_new w9 (.cells (madeCells #[Value.int .u32 0] (n + m + 2)) 133))
  have HneA := Lib.hid (show (0 < nl → ∀ a, AL = some a → a.block ≠ w9.heap.size) ∧ (0 < no → ∀ a, AO = some a → a.block ≠ w9.heap.size) ∧ (0 < nh → ∀ a, AH = some a → a.block ≠ w9.heap.size) from ⟨HA9.out.2.1.ne (Nat.le_refl _), HA9.out.1.ne (Nat.le_refl _), HA9.out.2.2.ne (Nat.le_refl _)⟩)
  obtain ⟨W1, hW1⟩ : ∃ W1, w9.alloc (.cells (madeCells #[Value.int .u32 0] (n + m + 2)) 133) = W1 := ⟨_, rfl⟩
  obtain ⟨g, hg⟩ : ∃ g, w9.heap.size = g := ⟨_, rfl⟩
  rw [hW1] at HBk HbA hmk
  rw [hg] at HBk HbA hmk HneA
  have Hg := Lib.hid hg
  have HC := Lib.hid (show Nm W1 AO no ((a0 + a1) * (b0 + b1) - a0 * b0 - a1 * b1) ∧ Nm W1 AL nl (a0 * b0) ∧ Nm W1 AH nh (a1 * b1) from by
    have hb' : Below w9.heap.size w9 W1 := by rw [hg]; exact HbA.out
    exact ⟨HA9.out.1.below hb', HA9.out.2.1.below hb', HA9.out.2.2.below hb'⟩)
  clear hW1 hg HA9
  obtain ⟨N, hN⟩ : ∃ N, n + m + 2 = N := ⟨_, rfl⟩
  have hN1 : N ≤ 700000 := by omega
  have hN2 : 2 * k ≤ N := by omega
  rw [hN] at HBk hmk
  have HNN := Lib.hid hN
  obtain ⟨mid, hmid⟩ : ∃ x, (a0 + a1) * (b0 + b1) - a0 * b0 - a1 * b1 = x := ⟨_, rfl⟩
  have Hsum := Lib.hid (show a0 * b0 + mid * pw k + a1 * b1 * (pw k * pw k) = a * b from by rw [Hab.out.1, Hab.out.2, kar_alg, hmid])
  have Hroom := Lib.hid (show a * b < pw N from by
    rw [← hN]
    exact Nat.lt_of_lt_of_le (Nat.mul_lt_mul'' H1.out.lt H2.out.lt) (by rw [← pw_add]; exact pw_le (by omega)))
  rw [hmid] at HC
  clear hmid hN
  have Hsum2 := Lib.hid (show a0 * b0 ≤ a * b ∧ mid * pw k ≤ a * b ∧ a1 * b1 * pw (2 * k) ≤ a * b from by
    have := Hsum.out
    have e2 : pw (2 * k) = pw k * pw k := by rw [← pw_add, Nat.two_mul]
    rw [e2]; omega)
  go_wp2_with fail
  refine (addAt_any g N 0 AL nl cl (a0 * b0) _ W1 HBk.out HC.out.2.1 HneA.out.1 (by omega) (by rw [HC.out.2.1.1]; exact room_of (k := 0) (T := a * b) (by rw [pw_zero, Nat.mul_one]; exact Hsum2.out.1) Hroom.out (Nat.zero_le _)) (by rw [fv_zero, pw_zero]; have := Hsum2.out.1; have := Hroom.out; omega)).mono ?_
  rintro e w10 ⟨rfl, o1, hB1, hv1, hk10⟩
  rw [fv_zero, pw_zero, Nat.zero_add, Nat.mul_one] at hv1
  have HC2 := Lib.hid (show Nm w10 AO no mid ∧ Nm w10 AH nh (a1 * b1) from ⟨HC.out.1.kx hk10 HneA.out.2.1, HC.out.2.2.kx hk10 HneA.out.2.2⟩)
  have HB10 := Lib.hid (And.intro hB1 hv1)
  have Hk10 := Lib.hid hk10
  clear hB1 hv1 hk10 HC HBk
  go_wp2_with fail
  refine (addAt_any g N k AO no co mid o1 w10 HB10.out.1 HC2.out.1 HneA.out.2.1 (by omega) (by rw [HC2.out.1.1]; exact room_of (T := a * b) Hsum2.out.2.1 Hroom.out (by omega)) (by rw [HB10.out.2]; have := Hsum.out; have := Hroom.out; omega)).mono ?_
  rintro e w11 ⟨rfl, o2, hB2, hv2, hk11⟩
  rw [HB10.out.2] at hv2
  have HC3 := Lib.hid (HC2.out.2.kx hk11 HneA.out.2.2)
  have HB11 := Lib.hid (And.intro hB2 hv2)
  have Hk11 := Lib.hid (Hk10.out.trans hk11 (fun _ _ h => h))
  clear hB2 hv2 hk11 HC2 HB10 Hk10
  go_wp2_with fail
  refine (addAt_any g N (2 * k) AH nh ch (a1 * b1) o2 w11 HB11.out.1 HC3.out HneA.out.2.2 (by omega) (by rw [HC3.out.1]; exact room_of (T := a * b) Hsum2.out.2.2 Hroom.out (by omega)) (by rw [HB11.out.2, Nat.two_mul, pw_add]; have := Hsum.out; have := Hroom.out; omega)).mono ?_
  rintro e w12 ⟨rfl, o3, hB3, hv3, hk12⟩
  have Hset := Lib.hid (show BlkU w12 g N o3 ∧ fv o3 N = a * b from ⟨hB3, by rw [hv3, HB11.out.2, Nat.two_mul, pw_add]; exact Hsum.out⟩)
  have Hk12 := Lib.hid (Hk11.out.trans hk12 (fun _ _ h => h))
  clear hB3 hv3 hk12 HC3 HB11 Hk11
  go_wp2_with fail
  refine (trim_blk Hset.out (by omega)).mono ?_
  rintro e w' ⟨kk, rfl, hkk, hnm2, rfl⟩
  have Hf := Lib.hid (HR.out _ kk _ _ hkk hnm2 (fresh_at (by rw [← Hg.out]; exact Hb9.out.size)) (by
    have h1 : Below w9.heap.size w9 W1 := by rw [Hg.out]; exact HbA.out
    have h2 := Kx.low h1 Hk12.out (fun j hj => by rw [Hg.out]; omega) h1.size
    exact Hb9.out.trans (h2.mono Hb9.out.size)))
  clear hnm2
  go_wp2_with fail
  exact Hf.out
theorem RdN.from2 {w : World} {b o n : Nat} {f : Nat → Nat} (h : RdN w (some ⟨b, o, none⟩) n f) {k m v : Nat} (hk : k + m ≤ n) (hv : fv (fun i => f (k + i)) m = v) : Nm w (some ⟨b, o + k, none⟩) (ln v) v := (h.from_ hk).nm hv
theorem part_val {v k m n : Nat} (hv : v < pw n) : fv (fun i => lim v (k + i)) (min (k + m) n - k) = v / pw k % pw m := by
  rw [fv_congr (g := lim (v / pw k)) (fun i _ => (lim_div_pw v k i).symm), fv_lim]
  rcases Nat.le_total (k + m) n with h | h
  · rw [Nat.min_eq_left h, Nat.add_sub_cancel_left]
  · rw [Nat.min_eq_right h]
    rcases Nat.le_total k n with h2 | h2
    · have h3 : v / pw k < pw (n - k) := by
        rw [Nat.div_lt_iff_lt_mul (pw_pos k), ← pw_add, Nat.sub_add_cancel h2]; exact hv
      rw [Nat.mod_eq_of_lt h3, Nat.mod_eq_of_lt (Nat.lt_of_lt_of_le h3 (pw_le (by omega)))]
    · have h3 : v / pw k = 0 := Nat.div_eq_of_lt (Nat.lt_of_lt_of_le hv (pw_le h2))
      rw [h3]; simp
set_option maxHeartbeats 4000000 in
theorem pieces_of {L : Nat} (ih : TimesOk L) (A B : Option Addr) (n c m d a b : Nat) (w : World) (hL : n + m ≤ L) (h1 : Nm w A n a) (h2 : Nm w B m b) (hnc : n ≤ c) (hmd : m ≤ d) (hn : n ≤ 300000) (hm : 40 ≤ m) (hn2 : 2 * m ≤ n) :
    Calls Tryz.prog 390 #[.slice A n c, .slice B m d] w (NewNum w (a * b)) := by
  refine calls_cps ?_
  intro R hR
  have HR := Lib.hid (show ∀ A' k c' W', k ≤ c' → Nm W' A' k (a * b) → (∀ ad, A' = some ad → w.heap.size ≤ ad.block) → Below w.heap.size w W' → R (.returned (.slice A' k c')) W' from fun A' k c' W' g1 g2 g3 g4 => hR.out _ _ ⟨A', k, c', rfl, g1, g2, g3, g4⟩)
  obtain ⟨bl, oa, rfl, hbl, _⟩ := h1.2.at_ (k := 0) (by omega)
  have H := Lib.hid (And.intro h1 h2)
  clear hR h1 h2
  have hmk : (Instr.makeSlice 68 (.int .i64 ((n : Int) + (m : Int) + 1)) (.int .i64 ((n : Int) + (m : Int) + 1))).run Tryz.prog w = .ok (.slice (some ⟨w.heap.size, 0, none⟩) (n + m + 1) (n + m + 1)) (w.alloc (.cells (madeCells #[Value.int .u32 0] (n + m + 1)) 133)) := by
    have h := run_mkU (n + m + 1) (by omega) w .i64
    rwa [Int.natCast_add, Int.natCast_add] at h
  have HBk := Lib.hid (BlkU.new w (n + m + 1))
  have HbA := Lib.hid (below_new w (.cells (madeCells #[Value.int .u32 0] (n + m + 1)) 133))
  have Hne := Lib.hid (H.out.2.ne (Nat.le_refl _))
  obtain ⟨W1, hW1⟩ : ∃ W1, w.alloc (.cells (madeCells #[Value.int .u32 0] (n + m + 1)) 133) = W1 := ⟨_, rfl⟩
  obtain ⟨g, hg⟩ : ∃ g, w.heap.size = g := ⟨_, rfl⟩
  rw [hW1] at HBk HbA hmk
  rw [hg] at HBk HbA hmk Hne
  have Hg := Lib.hid hg
  obtain ⟨N, hN⟩ : ∃ N, n + m + 1 = N := ⟨_, rfl⟩
  have hN1 : N ≤ 700000 := by omega
  have hN2 : n + m < N := by omega
  rw [hN] at HBk hmk
  have Hroom := Lib.hid (show a * b < pw N from Nat.lt_of_lt_of_le (Nat.mul_lt_mul'' H.out.1.lt H.out.2.lt) (by rw [← pw_add]; exact pw_le (by omega)))
  clear hW1 hg hN
  go_enter Tryz.func390, Tryz.ntmps390
  go_wp2_with fail
  go_loopw [6] (fun s6 wr => ∃ (p : Nat) (o : Nat → Nat), s6 = .int .i64 (p : Nat) ∧ p ≤ n + m ∧ Hid (BlkU wr g N o ∧ fv o N = a % pw p * b) ∧ Hid (Below g w wr)) (fun s6 _ => n - (intOf s6).toNat)
  case atStart => exact ⟨0, fun _ => 0, rfl, Nat.zero_le _, Lib.hid ⟨HBk.out, by rw [fv_zero, pw_zero, Nat.mod_one, Nat.zero_mul]⟩, HbA⟩
  case round =>
    obtain ⟨p, o, rfl, hp, HI, HW⟩ := hrel
    by_cases hlt : p < n
    · have i1 : (p : Int) < (n : Int) := by omega
      obtain ⟨q, hq⟩ : ∃ q, min (p + m) n = q := ⟨_, rfl⟩
      have hq1 : p ≤ q := by omega
      have hq2 : q ≤ n := by omega
      have hq3 : q ≤ p + m := by omega
      have hmin : min ((p : Int) + (m : Int)) (n : Int) = (q : Int) := by omega
      have HA := Lib.hid (H.out.1.below (by rw [Hg.out]; exact HW.out))
      have HB2 := Lib.hid (H.out.2.below (by rw [Hg.out]; exact HW.out))
      have Hpv := Lib.hid (part_val (k := p) (m := m) H.out.1.lt)
      rw [hq] at Hpv
      have i2 : (p : Int) ≤ (q : Int) := by omega
      have i3 : (q : Int) ≤ (c : Int) := by omega
      have i4 : (0 : Int) ≤ (p : Int) := by omega
      clear hq
      go_wp2_with fail
      refine (trim_eq (some ⟨bl, oa + p, none⟩) (q - p) (c - p) (a / pw p % pw m) (fun i => lim a (p + i)) wr (HA.out.2.from_ (by omega)) (by omega) (by omega) Hpv.out).mono ?_
      rintro e w' ⟨rfl, rfl⟩
      have HP := Lib.hid (HA.out.2.from2 (k := p) (m := q - p) (by omega) Hpv.out)
      have hlp : ln (a / pw p % pw m) ≤ m := (ln_le_iff _ _).2 (Nat.mod_lt _ (pw_pos m))
      have hlq : ln (a / pw p % pw m) ≤ q - p := by rw [← Hpv.out]; exact (ln_le_iff _ _).2 (fv_lt (fun i _ => lim_lt a (p + i)))
      clear HA Hpv
      obtain ⟨y, hy⟩ : ∃ y, a / pw p % pw m = y := ⟨_, rfl⟩
      rw [hy] at HP hlp hlq ⊢
      have Hstep := Lib.hid (show a % pw (p + m) = a % pw p + y * pw p from by rw [pw_add, Nat.mod_mul, hy, Nat.mul_comm (pw p)])
      clear hy
      obtain ⟨ly, hly⟩ : ∃ x, ln y = x := ⟨_, rfl⟩
      rw [hly] at HP hlp hlq ⊢
      clear hly
      go_wp2_with fail
      refine (ih (some ⟨bl, oa + p, none⟩) B ly (c - p) m d y b wr (by omega) HP.out HB2.out (by omega) hmd (by omega) (by omega)).mono ?_
      rintro e w2 ⟨AP, np, cp, rfl, hp1, hp2, hp4, hp3⟩
      have HI2 := Lib.hid (show BlkU w2 g N o ∧ fv o N = a % pw p * b from ⟨HI.out.1.below hp3, HI.out.2⟩)
      have HP2 := Lib.hid hp2
      have Hb2 := Lib.hid (HW.out.trans (hp3.mono (Nat.le_of_lt HI.out.1.lt)))
      have hgl : g < wr.heap.size := HI.out.1.lt
      have HneP := Lib.hid (show 0 < np → ∀ ad, AP = some ad → ad.block ≠ g from fun _ ad e => by have := hp4 ad e; omega)
      have Hrm := Lib.hid (show a % pw p * b + y * b * pw p ≤ a * b from by
        have h1 : (a % pw p + y * pw p) * b ≤ a * b := Nat.mul_le_mul_right b (by rw [← Hstep.out]; exact Nat.mod_le _ _)
        rw [Nat.add_mul, Nat.mul_right_comm] at h1
        exact h1)
      clear hp2 hp3 hp4 hgl HI HW HP HB2
      go_wp2_with fail
      refine (addAt_any g N p AP np cp (y * b) o w2 HI2.out.1 HP2.out HneP.out (by omega) (by rw [HP2.out.1]; exact room_of (T := a * b) (by have := Hrm.out; omega) Hroom.out (by omega)) (by rw [HI2.out.2]; have := Hrm.out; have := Hroom.out; omega)).mono ?_
      rintro e w3 ⟨rfl, o3, hB3, hv3, hk3⟩
      have HI3 := Lib.hid (show BlkU w3 g N o3 ∧ fv o3 N = a % pw (p + m) * b from ⟨hB3, by rw [hv3, HI2.out.2, Hstep.out, Nat.add_mul, Nat.mul_right_comm]⟩)
      have Hb3 := Lib.hid (Kx.low Hb2.out hk3 (fun j hj => by omega) (Nat.le_of_lt HI2.out.1.lt))
      clear hB3 hv3 hk3 HI2 HP2 Hb2
      go_wp2_with fail
      exact ⟨⟨p + m, o3, by go_num, by omega, HI3, Hb3⟩, by simp [intOf]; omega⟩
    · have Hset := Lib.hid (show BlkU wr g N o ∧ fv o N = a * b from ⟨HI.out.1, by rw [HI.out.2, Nat.mod_eq_of_lt (Nat.lt_of_lt_of_le H.out.1.lt (pw_le (by omega)))]⟩)
      have i1 : (n : Int) ≤ (p : Int) := by omega
      go_wp2_with fail
      refine (trim_blk Hset.out (by omega)).mono ?_
      rintro e w' ⟨k, rfl, hk, hnm, rfl⟩
      have Hf := Lib.hid (HR.out _ k _ _ hk hnm (fresh_at (Nat.le_of_eq Hg.out)) (by rw [Hg.out]; exact HW.out))
      clear hnm
      go_wp2_with fail
      exact Hf.out
theorem times_step {L : Nat} (ih : TimesOk L) : TimesOk (L + 1) := by
  intro A B n c m d a b w hL h1 h2 hnc hmd hn hm
  refine calls_cps ?_
  intro R hR
  have HR := Lib.hid (show ∀ A' k c' W', k ≤ c' → Nm W' A' k (a * b) → (∀ ad, A' = some ad → w.heap.size ≤ ad.block) → Below w.heap.size w W' → R (.returned (.slice A' k c')) W' from fun A' k c' W' g1 g2 g3 g4 => hR.out _ _ ⟨A', k, c', rfl, g1, g2, g3, g4⟩)
  clear hR
  go_enter Tryz.func343, Tryz.ntmps343
  go_upto_if 9 with fail
  go_cut [0, 1] (fun s0 s1 wx => ∃ A1 n1 c1 B1 m1 d1 a1 b1, s0 = .slice A1 n1 c1 ∧ s1 = .slice B1 m1 d1 ∧ n1 ≤ 300000 ∧ m1 ≤ n1 ∧ n1 + m1 ≤ L ∧ n1 ≤ c1 ∧ m1 ≤ d1 ∧ Hid (Nm w A1 n1 a1 ∧ Nm w B1 m1 b1 ∧ a1 * b1 = a * b) ∧ w = wx)
  case first =>
    rcases Nat.lt_or_ge n m with hl | hl
    · have hb1 : decide ((n : Int) < (m : Int)) = true := decide_eq_true (by omega)
      have hb2 : decide (n < m) = true := decide_eq_true hl
      go_wp2_with fail
      go_meet
      exact ⟨B, m, d, A, n, c, b, a, rfl, rfl, hm, by omega, by omega, hmd, hnc, Lib.hid ⟨h2, h1, Nat.mul_comm _ _⟩, rfl⟩
    · have hb1 : decide ((n : Int) < (m : Int)) = false := decide_eq_false (by omega)
      have hb2 : decide (n < m) = false := decide_eq_false (by omega)
      go_wp2_with fail
      go_meet
      exact ⟨A, n, c, B, m, d, a, b, rfl, rfl, hn, hl, by omega, hnc, hmd, Lib.hid ⟨h1, h2, rfl⟩, rfl⟩
  case rest =>
    clear h1 h2 hn hm hnc hmd hL
    obtain ⟨A1, n1, c1, B1, m1, d1, a1, b1, e1, e2, hn, hm, hL, hnc, hmd, H, e3⟩ := hcut
    subst e1 e2 e3
    rcases Nat.eq_zero_or_pos m1 with h0 | h0
    · have hb0 : ((m1 : Int) == 0) = true := by simp [h0]
      have Hz := Lib.hid (show a * b = 0 from by
        rw [← H.out.2.2]
        have : b1 = 0 := ln_eq_zero.1 (by rw [← H.out.2.1.1, h0])
        rw [this, Nat.mul_zero])
      have Hf := Lib.hid (HR.out none 0 0 w (Nat.le_refl _) (by rw [Hz.out]; exact Nm.zero _ _) (fun ad e => by cases e) (Below.refl _ _))
      clear h0
      go_wp2_with fail
      exact Hf.out
    · have hb0 : ((m1 : Int) == 0) = false := by simp; omega
      by_cases hs : m1 < 40
      · have hb1 : decide ((m1 : Int) < 40) = true := decide_eq_true (by omega)
        have hi1 : (m1 : Int) < 40 := by omega
        go_wp2_with fail
        refine (school_any A1 B1 n1 c1 m1 d1 a1 b1 w H.out.1 H.out.2.1 (by omega) (by omega)).mono ?_
        rintro e w' ⟨A', k, c', rfl, g1, g2, g3, g4⟩
        have Hf := Lib.hid (HR.out A' k c' w' g1 (by rw [← H.out.2.2]; exact g2) g3 g4)
        clear g2 g3 g4
        go_wp2_with fail
        exact Hf.out
      · have hb1 : decide ((m1 : Int) < 40) = false := decide_eq_false (by omega)
        have hi1 : ¬ (m1 : Int) < 40 := by omega
        by_cases hp : 2 * m1 ≤ n1
        · have hb2 : decide ((2 : Int) * (m1 : Int) ≤ (n1 : Int)) = true := decide_eq_true (by omega)
          have hi2 : (2 : Int) * (m1 : Int) ≤ (n1 : Int) := by omega
          go_wp2_with fail
          refine (pieces_of ih A1 B1 n1 c1 m1 d1 a1 b1 w hL H.out.1 H.out.2.1 hnc hmd hn (by omega) hp).mono ?_
          rintro e w' ⟨A', k, c', rfl, g1, g2, g3, g4⟩
          have Hf := Lib.hid (HR.out A' k c' w' g1 (by rw [← H.out.2.2]; exact g2) g3 g4)
          clear g2 g3 g4
          go_wp2_with fail
          exact Hf.out
        · have hb2 : decide ((2 : Int) * (m1 : Int) ≤ (n1 : Int)) = false := decide_eq_false (by omega)
          have hi2 : ¬ (2 : Int) * (m1 : Int) ≤ (n1 : Int) := by omega
          go_wp2_with fail
          refine (karatsuba_of ih A1 B1 n1 c1 m1 d1 a1 b1 w hL H.out.1 H.out.2.1 hnc hmd hn (by omega) hm (by omega)).mono ?_
          rintro e w' ⟨A', k, c', rfl, g1, g2, g3, g4⟩
          have Hf := Lib.hid (HR.out A' k c' w' g1 (by rw [← H.out.2.2]; exact g2) g3 g4)
          clear g2 g3 g4
          go_wp2_with fail
          exact Hf.out
theorem times_all : ∀ L, TimesOk L
  | 0 => fun _ _ _ _ _ _ _ _ _ h => absurd h (Nat.not_lt_zero _)
  | L + 1 => times_step (times_all L)
theorem times_any (A B : Option Addr) (n c m d a b : Nat) (w : World) (h1 : Nm w A n a) (h2 : Nm w B m b) (hnc : n ≤ c) (hmd : m ≤ d) (hn : n ≤ 300000) (hm : m ≤ 300000) :
    Calls Tryz.prog 343 #[.slice A n c, .slice B m d] w (NewNum w (a * b)) := times_all (n + m + 1) A B n c m d a b w (Nat.lt_succ_self _) h1 h2 hnc hmd hn hm
end
section
open Go.RowKit
theorem or_low {h l r : Nat} (hl : l < 2 ^ r) (hh : h % 2 ^ r = 0) : l ||| h = h + l := by
  have hq : h = 2 ^ r * (h / 2 ^ r) := by have := Nat.div_add_mod h (2 ^ r); omega
  rw [Nat.or_comm, hq, ← Nat.two_pow_add_eq_or_of_lt hl]
/-- One limb that is moved up. -/
theorem up_step {o : Nat → Nat} {N p x r F : Nat} (hr : r < 32) (hx : x < 4294967296) (hN : p + 1 < N) (h : fv o N = F) (h1 : o p < 2 ^ r) (h0 : ∀ j, p < j → j < N → o j = 0) :
    (o p ||| (x * 2 ^ r % 4294967296)) < 4294967296 ∧ x * 2 ^ r / 4294967296 < 2 ^ r ∧ fv (upd1 (upd1 o p (o p ||| (x * 2 ^ r % 4294967296))) (p + 1) (x * 2 ^ r / 4294967296)) N = F + x * 2 ^ r * pw p := by
  have h32 : (4294967296 : Nat) = 2 ^ r * 2 ^ (32 - r) := by rw [← Nat.pow_add, show r + (32 - r) = 32 by omega]
  have hm : x * 2 ^ r % 4294967296 % 2 ^ r = 0 := by
    rw [h32, Nat.mod_mul_right_mod, Nat.mul_mod_left]
  have ho := or_low h1 hm
  have h2r : 2 ^ r ≤ 4294967296 := by
    rw [show (4294967296 : Nat) = 2 ^ 32 from rfl]; exact Nat.pow_le_pow_right (by omega) (by omega)
  have hlt := Nat.mod_lt (x * 2 ^ r) (show 0 < 4294967296 by omega)
  refine ⟨Nat.or_lt_two_pow (n := 32) (by omega) hlt, ?_, ?_⟩
  · rw [Nat.div_lt_iff_lt_mul (by omega), Nat.mul_comm]
    exact Nat.mul_lt_mul_of_pos_left hx (Nat.pow_pos (by omega))
  · rw [ho]
    obtain ⟨t, ht⟩ : ∃ t, x * 2 ^ r = t := ⟨_, rfl⟩
    rw [ht]
    have a1 := fv_upd (f := o) (k := p) (x := t % 4294967296 + o p) (n := N) (by omega)
    have a2 := fv_upd (f := upd1 o p (t % 4294967296 + o p)) (k := p + 1) (x := t / 4294967296) (n := N) hN
    rw [upd1_ne (by omega), h0 (p + 1) (by omega) hN, Nat.zero_mul, Nat.add_zero] at a2
    rw [a2]
    have a3 : (t % 4294967296 + 4294967296 * (t / 4294967296)) * pw p = t * pw p := by rw [Nat.mod_add_div]
    have a4 : t / 4294967296 * pw (p + 1) = 4294967296 * (t / 4294967296) * pw p := by rw [pw_succ, ← Nat.mul_assoc, Nat.mul_comm (t / 4294967296)]
    rw [Nat.add_mul] at a3 a1
    omega
theorem up_alg {v i q r x : Nat} (h : lim v i = x) : 2 ^ r * fv (lim v) i * pw q + x * 2 ^ r * pw (i + q) = 2 ^ r * fv (lim v) (i + 1) * pw q := by
  rw [fv_succ, h, pw_add, Nat.mul_add, Nat.add_mul]
  congr 1
  ac_rfl
set_option maxHeartbeats 2000000 in
theorem up_any (A : Option Addr) (n c v s : Nat) (w : World) (h1 : Nm w A n v) (hn : n ≤ 300000) (hs : s ≤ 10000000) :
    Calls Tryz.prog 339 #[.slice A n c, .int .i64 (s : Nat)] w (NewNum w (v * 2 ^ s)) := by
  refine calls_cps ?_
  intro R hR
  have HR := Lib.hid (show ∀ A' k c' W', k ≤ c' → Nm W' A' k (v * 2 ^ s) → (∀ ad, A' = some ad → w.heap.size ≤ ad.block) → Below w.heap.size w W' → R (.returned (.slice A' k c')) W' from fun A' k c' W' g1 g2 g3 g4 => hR.out _ _ ⟨A', k, c', rfl, g1, g2, g3, g4⟩)
  clear hR
  rcases Nat.eq_zero_or_pos n with h0 | h0
  · have hb0 : ((n : Int) == 0) = true := by simp [h0]
    have hv0 : v = 0 := ln_eq_zero.1 (by rw [← h1.1, h0])
    have Hf := Lib.hid (HR.out none 0 0 w (Nat.le_refl _) (by rw [hv0, Nat.zero_mul]; exact Nm.zero _ _) (fun ad e => by cases e) (Below.refl _ _))
    clear h0 hv0
    go_enter Tryz.func339, Tryz.ntmps339
    go_wp2_with fail
    exact Hf.out
  · have hb0 : ((n : Int) == 0) = false := by simp; omega
    obtain ⟨q, hq⟩ : ∃ q, s / 32 = q := ⟨_, rfl⟩
    obtain ⟨r, hr⟩ : ∃ r, s % 32 = r := ⟨_, rfl⟩
    have hqi : (s : Int) / 32 = (q : Int) := by omega
    have hri : (s : Int) % 32 = (r : Int) := by omega
    have hr32 : r < 32 := by omega
    have hq2 : q ≤ 400000 := by omega
    have Hs := Lib.hid (show v * 2 ^ s = 2 ^ r * v * pw q from by
      rw [pw_two, show s = 32 * q + r by omega, Nat.pow_add, Nat.mul_comm v, Nat.mul_assoc (2 ^ (32 * q)), Nat.mul_comm (2 ^ (32 * q))])
    have H1 := Lib.hid h1
    have hmk : (Instr.makeSlice 68 (.int .i64 ((n : Int) + (q : Int) + 1)) (.int .i64 ((n : Int) + (q : Int) + 1))).run Tryz.prog w = .ok (.slice (some ⟨w.heap.size, 0, none⟩) (n + q + 1) (n + q + 1)) (w.alloc (.cells (madeCells #[Value.int .u32 0] (n + q + 1)) 133)) := by
      have h := run_mkU (n + q + 1) (by omega) w .i64
      rwa [Int.natCast_add, Int.natCast_add] at h
    have HBk := Lib.hid (BlkU.new w (n + q + 1))
    have HbA := Lib.hid (below_new w (.cells (madeCells #[Value.int .u32 0] (n + q + 1)) 133))
    obtain ⟨W1, hW1⟩ : ∃ W1, w.alloc (.cells (madeCells #[Value.int .u32 0] (n + q + 1)) 133) = W1 := ⟨_, rfl⟩
    obtain ⟨g, hg⟩ : ∃ g, w.heap.size = g := ⟨_, rfl⟩
    rw [hW1] at HBk HbA hmk
    rw [hg] at HBk HbA hmk
    have Hg := Lib.hid hg
    clear hW1 hg h1 hq hr h0
    go_enter Tryz.func339, Tryz.ntmps339
    go_wp2_with fail
    go_loopw [27] (fun s27 wr => ∃ (i : Nat) (o : Nat → Nat), s27 = .int .i64 (i : Nat) ∧ i ≤ n ∧ Hid (BlkU wr g (n + q + 1) o ∧ fv o (n + q + 1) = 2 ^ r * fv (lim v) i * pw q ∧ o (i + q) < 2 ^ r ∧ (∀ j, i + q < j → j < n + q + 1 → o j = 0)) ∧ Hid (Below g w wr)) (fun s27 _ => n - (intOf s27).toNat)
    case atStart => exact ⟨0, fun _ => 0, rfl, Nat.zero_le _, Lib.hid ⟨HBk.out, by rw [fv_zero]; simp [fv], Nat.pow_pos (by omega), fun _ _ _ => rfl⟩, HbA⟩
    case round =>
      obtain ⟨i, o, rfl, hi, HI, HW⟩ := hrel
      by_cases hlt : i < n
      · have i1 : (i : Int) < (n : Int) := by omega
        obtain ⟨bl, oa, rfl, hbl, q0⟩ := (H1.out.2.below (by rw [Hg.out]; exact HW.out)).at_ hlt
        have hx := lim_lt v i
        obtain ⟨x, hxx⟩ : ∃ x, lim v i = x := ⟨_, rfl⟩
        rw [hxx] at q0 hx
        have Hxx := Lib.hid hxx
        clear hxx
        have f0 := HI.out.1.frozen
        have c0 := HI.out.1.cell (i := i + q) (by omega)
        have c1 := HI.out.1.cell (i := i + q + 1) (by omega)
        have hust := up_step (o := o) (N := n + q + 1) (p := i + q) hr32 hx (by omega) HI.out.2.1 HI.out.2.2.1 HI.out.2.2.2
        obtain ⟨hu1, hu2, hu3⟩ := hust
        have hxr : x * 2 ^ r < 18446744073709551616 := by
          have h1 : x * 2 ^ r < 4294967296 * 2 ^ r := Nat.mul_lt_mul_of_pos_right hx (Nat.pow_pos (by omega))
          have h2 : 2 ^ r ≤ 2 ^ 31 := Nat.pow_le_pow_right (by omega) (by omega)
          omega
        have hwr : IntKind.u64.wrap ((x : Int) * 2 ^ r) = ((x * 2 ^ r : Nat) : Int) := by
          have e : ((x : Int) * 2 ^ r) = ((x * 2 ^ r : Nat) : Int) := by simp
          rw [e]
          exact IntWalk.u64_in _ (by omega)
        have h2u : 2 ^ r ≤ 2 ^ 31 := Nat.pow_le_pow_right (by omega) (by omega)
        have He1 := Lib.hid (show bits .or .u32 ((o (i + q) : Nat) : Int) (IntKind.u64.wrap ((x : Int) * 2 ^ r) % 4294967296) = ((o (i + q) ||| (x * 2 ^ r % 4294967296) : Nat) : Int) from by
          rw [hwr, show (((x * 2 ^ r : Nat) : Int) % 4294967296) = ((x * 2 ^ r % 4294967296 : Nat) : Int) by omega]
          exact u32_or_nat _ _ (by have := HI.out.2.2.1; omega) (Nat.mod_lt _ (by omega)))
        have He2 := Lib.hid (show IntKind.u64.wrap ((x : Int) * 2 ^ r) / 4294967296 % 4294967296 = ((x * 2 ^ r / 4294967296 : Nat) : Int) from by
          rw [hwr]; omega)
        have Hn := Lib.hid (show BlkU ((wr.setCell ⟨g, i + q, none⟩ (.int .u32 ((o (i + q) ||| (x * 2 ^ r % 4294967296) : Nat) : Int))).setCell ⟨g, i + q + 1, none⟩ (.int .u32 ((x * 2 ^ r / 4294967296 : Nat) : Int))) g (n + q + 1) (upd1 (upd1 o (i + q) (o (i + q) ||| (x * 2 ^ r % 4294967296))) (i + q + 1) (x * 2 ^ r / 4294967296)) ∧ fv (upd1 (upd1 o (i + q) (o (i + q) ||| (x * 2 ^ r % 4294967296))) (i + q + 1) (x * 2 ^ r / 4294967296)) (n + q + 1) = 2 ^ r * fv (lim v) (i + 1) * pw q ∧ upd1 (upd1 o (i + q) (o (i + q) ||| (x * 2 ^ r % 4294967296))) (i + q + 1) (x * 2 ^ r / 4294967296) (i + 1 + q) < 2 ^ r ∧ (∀ j, i + 1 + q < j → j < n + q + 1 → upd1 (upd1 o (i + q) (o (i + q) ||| (x * 2 ^ r % 4294967296))) (i + q + 1) (x * 2 ^ r / 4294967296) j = 0) from by
          refine ⟨(HI.out.1.set _ _ hu1).set _ _ (by omega), ?_, ?_, fun j j1 j2 => ?_⟩
          · refine hu3.trans ?_
            exact up_alg Hxx.out
          · rw [show i + 1 + q = i + q + 1 by omega, upd1_self]; exact hu2
          · rw [upd1_ne (by omega), upd1_ne (by omega)]; exact HI.out.2.2.2 j (by omega) j2)
        clear hu1 hu2 hu3 hxr hwr h2u
        go_wp2_with fail
        rw [He1.out, He2.out]
        exact ⟨⟨i + 1, _, by go_num, by omega, Hn, Lib.hid ((HW.out.setCell (by simp) _).setCell (by simp) _)⟩, by simp [intOf]; omega⟩
      · obtain rfl : n = i := by omega
        have Hset := Lib.hid (show BlkU wr g (n + q + 1) o ∧ fv o (n + q + 1) = v * 2 ^ s from ⟨HI.out.1, by rw [HI.out.2.1, H1.out.val, Hs.out]⟩)
        go_wp2_with fail
        refine (trim_blk Hset.out (by omega)).mono ?_
        rintro e w' ⟨k, rfl, hk, hnm, rfl⟩
        have Hf := Lib.hid (HR.out _ k _ _ hk hnm (fresh_at (Nat.le_of_eq Hg.out)) (by rw [Hg.out]; exact HW.out))
        clear hnm
        go_wp2_with fail
        exact Hf.out
theorem fv_lt_pw {f : Nat → Nat} {n : Nat} (h : Lm f n) : fv f n < pw n := fv_lt h
/-- What down leaves: below i the new limbs, from i on the elder ones. -/
def dwn (y r i : Nat) : Nat → Nat := fun j => if j < i then lim (y / 2 ^ r) j else lim y j
theorem dwn_upd {y r i : Nat} : ∀ j, upd1 (dwn y r i) i (lim (y / 2 ^ r) i) j = dwn y r (i + 1) j := fun j => by
  unfold upd1 dwn
  by_cases h : j = i
  · subst h; simp
  · by_cases h2 : j < i
    · rw [if_neg h, if_pos h2, if_pos (by omega)]
    · rw [if_neg h, if_neg h2, if_neg (by omega)]
theorem dwn_Lm (y r i n : Nat) : Lm (dwn y r i) n := fun j _ => by
  unfold dwn; split <;> exact lim_lt _ _
set_option maxHeartbeats 2000000 in
theorem down_any (A : Option Addr) (n c v s : Nat) (w : World) (h1 : Nm w A n v) (hnc : n ≤ c) (hn : n ≤ 600000) (hs : s ≤ 30000000) :
    Calls Tryz.prog 337 #[.slice A n c, .int .i64 (s : Nat)] w (NewNum w (v / 2 ^ s)) := by
  refine calls_cps ?_
  intro R hR
  have HR := Lib.hid (show ∀ A' k c' W', k ≤ c' → Nm W' A' k (v / 2 ^ s) → (∀ ad, A' = some ad → w.heap.size ≤ ad.block) → Below w.heap.size w W' → R (.returned (.slice A' k c')) W' from fun A' k c' W' g1 g2 g3 g4 => hR.out _ _ ⟨A', k, c', rfl, g1, g2, g3, g4⟩)
  clear hR
  obtain ⟨q, hq⟩ : ∃ q, s / 32 = q := ⟨_, rfl⟩
  obtain ⟨r, hr⟩ : ∃ r, s % 32 = r := ⟨_, rfl⟩
  have hqi : (s : Int) / 32 = (q : Int) := by omega
  have hri : (s : Int) % 32 = (r : Int) := by omega
  have hr32 : r < 32 := by omega
  have hq2 : q ≤ 1000000 := by omega
  have Hs := Lib.hid (show v / 2 ^ s = v / pw q / 2 ^ r from by
    rw [pw_two, Nat.div_div_eq_div_mul, ← Nat.pow_add, show 32 * q + r = s by omega])
  clear hq hr
  rcases Nat.lt_or_ge q n with hl | hl
  · obtain ⟨bl, oa, rfl, hbl, _⟩ := h1.2.at_ hl
    have H1 := Lib.hid h1
    have Hh := Lib.hid (h1.high (k := q) (by omega))
    have i0 : decide ((n : Int) ≤ (q : Int)) = false := decide_eq_false (by omega)
    have i00 : decide (n ≤ q) = false := decide_eq_false (by omega)
    have i1 : (q : Int) < (n : Int) := by omega
    have i2 : (q : Int) ≤ (c : Int) := by omega
    have i3 : (q : Int) < (c : Int) := by omega
    have i4 : (n : Int) ≤ (c : Int) := by omega
    have i5 : q < c := by omega
    clear h1
    go_enter Tryz.func337, Tryz.ntmps337
    go_wp2_with fail
    refine (own_any (some ⟨bl, oa + q, none⟩) (n - q) (c - q) (lim (v / pw q)) w Hh.out.2 (by omega)).mono ?_
    rintro e w1 ⟨A1, c1, rfl, hc1, ho, hb1⟩
    obtain ⟨m, hm⟩ : ∃ m, n - q = m := ⟨_, rfl⟩
    obtain ⟨y, hy⟩ : ∃ y, v / pw q = y := ⟨_, rfl⟩
    rw [hm] at ho Hh hc1 ⊢
    rw [hy] at ho Hh Hs
    have hm0 : 0 < m := by omega
    have hm1 : m ≤ 600000 := by omega
    obtain ⟨g, cg, hv, hg0, hg1⟩ := ho.form hm0
    have hA : A1 = some ⟨g, 0, none⟩ := by injection hv
    subst hA
    have HBk := Lib.hid (show BlkU w1 g m (dwn y r 0) from (BlkU.of_own (lim_Lm y m) ho).congr fun i _ => by unfold dwn; rw [if_neg (Nat.not_lt_zero _)])
    have HbA := Lib.hid hb1
    have Hy := Lib.hid (show y < pw m from Hh.out.lt)
    clear ho hb1 hv hy hm hl H1 i0 i00 i1 i2 i3 i4 i5
    go_wp2_with fail
    go_loopw [25] (fun s25 wr => ∃ (i : Nat), s25 = .int .i64 (i : Nat) ∧ i ≤ m ∧ Hid (BlkU wr g m (dwn y r i)) ∧ Hid (Below w.heap.size w wr)) (fun s25 _ => m - (intOf s25).toNat)
    case atStart => exact ⟨0, rfl, Nat.zero_le _, HBk, HbA⟩
    case round =>
      obtain ⟨i, rfl, hi, HI, HW⟩ := hrel
      by_cases hlt : i < m
      · have i1 : (i : Int) < (m : Int) := by omega
        have f0 := HI.out.frozen
        have c0 := HI.out.cell (i := i) (by omega)
        have hx : dwn y r i i = lim y i := by unfold dwn; rw [if_neg (Nat.lt_irrefl _)]
        rw [hx] at c0
        have hxl := lim_lt y i
        have hst := down_step (y := y) (i := i) hr32
        obtain ⟨x, hxx⟩ : ∃ x, lim y i = x := ⟨_, rfl⟩
        rw [hxx] at c0 hxl hst
        clear hx hxx
        by_cases hnx : i + 1 < m
        · have i2 : (i : Int) + 1 < (m : Int) := by omega
          have c1 := HI.out.cell hnx
          have hx1 : dwn y r i (i + 1) = lim y (i + 1) := by unfold dwn; rw [if_neg (by omega)]
          rw [hx1] at c1
          have hzl := lim_lt y (i + 1)
          obtain ⟨z, hzz⟩ : ∃ z, lim y (i + 1) = z := ⟨_, rfl⟩
          rw [hzz] at c1 hzl hst
          have Hst := Lib.hid hst
          clear hx1 hzz hst
          have He := Lib.hid (show bits .or .u64 (x : Int) ((z : Int) * 4294967296) / 2 ^ r % 4294967296 = ((lim (y / 2 ^ r) i : Nat) : Int) from by
            have e1 : bits .or .u64 (x : Int) ((z * 4294967296 : Nat) : Int) = ((x ||| z * 4294967296 : Nat) : Int) := u64_or_nat x (z * 4294967296) (by omega) (by omega)
            have e2 : x ||| z * 4294967296 = z * 4294967296 + x := or_low (r := 32) (by omega) (by omega)
            have e3 : ((z : Int) * 4294967296) = ((z * 4294967296 : Nat) : Int) := by simp
            rw [e3, e1, e2, Hst.out, show x + 4294967296 * z = z * 4294967296 + x by omega]
            simp)
          have Hn := Lib.hid ((HI.out.set i (lim (y / 2 ^ r) i) (lim_lt _ _)).congr fun j _ => dwn_upd j)
          have Hbn := Lib.hid (show Below w.heap.size w (wr.setCell ⟨g, i, none⟩ (.int .u32 ((lim (y / 2 ^ r) i : Nat) : Int))) from HW.out.setCell (by simp; omega) _)
          go_wp2_with fail
          rw [He.out]
          exact ⟨⟨i + 1, by go_num, by omega, Hn, Hbn⟩, by simp [intOf]; omega⟩
        · have i2 : ¬ (i : Int) + 1 < (m : Int) := by omega
          have i3 : decide ((i : Int) + 1 < (m : Int)) = false := decide_eq_false i2
          have hz : lim y (i + 1) = 0 := lim_ge (Nat.lt_of_lt_of_le Hy.out (pw_le (by omega)))
          rw [hz, Nat.mul_zero, Nat.add_zero] at hst
          have Hst := Lib.hid hst
          clear hz hst
          have He := Lib.hid (show (x : Int) / 2 ^ r % 4294967296 = ((lim (y / 2 ^ r) i : Nat) : Int) from by
            rw [Hst.out]; simp)
          have Hn := Lib.hid ((HI.out.set i (lim (y / 2 ^ r) i) (lim_lt _ _)).congr fun j _ => dwn_upd j)
          have Hbn := Lib.hid (show Below w.heap.size w (wr.setCell ⟨g, i, none⟩ (.int .u32 ((lim (y / 2 ^ r) i : Nat) : Int))) from HW.out.setCell (by simp; omega) _)
          go_wp2_with fail
          rw [He.out]
          exact ⟨⟨i + 1, by go_num, by omega, Hn, Hbn⟩, by simp [intOf]; omega⟩
      · obtain rfl : m = i := by omega
        have Hset := Lib.hid (show BlkU wr g m (lim (y / 2 ^ r)) ∧ fv (lim (y / 2 ^ r)) m = v / 2 ^ s from ⟨HI.out.congr fun j hj => by unfold dwn; rw [if_pos hj], by rw [Hs.out, fv_lim_eq (Nat.lt_of_le_of_lt (Nat.div_le_self _ _) Hy.out)]⟩)
        go_wp2_with fail
        refine (natTrim_any (some ⟨g, 0, none⟩) m c1 (lim (y / 2 ^ r)) wr (Hset.out.1.rd0 m (Nat.le_refl _)) hc1 (by omega)).mono ?_
        rintro e w' ⟨k, rfl, hk, hnm, rfl⟩
        have Hf := Lib.hid (HR.out _ k c1 _ (by omega) (by rw [← Hset.out.2]; exact hnm) (fresh_at hg0) HW.out)
        clear hnm
        go_wp2_with fail
        exact Hf.out
  · have i0 : decide ((n : Int) ≤ (q : Int)) = true := decide_eq_true (by omega)
    have i00 : decide (n ≤ q) = true := decide_eq_true (by omega)
    have i1 : (n : Int) ≤ (q : Int) := by omega
    have Hf := Lib.hid (HR.out none 0 0 w (Nat.le_refl _) (by rw [Hs.out, Nat.div_eq_of_lt (Nat.lt_of_lt_of_le h1.lt (pw_le hl)), Nat.zero_div]; exact Nm.zero _ _) (fun ad e => by cases e) (Below.refl _ _))
    go_enter Tryz.func337, Tryz.ntmps337
    go_wp2_with fail
    exact Hf.out
end
end Go.Proofs.YtndcijkgaadpgaaGreatDoor
