/-
  Contracts of the references' Pow, Left, Root, Sides, Octave, Times, Freq, May, Closes and Tones; each states its condition.
-/
import Derived.Test.YtojbldoekalbnaaGreatNQy
namespace Go.Proofs.YtojbldoekalbnaaGreat
section
section
theorem ln_pow_g (a n : Nat) : ln (a ^ n) ≤ ln a * n + 1 := by
  rcases Nat.eq_zero_or_pos a with h | h
  · subst h
    refine Nat.le_trans ((ln_le_iff 1 _).2 ?_) (by omega)
    rw [pw_one]
    rcases Nat.eq_zero_or_pos n with h | h
    · subst h; decide
    · rw [Nat.zero_pow h]; decide
  · rw [ln_le_iff]
    refine Nat.lt_of_le_of_lt (Nat.pow_le_pow_left (Nat.le_of_lt (lt_pw_ln a)) n) ?_
    unfold pw
    rw [← Nat.pow_mul]
    exact Nat.pow_lt_pow_right (by omega) (by omega)
theorem half_pow (a n k : Nat) : (n / 2 ^ k % 2 = 0 → a ^ (n / 2 ^ (k + 1)) * a ^ (n / 2 ^ (k + 1)) = a ^ (n / 2 ^ k)) ∧ (n / 2 ^ k % 2 = 1 → a ^ (n / 2 ^ (k + 1)) * a ^ (n / 2 ^ (k + 1)) * a = a ^ (n / 2 ^ k)) := by
  have e : n / 2 ^ (k + 1) = n / 2 ^ k / 2 := by rw [Nat.pow_succ, Nat.div_div_eq_div_mul]
  obtain ⟨m, hm⟩ : ∃ m, n / 2 ^ k = m := ⟨_, rfl⟩
  rw [e, hm, ← Nat.pow_add]
  refine ⟨fun h => by congr 1; omega, fun h => ?_⟩
  rw [← Nat.pow_succ]; congr 1; omega
/-- The bits of the root from the top: one step. -/
theorem root_bit (r i : Nat) : (r / 2 ^ (i + 1) * 2 ^ (i + 1) + 2 ^ i ≤ r → r / 2 ^ (i + 1) * 2 ^ (i + 1) + 2 ^ i = r / 2 ^ i * 2 ^ i) ∧ (¬ r / 2 ^ (i + 1) * 2 ^ (i + 1) + 2 ^ i ≤ r → r / 2 ^ (i + 1) * 2 ^ (i + 1) = r / 2 ^ i * 2 ^ i) := by
  have e : r / 2 ^ (i + 1) = r / 2 ^ i / 2 := by rw [Nat.pow_succ, Nat.div_div_eq_div_mul]
  have hp : 0 < 2 ^ i := Nat.pow_pos (by omega)
  have h1 := Nat.div_mul_le_self r (2 ^ i)
  have h2 := Nat.lt_div_mul_add hp (a := r)
  rw [e, Nat.pow_succ]
  obtain ⟨P, hP⟩ : ∃ P, 2 ^ i = P := ⟨_, rfl⟩
  rw [hP] at hp h1 h2 ⊢
  obtain ⟨m, hm⟩ : ∃ m, r / P = m := ⟨_, rfl⟩
  rw [hm] at h1 h2 ⊢
  clear hm e
  rcases Nat.mod_two_eq_zero_or_one m with h | h
  · obtain ⟨k, rfl⟩ : ∃ k, m = 2 * k := ⟨m / 2, by omega⟩
    have e2 : 2 * k / 2 = k := by omega
    rw [e2]
    have e3 : k * (P * 2) = 2 * k * P := by rw [Nat.mul_comm P 2, ← Nat.mul_assoc, Nat.mul_comm k 2]
    rw [e3]
    exact ⟨fun h3 => absurd h3 (by omega), fun _ => rfl⟩
  · obtain ⟨k, rfl⟩ : ∃ k, m = 2 * k + 1 := ⟨m / 2, by omega⟩
    have e2 : (2 * k + 1) / 2 = k := by omega
    rw [e2]
    have e3 : k * (P * 2) = 2 * k * P := by rw [Nat.mul_comm P 2, ← Nat.mul_assoc, Nat.mul_comm k 2]
    have e4 : (2 * k + 1) * P = 2 * k * P + P := by rw [Nat.add_mul, Nat.one_mul]
    rw [e3, e4]
    exact ⟨fun _ => rfl, fun h => absurd (by rw [e4] at h1; exact h1) h⟩
theorem root_one_of {a n : Nat} (ha : 0 < a) (h : bitsN a ≤ n) : root n a = 1 := by
  have hn : 0 < n := by have := bitsN_pos ha; omega
  refine root_eq hn (by rw [Nat.one_pow]; exact ha) ?_
  exact Nat.lt_of_lt_of_le (lt_two_bits a) (Nat.pow_le_pow_right (by omega) h)
theorem root_top {a n : Nat} (hn : 0 < n) : root n a / 2 ^ ((bitsN a - 1) / n + 1) = 0 := by
  refine Nat.div_eq_of_lt (root_lt hn ?_)
  rw [← Nat.pow_mul]
  refine Nat.lt_of_lt_of_le (lt_two_bits a) (Nat.pow_le_pow_right (by omega) ?_)
  have := Nat.lt_div_mul_add hn (a := bitsN a - 1)
  rw [Nat.add_mul, Nat.one_mul]
  omega
theorem pow_le_root {a n s : Nat} (hn : 0 < n) : s ^ n ≤ a ↔ s ≤ root n a := ⟨fun h => le_root hn h, fun h => Nat.le_trans (Nat.pow_le_pow_left h n) (root_le hn)⟩
theorem flr_floor {o u : Nat} {d : Int} (hd : 0 < d) : ((bitsN o : Int) - bitsN u - 1) / d ≤ flr o u / d := by
  refine Int.ediv_le_ediv hd ?_
  unfold flr
  split <;> omega
theorem against_iff {o u : Nat} (ho : 0 < o) (hu : 0 < u) {m d : Int} (hd : 0 < d) : le2 (m * d) o u ↔ m ≤ flr o u / d := by
  rw [le2_iff ho hu, Int.le_ediv_iff_mul_le hd]
end
section
open Go.RowKit
theorem rof_one (w : World) : Calls Tryz.prog 99 #[.int .u64 1] w (GetsNum w 1) := rOf_any 1 w (by decide)
theorem two_half (k : Nat) : (2 : Nat) ^ (k + 1) / 2 = 2 ^ k := by rw [Nat.pow_succ]; omega
/-- The bit that Pow looks at: 2^k in the round k + 1 from the end, 0 behind the last one. -/
def bitAt : Nat → Nat
  | 0 => 0
  | k + 1 => 2 ^ k
theorem bitAt_half (k : Nat) : bitAt (k + 1) / 2 = bitAt k := by
  cases k with
  | zero => rfl
  | succ k => exact two_half k
set_option maxRecDepth 16000 in
set_option maxHeartbeats 4000000 in
theorem rpow_any (V : Value) (a n : Nat) (w : World) (g1 : Num w V a) (hl : ln a * n ≤ 90000) (hla : ln a ≤ 90000) (hn : n ≤ 1000000) :
    Calls Tryz.prog 102 #[V, .int .i64 (n : Int)] w (GetsNum w (a ^ n)) := by
  refine calls_cps ?_
  intro R hR
  have HR := Lib.hid (show ∀ V W, Num W V (a ^ n) → Below w.heap.size w W → R (.returned V) W from fun V W g1 g2 => hR.out _ _ ⟨V, rfl, g1, g2⟩)
  have G1 := Lib.hid g1
  have Hln := Lib.hid (show ∀ k, ln (a ^ (n / 2 ^ k)) ≤ 90001 from fun k => by
    refine Nat.le_trans (ln_pow_g _ _) ?_
    have := Nat.mul_le_mul_left (ln a) (Nat.div_le_self n (2 ^ k))
    omega)
  have Hsq := Lib.hid (show ∀ k, ln (a ^ (n / 2 ^ (k + 1)) * a ^ (n / 2 ^ (k + 1))) ≤ 90001 from fun k => by
    have e : n / 2 ^ (k + 1) = n / 2 ^ k / 2 := by rw [Nat.pow_succ, Nat.div_div_eq_div_mul]
    rw [← Nat.pow_add]
    refine Nat.le_trans (ln_pow_g _ _) ?_
    have h1 := Nat.div_le_self n (2 ^ k)
    have := Nat.mul_le_mul_left (ln a) (show n / 2 ^ (k + 1) + n / 2 ^ (k + 1) ≤ n by omega)
    omega)
  have Hn := Lib.hid (show n / 2 ^ 41 = 0 from Nat.div_eq_of_lt (by omega))
  have hla1 : ln a ≤ 100000 := by omega
  clear hR g1 hl hla
  go_enter Tryz.func102, Tryz.ntmps102
  go_upto_region 2 with ((with_reducible refine (rof_one _).mono ?_); rintro e w1 ⟨V1, rfl, hV1, hb1⟩)
  have HV := Lib.hid hV1
  have HW := Lib.hid hb1
  clear hV1 hb1
  go_wp2_with fail
  go_loopw [5, 6] (fun s5 s6 wr => ∃ (V5 : Value) (k p : Nat), V5 = s5 ∧ s6 = .int .i64 (p : Nat) ∧ p ≤ 1099511627776 ∧ Hid (bitAt k = p ∧ k ≤ 41) ∧ Hid (Num wr V5 (a ^ (n / 2 ^ k))) ∧ Hid (Below w.heap.size w wr)) (fun _ s6 _ => (intOf s6).toNat)
  case atStart => exact ⟨_, 41, 1099511627776, rfl, rfl, Nat.le_refl _, Lib.hid ⟨by decide, Nat.le_refl _⟩, Lib.hid (by rw [Hn.out, Nat.pow_zero]; exact HV.out), HW⟩
  case round =>
    obtain ⟨V5, k, p, rfl, rfl, hp, HK, HN, HW⟩ := hrel
    rcases k with _ | k
    · have hp0 : p = 0 := HK.out.1.symm
      subst hp0
      have Hf := Lib.hid (HR.out V5 wr (by have h := HN.out; rwa [Nat.pow_zero, Nat.div_one] at h) HW.out)
      go_wp2_with fail
      exact Hf.out
    · have hp1 : 0 < p := by rw [← HK.out.1]; exact Nat.pow_pos (by omega)
      obtain ⟨q, hq⟩ : ∃ q, p / 2 = q := ⟨_, rfl⟩
      have HK2 := Lib.hid (show bitAt k = q ∧ k ≤ 41 from ⟨by rw [← hq, ← HK.out.1, bitAt_half], by have := HK.out.2; omega⟩)
      have qi : (p : Int) / 2 = (q : Int) := by omega
      have hq2 : q ≤ 1099511627776 := by omega
      have hqp : q < p := by omega
      obtain ⟨m, hm⟩ : ∃ m, n / p = m := ⟨_, rfl⟩
      have mi : (n : Int) / (p : Int) = (m : Int) := by rw [← hm]; exact (Int.natCast_ediv n p).symm
      have hmn : m ≤ 1000000 := by have := Nat.div_le_self n p; omega
      have Hm := Lib.hid (show n / 2 ^ k = m by rw [← hm, ← HK.out.1]; rfl)
      have i1 : (0 : Int) < (p : Int) := by omega
      have i0 : (0 : Int) ≤ (p : Int) := by omega
      have Hh := Lib.hid (half_pow a n k)
      obtain ⟨X, hX⟩ : ∃ X, a ^ (n / 2 ^ (k + 1)) = X := ⟨_, rfl⟩
      have Hl1 := Hln.out (k + 1)
      have Hl2 := Hsq.out k
      rw [hX] at Hh HN Hl1 Hl2
      have hl1 : ln X ≤ 100000 := by omega
      have hl2 : ln (X * X) ≤ 100000 := by omega
      clear hX hq hm Hl1 Hl2
      rcases Nat.mod_two_eq_zero_or_one m with h2 | h2
      · have t1 : (m : Int) % 2 = 0 := by omega
        have t2 : m % 2 = 0 := h2
        have He := Lib.hid (Hh.out.1 (by rw [Hm.out]; exact h2))
        go_wp2_with ((with_reducible refine (rmul_any V5 V5 X X _ HN.out HN.out hl1 hl1).mono ?_); rintro e w2 ⟨V2, rfl, hV2, hb2⟩)
        exact ⟨⟨_, k, q, rfl, by rfl, hq2, HK2, Lib.hid (by rw [← He.out]; exact hV2), Lib.hid (HW.out.trans (hb2.mono HW.out.size))⟩, by simp [intOf]; omega⟩
      · have t1 : (m : Int) % 2 = 1 := by omega
        have t2 : m % 2 = 1 := h2
        have He := Lib.hid (Hh.out.2 (by rw [Hm.out]; exact h2))
        go_wp2_with (first
          | ((with_reducible refine (rmul_any V5 V5 X X _ HN.out HN.out hl1 hl1).mono ?_); rintro e w2 ⟨V2, rfl, hV2, hb2⟩; have H2 := Lib.hid (show Num w2 V2 (X * X) ∧ Num w2 V a from ⟨hV2, (G1.out.below HW.out).below hb2⟩); have Hb2 := Lib.hid (HW.out.trans (hb2.mono HW.out.size)); clear hV2 hb2)
          | ((with_reducible refine (rmul_any V2 V (X * X) a _ H2.out.1 H2.out.2 hl2 hla1).mono ?_); rintro e w3 ⟨V3, rfl, hV3, hb3⟩))
        exact ⟨⟨_, k, q, rfl, by rfl, hq2, HK2, Lib.hid (by rw [← He.out]; exact hV3), Lib.hid (Hb2.out.trans (hb3.mono Hb2.out.size))⟩, by simp [intOf]; omega⟩
end
end
section
section
open Go.RowKit
theorem cmpN_pos {a b : Nat} (h : b < a) : 0 < cmpN a b := by unfold cmpN; rw [if_neg (by omega), if_neg (by omega)]; omega
theorem cmpN_le0 {a b : Nat} (h : a ≤ b) : cmpN a b ≤ 0 := by unfold cmpN; split <;> (try split) <;> omega
set_option maxRecDepth 16000 in
set_option maxHeartbeats 4000000 in
theorem rleft_any (V : Value) (a n : Nat) (w : World) (g1 : Num w V a) (hla : ln a ≤ 50000) (hn : n ≤ 100000) :
    Calls Tryz.prog 140 #[V, .int .i64 (n : Int)] w (GetsNum w (a * 2 ^ n)) := by
  have G1 := Lib.hid g1
  obtain ⟨A, m, c, rfl, hmc, h1⟩ := g1
  have hm : m ≤ 50000 := by rw [h1.1]; exact hla
  refine calls_cps ?_
  intro R hR
  have HR := Lib.hid (show ∀ V W, Num W V (a * 2 ^ n) → Below w.heap.size w W → R (.returned V) W from fun V W g1 g2 => hR.out _ _ ⟨V, rfl, g1, g2⟩)
  have Hs := Lib.hid (RowU.start w)
  have Hb := Lib.hid (below_new w (.cells #[] 137))
  have Hva := Lib.hid h1.val
  obtain ⟨q, hq⟩ : ∃ q, n / 32 = q := ⟨_, rfl⟩
  obtain ⟨r, hr⟩ : ∃ r, n % 32 = r := ⟨_, rfl⟩
  have qi : (n : Int) / 32 = (q : Int) := by omega
  have ri : (n : Int) % 32 = (r : Int) := by omega
  have hqn : q ≤ 4000 := by omega
  have hr32 : r < 32 := by omega
  have Hpw := Lib.hid (show ∀ x, x * pw q * 2 ^ r = x * 2 ^ n from fun x => by
    rw [pw_two, Nat.mul_assoc, ← Nat.pow_add, show 32 * q + r = n by omega])
  have hlq : ln (a * pw q) ≤ 100000 := by
    refine Nat.le_trans (ln_mul_le _ _) ?_
    have : ln (pw q) ≤ q + 1 := (ln_le_iff _ _).2 (pw_lt (Nat.lt_succ_self q))
    omega
  clear hR hla h1 hq hr
  obtain ⟨W1, hW1⟩ : ∃ W, w.alloc (.cells #[] 137) = W := ⟨_, rfl⟩
  obtain ⟨g, hg⟩ : ∃ g, w.heap.size = g := ⟨_, rfl⟩
  rw [hW1] at Hs Hb
  rw [hg] at Hs Hb
  have HW1 := Lib.hid hW1
  have Hg := Lib.hid hg
  clear hW1 hg
  go_enter Tryz.func140, Tryz.ntmps140
  go_upto_region 2 with fail
  rw [HW1.out, Hg.out]
  go_wp2_with fail
  go_loopw [5, 6] (fun s5 s6 wr => ∃ (i c5 : Nat) (A5 : Option Addr) (o : Nat → Nat), s5 = .slice A5 i c5 ∧ s6 = .int .i64 (i : Nat) ∧ i ≤ q ∧ Hid (RowU wr g (.slice A5 i c5) i o ∧ Lm o i ∧ fv o i = 0) ∧ Hid (Below g w wr)) (fun _ s6 _ => q - (intOf s6).toNat)
  case atStart => exact ⟨0, 0, _, fun _ => 0, rfl, rfl, Nat.zero_le _, Lib.hid ⟨Hs.out, fun i hi => by omega, rfl⟩, Hb⟩
  case round =>
    obtain ⟨i, c5, A5, o, rfl, rfl, hi, HI, HW⟩ := hrel
    have hsz : g ≤ wr.heap.size := by have := HW.out.size; rw [Hg.out] at this; exact this
    rcases Nat.lt_or_ge i q with hlt | hge
    · have i1 : (i : Int) < (q : Int) := by omega
      go_wp2_with (at_builtin; refine wpList_app rfl (.tmp 17) (.tmp 18) _ rfl elemN g _ _ _ rfl (HI.out.1.below (below_new wr _)) _ _ _ _ rfl (Sl.new wr _ _ 1 1 rfl) (by simp [Value.oneCell']) (by unfold maxLen; omega) (by omega) (by simp; omega) ?_; intro A8 c8 w5 ho5 hg5 _)
      have hb5 : Below g w w5 := RowU.app_below (HW.out.alloc hsz (.cells #[.int .u32 ((0 : Nat) : Int)] 137)) (HI.out.1.below (below_new wr (.cells #[.int .u32 ((0 : Nat) : Int)] 137))) (by simp; omega) hg5
      have HF := Lib.hid (And.intro (RowU.snoc (x := 0) ho5) hb5)
      clear ho5 hg5 hb5
      exact ⟨⟨i + 1, c8, A8, _, rfl, by go_num, by omega, Lib.hid ⟨HF.out.1, fun j hj => by
        by_cases e : j = i
        · subst e; rw [upd1_self]; omega
        · rw [upd1_ne e]; exact HI.out.2.1 j (by omega), by rw [fv_succ, upd1_self, Nat.zero_mul, Nat.add_zero, fv_upd_out (Nat.le_refl _)]; exact HI.out.2.2⟩, Lib.hid HF.out.2⟩, by simp [intOf]; omega⟩
    · obtain rfl : q = i := by omega
      clear hge
      go_wp2_with fail
      go_loopw [5, 7] (fun s5 s7 wr => ∃ (j c5 : Nat) (A5 : Option Addr) (o : Nat → Nat), s5 = .slice A5 (q + j) c5 ∧ s7 = .int .i64 (j : Nat) ∧ j ≤ m ∧ Hid (RowU wr g (.slice A5 (q + j) c5) (q + j) o ∧ Lm o (q + j) ∧ fv o (q + j) = pw q * fv (lim a) j) ∧ Hid (Below g w wr)) (fun _ s7 _ => m - (intOf s7).toNat)
      case atStart => exact ⟨0, c5, A5, o, rfl, rfl, Nat.zero_le _, Lib.hid ⟨HI.out.1, HI.out.2.1, HI.out.2.2⟩, HW⟩
      case round =>
        clear HI HW hsz
        obtain ⟨j, c5', A5', o', rfl, rfl, hj, HI, HW⟩ := hrel
        have hsz : g ≤ wr.heap.size := by have := HW.out.size; rw [Hg.out] at this; exact this
        rcases Nat.lt_or_ge j m with hlt | hge
        · have j1 : (j : Int) < (m : Int) := by omega
          obtain ⟨A', m', c', e', hmc', hN⟩ := G1.out
          injection e' with e1 e2 e3
          subst e1 e2 e3
          obtain ⟨bl, oa, rfl, hbl, q0⟩ := (hN.2.below (by rw [Hg.out]; exact HW.out)).at_ hlt
          have hx := lim_lt a j
          obtain ⟨x, hxx⟩ : ∃ x, lim a j = x := ⟨_, rfl⟩
          rw [hxx] at q0 hx
          have Hxx := Lib.hid hxx
          clear hxx hN hmc'
          go_wp2_with (at_builtin; refine wpList_app rfl (.tmp 26) (.tmp 31) _ rfl elemN g _ _ _ rfl (HI.out.1.below (below_new wr _)) _ _ _ _ rfl (Sl.new wr _ _ 1 1 rfl) (by simp [Value.oneCell']) (by unfold maxLen; omega) (by omega) (by simp; omega) ?_; intro A8 c8 w5 ho5 hg5 _)
          have hb5 : Below g w w5 := RowU.app_below (HW.out.alloc hsz (.cells #[.int .u32 (x : Nat)] 137)) (HI.out.1.below (below_new wr (.cells #[.int .u32 (x : Nat)] 137))) (by simp; omega) hg5
          have HF := Lib.hid (And.intro (RowU.snoc ho5) hb5)
          clear ho5 hg5 hb5
          exact ⟨⟨j + 1, c8, A8, _, rfl, by go_num, by omega, Lib.hid ⟨HF.out.1, fun k hk => by
            by_cases e : k = q + j
            · subst e; rw [upd1_self]; exact hx
            · rw [upd1_ne e]; exact HI.out.2.1 k (by omega), by
            show fv (upd1 o' (q + j) x) (q + j + 1) = _
            rw [fv_succ, upd1_self, fv_upd_out (Nat.le_refl _), HI.out.2.2, fv_succ, Hxx.out, pw_add, Nat.mul_add]
            congr 1; ac_rfl⟩, Lib.hid HF.out.2⟩, by simp [intOf]; omega⟩
        · obtain rfl : m = j := by omega
          clear hge
          go_wp2_with fail
          go_loop [8, 9] (fun s8 s9 => ∃ (kk p : Nat), s8 = .int .u32 (p : Nat) ∧ s9 = .int .i64 (kk : Nat) ∧ kk ≤ r ∧ p < 4294967296 ∧ Hid (p = 2 ^ kk)) (fun _ s9 => r - (intOf s9).toNat)
          case atStart => exact ⟨0, 1, rfl, rfl, Nat.zero_le _, by omega, Lib.hid (Nat.pow_zero 2).symm⟩
          case round =>
            obtain ⟨kk, p, rfl, rfl, hkk, hp, HP⟩ := hrel
            rcases Nat.lt_or_ge kk r with hlt2 | hge2
            · have j1 : (kk : Int) < (r : Int) := by omega
              have hp31 : p ≤ 1073741824 := by
                rw [HP.out]
                have : 2 ^ kk ≤ 2 ^ 30 := Nat.pow_le_pow_right (by omega) (by omega)
                omega
              have Hn := Lib.hid (show p * 2 = 2 ^ (kk + 1) by rw [HP.out, Nat.pow_succ])
              go_wp2_with fail
              exact ⟨⟨kk + 1, p * 2, by simp, by go_num, by omega, by omega, Hn⟩, by simp [intOf]; omega⟩
            · obtain rfl : r = kk := by omega
              have Hrd := Lib.hid (HI.out.1.rd HI.out.2.1)
              have Hv := Lib.hid (show fv o' (q + m) = a * pw q by rw [HI.out.2.2, Hva.out, Nat.mul_comm])
              have Hres := Lib.hid (show a * pw q * p = a * 2 ^ n by rw [HP.out]; exact Hpw.out a)
              clear hge2
              go_wp2_with (first
                | ((with_reducible refine (rtrim_any A5' (q + m) c5' (a * pw q) o' wr Hrd.out (by omega) Hv.out).mono ?_); rintro e w6 ⟨V6, rfl, hV6, hb6⟩; have H6 := Lib.hid hV6; have Hb6 := Lib.hid (HW.out.trans (hb6.mono hsz)); clear hV6 hb6)
                | ((with_reducible refine (rtimes_any V6 (a * pw q) p _ H6.out hlq hp).mono ?_); rw [Hres.out]; rintro e w7 ⟨V7, rfl, hV7, hb7⟩))
              exact HR.out V7 w7 hV7 (by rw [Hg.out]; exact Hb6.out.trans (hb7.mono (by have := Hb6.out.size; rw [Hg.out] at this; exact this)))
set_option maxRecDepth 16000 in
set_option maxHeartbeats 4000000 in
theorem rroot_any (V : Value) (a n : Nat) (w : World) (g1 : Num w V a) (hla : ln a ≤ 1000) (hn0 : 0 < n) (hn : n ≤ 24) :
    Calls Tryz.prog 122 #[V, .int .i64 (n : Int)] w (GetsNum w (root n a)) := by
  have G1 := Lib.hid g1
  obtain ⟨A, m, c, rfl, hmc, h1⟩ := g1
  have hma : m = ln a := h1.1
  refine calls_cps ?_
  intro R hR
  have HR := Lib.hid (show ∀ V W, Num W V (root n a) → Below w.heap.size w W → R (.returned V) W from fun V W g1 g2 => hR.out _ _ ⟨V, rfl, g1, g2⟩)
  have hn0i : (0 : Int) < (n : Int) := by omega
  have hn1 : n ≤ 1000000 := by omega
  clear hR h1
  rcases Nat.eq_zero_or_pos a with h0 | h0
  · subst h0
    rw [ln_zero] at hma
    subst hma
    have Hf := Lib.hid (HR.out (.slice (some ⟨w.heap.size, 0, none⟩) 0 0) (w.alloc (.cells #[] 137)) (by rw [root_zero hn0]; exact ⟨_, 0, 0, rfl, Nat.le_refl _, Nm.zero _ _⟩) (below_new w _))
    go_enter Tryz.func122, Tryz.ntmps122
    go_wp2_with fail
    exact Hf.out
  · have hm0 : 0 < m := by rw [hma]; exact ln_pos (by omega)
    have m1 : (0 : Int) < (m : Int) := by omega
    have hm2 : ¬ m = 0 := by omega
    obtain ⟨K, hK⟩ : ∃ K, bitsN a = K := ⟨_, rfl⟩
    have hK0 : 0 < K := by rw [← hK]; exact bitsN_pos h0
    have hKn : K ≤ 32000 := by rw [← hK]; have := bits_le_ln a; omega
    have Hbits := Lib.hid (fun W h => rbits_any (.slice A m c) a W h (by omega))
    rw [hK] at Hbits
    have Ha0 := Lib.hid h0
    have Hla := Lib.hid hla
    rcases Nat.lt_or_ge n K with hnK | hnK
    · have t1 : decide ((K : Int) ≤ (n : Int)) = false := decide_eq_false (by omega)
      have t2 : decide (K ≤ n) = false := decide_eq_false (by omega)
      obtain ⟨k0, hk0⟩ : ∃ k, (K - 1) / n = k := ⟨_, rfl⟩
      have k0i : ((K : Int) - 1) / (n : Int) = (k0 : Int) := by
        have e : ((K : Int) - 1) = ((K - 1 : Nat) : Int) := by omega
        rw [e, ← hk0]; exact (Int.natCast_ediv _ _).symm
      have hk0K : k0 ≤ 32000 := by have := Nat.div_le_self (K - 1) n; omega
      have Htop := Lib.hid (root_top (a := a) hn0)
      rw [hK, hk0] at Htop
      have Hnk := Lib.hid (show n * k0 ≤ K - 1 by rw [← hk0]; exact Nat.mul_div_le _ _)
      have HK := Lib.hid hK
      obtain ⟨rt, hrt⟩ : ∃ r, root n a = r := ⟨_, rfl⟩
      have Hle := Lib.hid (fun s => pow_le_root (a := a) (s := s) hn0)
      have Hlrt := Lib.hid (show ln rt ≤ 1000 from Nat.le_trans (ln_mono (by rw [← hrt]; exact Nat.le_trans (le_pow_self hn0) (root_le hn0))) hla)
      rw [hrt] at HR Htop Hle
      have hKm : (1 : Int) ≤ (K : Int) := by omega
      clear hK hk0 hrt hma hla h0
      go_enter Tryz.func122, Tryz.ntmps122
      go_upto_region 7 with ((with_reducible refine (Hbits.out _ (by first | exact G1.out | exact G1.out.below (below_new w _) | fail)).mono ?_); rintro e w' ⟨rfl, hw⟩; subst hw)
      rw [k0i]
      clear k0i
      go_wp2_with fail
      go_loopw [5, 6, 7] (fun s5 s6 _ wr => ∃ (V5 : Value) (k : Nat), V5 = s5 ∧ s6 = .int .i64 ((k : Int) - 1) ∧ k ≤ k0 + 1 ∧ Hid (Num wr V5 (rt / 2 ^ k * 2 ^ k)) ∧ Hid (Below w.heap.size w wr)) (fun _ s6 _ _ => (intOf s6 + 1).toNat)
      case atStart => exact ⟨_, k0 + 1, rfl, by go_num, Nat.le_refl _, Lib.hid (by rw [Htop.out, Nat.zero_mul]; exact ⟨_, 0, 0, rfl, Nat.le_refl _, Nm.zero _ _⟩), Lib.hid (below_new w _)⟩
      case round =>
        obtain ⟨V5, k, rfl, rfl, hk, HN, HW⟩ := hrel
        rcases k with _ | k
        · have Hf := Lib.hid (HR.out V5 wr (by have h := HN.out; rwa [Nat.pow_zero, Nat.div_one, Nat.mul_one] at h) HW.out)
          go_wp2_with fail
          exact Hf.out
        · have Hbit := Lib.hid (root_bit rt k)
          obtain ⟨x, hx⟩ : ∃ x, rt / 2 ^ (k + 1) * 2 ^ (k + 1) = x := ⟨_, rfl⟩
          have hlx : ln x ≤ 1000 := Nat.le_trans (ln_mono (by rw [← hx]; exact Nat.div_mul_le_self _ _)) Hlrt.out
          rw [hx] at HN Hbit
          have Hlp := Lib.hid (show ln (1 * 2 ^ k) ≤ 1001 by
            rw [Nat.one_mul]
            exact Nat.le_trans (ln_two_pow k) (by omega))
          obtain ⟨P, hP⟩ : ∃ P, 1 * 2 ^ k = P := ⟨_, rfl⟩
          have Hleft := Lib.hid (fun V W h => rleft_any V 1 k W h (by have : ln 1 ≤ 1 := (ln_le_iff 1 1).2 (by rw [pw_one]; omega); omega) (by omega))
          rw [hP] at Hleft Hlp
          have hP2 : 2 ^ k = P := by rw [← hP, Nat.one_mul]
          rw [hP2] at Hbit
          have HP2 := Lib.hid hP2
          obtain ⟨s, hs⟩ : ∃ s, x + P = s := ⟨_, rfl⟩
          have hls : ln s ≤ 1002 := by rw [← hs]; refine Nat.le_trans (ln_add_le _ _) ?_; have := Hlp.out; omega
          have Hadd := Lib.hid (fun V V' W h h' => radd_any V V' x P W h h' (by omega) (by have := Hlp.out; omega))
          rw [hs] at Hadd Hbit
          have hlsn : ln s * n ≤ 90000 := Nat.le_trans (Nat.mul_le_mul hls hn) (by omega)
          have Hpow := Lib.hid (fun V W h => rpow_any V s n W h hlsn (by omega) hn1)
          have hlz : ln (s ^ n) ≤ 600000 := Nat.le_trans (ln_pow_g _ _) (by omega)
          have Hz := Lib.hid (Hle.out s)
          obtain ⟨z, hz⟩ : ∃ z, s ^ n = z := ⟨_, rfl⟩
          rw [hz] at Hpow Hz hlz
          obtain ⟨cz, hcz⟩ : ∃ cz, cmpN z a = cz := ⟨_, rfl⟩
          have hla6 : ln a ≤ 600000 := by have := Hla.out; omega
          have Hcmp := Lib.hid (fun V V' W h h' => rcmp_any V V' z a W h h' hlz hla6)
          rw [hcz] at Hcmp
          have Hcz := Lib.hid (And.intro (show z ≤ a → cz ≤ 0 from fun h => by rw [← hcz]; exact cmpN_le0 h) (show ¬ z ≤ a → 0 < cz from fun h => by rw [← hcz]; exact cmpN_pos (by omega)))
          clear hx hP hP2 hs hz hcz hls hlsn hlx
          go_upto_region 10 with (first
            | ((with_reducible refine (rof_one _).mono ?_); rintro e w1 ⟨V1, rfl, hV1, hb1⟩; have H1 := Lib.hid (show Num w1 V5 x ∧ Num w1 V1 1 from ⟨HN.out.below hb1, hV1⟩); have Hb1 := Lib.hid (HW.out.trans (hb1.mono HW.out.size)); clear hV1 hb1)
            | ((with_reducible refine (Hleft.out V1 _ H1.out.2).mono ?_); rintro e w2 ⟨V2, rfl, hV2, hb2⟩; have H2 := Lib.hid (show Num w2 V5 x ∧ Num w2 V2 P from ⟨H1.out.1.below hb2, hV2⟩); have Hb2 := Lib.hid (Hb1.out.trans (hb2.mono Hb1.out.size)); clear hV2 hb2)
            | ((with_reducible refine (Hadd.out V5 V2 _ H2.out.1 H2.out.2).mono ?_); rintro e w3 ⟨V3, rfl, hV3, hb3⟩; have H3 := Lib.hid (show Num w3 V5 x ∧ Num w3 V3 s from ⟨H2.out.1.below hb3, hV3⟩); have Hb3 := Lib.hid (Hb2.out.trans (hb3.mono Hb2.out.size)); clear hV3 hb3))
          rcases Nat.lt_or_ge a z with hgt | hle
          · have t5 : 0 < cz := Hcz.out.2 (by omega)
            have Hx := Lib.hid (Hbit.out.2 (fun h => by have := Hz.out.2 h; omega))
            clear hgt
            go_wp2_with (first
              | ((with_reducible refine (Hpow.out V3 _ H3.out.2).mono ?_); rintro e w4 ⟨V4, rfl, hV4, hb4⟩; have H4 := Lib.hid (show Num w4 V5 x ∧ Num w4 V4 z ∧ Num w4 (.slice A m c) a from ⟨H3.out.1.below hb4, hV4, (G1.out.below Hb3.out).below hb4⟩); have Hb4 := Lib.hid (Hb3.out.trans (hb4.mono Hb3.out.size)); clear hV4 hb4)
              | ((with_reducible refine (Hcmp.out V4 (.slice A m c) _ H4.out.2.1 H4.out.2.2).mono ?_); rintro e w5 ⟨rfl, hq5⟩))
            exact ⟨⟨_, k, rfl, by go_num, by omega, Lib.hid (by rw [HP2.out, ← Hx.out]; exact H4.out.1.below hq5.below), Lib.hid (Hb4.out.trans (hq5.below.mono Hb4.out.size))⟩, by simp [intOf]⟩
          · have t5 : cz ≤ 0 := Hcz.out.1 hle
            have Hx := Lib.hid (Hbit.out.1 (Hz.out.1 hle))
            clear hle
            go_wp2_with (first
              | ((with_reducible refine (Hpow.out V3 _ H3.out.2).mono ?_); rintro e w4 ⟨V4, rfl, hV4, hb4⟩; have H4 := Lib.hid (show Num w4 V3 s ∧ Num w4 V4 z ∧ Num w4 (.slice A m c) a from ⟨H3.out.2.below hb4, hV4, (G1.out.below Hb3.out).below hb4⟩); have Hb4 := Lib.hid (Hb3.out.trans (hb4.mono Hb3.out.size)); clear hV4 hb4)
              | ((with_reducible refine (Hcmp.out V4 (.slice A m c) _ H4.out.2.1 H4.out.2.2).mono ?_); rintro e w5 ⟨rfl, hq5⟩))
            exact ⟨⟨_, k, rfl, by go_num, by omega, Lib.hid (by rw [HP2.out, ← Hx.out]; exact H4.out.1.below hq5.below), Lib.hid (Hb4.out.trans (hq5.below.mono Hb4.out.size))⟩, by simp [intOf]⟩
    · have t1 : (K : Int) ≤ (n : Int) := by omega
      have Hone := Lib.hid (root_one_of (a := a) (n := n) h0 (by omega))
      clear hK hma hla h0
      go_enter Tryz.func122, Tryz.ntmps122
      go_wp2_with (first
        | ((with_reducible refine (Hbits.out _ G1.out).mono ?_); rintro e w' ⟨rfl, hw⟩; subst hw)
        | ((with_reducible refine (rof_one _).mono ?_); rintro e w1 ⟨V1, rfl, hV1, hb1⟩))
      exact HR.out V1 w1 (by rw [Hone.out]; exact hV1) hb1
end
end
section
section
open Go.RowKit
theorem rpow_int (V : Value) (a n : Nat) (x : Int) (w : World) (g1 : Num w V a) (hx : x = (n : Int)) (hl : ln a * n ≤ 90000) (hla : ln a ≤ 90000) (hn : n ≤ 1000000) :
    Calls Tryz.prog 102 #[V, .int .i64 x] w (GetsNum w (a ^ n)) := by
  subst hx
  exact rpow_any V a n w g1 hl hla hn
theorem rleft_int (V : Value) (a n : Nat) (x : Int) (w : World) (g1 : Num w V a) (hx : x = (n : Int)) (hla : ln a ≤ 50000) (hn : n ≤ 100000) :
    Calls Tryz.prog 140 #[V, .int .i64 x] w (GetsNum w (a * 2 ^ n)) := by
  subst hx
  exact rleft_any V a n w g1 hla hn
/-- The products of the first i powers, above and below the stroke. -/
def sdO (a b c : Int) : Nat → Nat
  | 0 => 1
  | 1 => 2 ^ a.toNat
  | 2 => 2 ^ a.toNat * 3 ^ b.toNat
  | _ => ov a b c
def sdP : Nat → Nat
  | 0 => 2
  | 1 => 3
  | _ => 5
def sdE (a b c : Int) : Nat → Int
  | 0 => a
  | 1 => b
  | _ => c
theorem sdO_step (a b c : Int) {i : Nat} (hi : i < 3) : sdO a b c (i + 1) = sdO a b c i * sdP i ^ (sdE a b c i).toNat := by
  obtain rfl | rfl | rfl : i = 0 ∨ i = 1 ∨ i = 2 := by omega
  · show 2 ^ a.toNat = 1 * 2 ^ a.toNat; rw [Nat.one_mul]
  · rfl
  · rfl
theorem sdE_neg (a b c : Int) (i : Nat) : sdE (-a) (-b) (-c) i = -(sdE a b c i) := by
  match i with
  | 0 => rfl
  | 1 => rfl
  | _ + 2 => rfl
theorem sdU_step (a b c : Int) {i : Nat} (hi : i < 3) : sdO (-a) (-b) (-c) (i + 1) = sdO (-a) (-b) (-c) i * sdP i ^ (-(sdE a b c i)).toNat := by
  rw [sdO_step _ _ _ hi, sdE_neg]
theorem sdO_ln {a b c : Int} (ha : a.natAbs ≤ 960) (hb : b.natAbs ≤ 960) (hc : c.natAbs ≤ 960) (i : Nat) : ln (sdO a b c i) ≤ 181 := by
  match i with
  | 0 => have := prod_ln (a := 0) (b := 0) (c := 0) (by omega) (by omega) (by omega); simpa [sdO] using this
  | 1 => have := prod_ln (a := a.toNat) (b := 0) (c := 0) (by omega) (by omega) (by omega); simpa [sdO] using this
  | 2 => have := prod_ln (a := a.toNat) (b := b.toNat) (c := 0) (by omega) (by omega) (by omega); simpa [sdO] using this
  | _ + 3 => exact (ov_ln ha hb hc).1
theorem sdP_ln (i : Nat) : ln (sdP i) ≤ 1 ∧ sdP i ≤ 5 := by
  have h : sdP i ≤ 5 := by
    match i with
    | 0 => decide
    | 1 => decide
    | _ + 2 => exact Nat.le_refl _
  exact ⟨(ln_le_iff 1 _).2 (by rw [pw_one]; omega), h⟩
theorem sdPow_ln {e : Nat} (h : e ≤ 960) (i : Nat) : ln (sdP i ^ e) ≤ 181 := by
  match i with
  | 0 => have := prod_ln (a := e) (b := 0) (c := 0) h (by omega) (by omega); simpa [sdP] using this
  | 1 => have := prod_ln (a := 0) (b := e) (c := 0) (by omega) h (by omega); simpa [sdP] using this
  | _ + 2 => have := prod_ln (a := 0) (b := 0) (c := e) (by omega) (by omega) h; simpa [sdP] using this
theorem arr3_at {w : World} {g : Nat} {x y z : Value} {t : TypeId} (h : w.heap[g]? = some (.cells #[x, y, z] t (0, 0))) (i : Nat) (hi : i < 3) :
    w.cell? ⟨g, i, none⟩ = #[x, y, z][i]? := by
  obtain rfl | rfl | rfl : i = 0 ∨ i = 1 ∨ i = 2 := by omega
  · rw [cell_of_row _ _ 0 _ _ (0, 0) h]
  · rw [cell_of_row _ _ 1 _ _ (0, 0) h]
  · rw [cell_of_row _ _ 2 _ _ (0, 0) h]
set_option maxRecDepth 16000 in
set_option maxHeartbeats 8000000 in
theorem rsides_any (a b c : Int) (w : World) (ha : a.natAbs ≤ 960) (hb : b.natAbs ≤ 960) (hc : c.natAbs ≤ 960) :
    Calls Tryz.prog 66 #[.int .i64 a, .int .i64 b, .int .i64 c] w fun e w' => ∃ V1 V2, e = .returned (.tuple #[V1, V2]) ∧ Num w' V1 (ov a b c) ∧ Num w' V2 (un a b c) ∧ Below w.heap.size w w' := by
  refine calls_cps ?_
  intro R hR
  have HR := Lib.hid (show ∀ V1 V2 W, Num W V1 (ov a b c) → Num W V2 (un a b c) → Below w.heap.size w W → R (.returned (.tuple #[V1, V2])) W from fun V1 V2 W g1 g2 g3 => hR.out _ _ ⟨V1, V2, rfl, g1, g2, g3⟩)
  have HlO := Lib.hid (fun i => sdO_ln ha hb hc i)
  have HlU := Lib.hid (fun i => sdO_ln (a := -a) (b := -b) (c := -c) (by omega) (by omega) (by omega) i)
  have HE := Lib.hid (show ∀ i, (sdE a b c i).natAbs ≤ 960 from fun i => by
    match i with
    | 0 => exact ha
    | 1 => exact hb
    | _ + 2 => exact hc)
  clear hR ha hb hc
  go_enter Tryz.func66, Tryz.ntmps66
  go_upto_region 2 with (first
    | ((with_reducible refine (rof_one w).mono ?_); rintro e w1 ⟨V1, rfl, hV1, hb1⟩)
    | ((with_reducible refine (rof_one w1).mono ?_); rintro e w2 ⟨V2, rfl, hV2, hb2⟩))
  have HV := Lib.hid (show Num w2 V1 1 ∧ Num w2 V2 1 from ⟨hV1.below hb2, hV2⟩)
  have HW := Lib.hid (hb1.trans (hb2.mono hb1.size))
  clear hV1 hb1 hV2 hb2
  go_upto_region 4 with fail
  have hn := two_new w2 (.cells #[Value.int .u64 2, Value.int .u64 3, Value.int .u64 5] 145) (.cells #[Value.int .i64 a, Value.int .i64 b, Value.int .i64 c] 146) rfl
  have hbn := (below_new w2 (.cells #[Value.int .u64 2, Value.int .u64 3, Value.int .u64 5] 145)).trans ((below_new (w2.alloc (.cells #[Value.int .u64 2, Value.int .u64 3, Value.int .u64 5] 145)) (.cells #[Value.int .i64 a, Value.int .i64 b, Value.int .i64 c] 146)).mono (by simp))
  obtain ⟨W3, hW3⟩ : ∃ W, (w2.alloc (.cells #[Value.int .u64 2, Value.int .u64 3, Value.int .u64 5] 145)).alloc (.cells #[Value.int .i64 a, Value.int .i64 b, Value.int .i64 c] 146) = W := ⟨_, rfl⟩
  obtain ⟨g, hg⟩ : ∃ g, w2.heap.size = g := ⟨_, rfl⟩
  have HV3 := Lib.hid (And.intro (HV.out.1.below hbn) (HV.out.2.below hbn))
  have HW3 := Lib.hid (HW.out.trans (hbn.mono HW.out.size))
  rw [hW3] at hn HV3 HW3 ⊢
  rw [hg] at hn ⊢
  have Hg := Lib.hid hn
  clear hW3 hg hn hbn HV HW
  have Hcell := Lib.hid (show ∀ W', Below W3.heap.size W3 W' → ∀ i, i < 3 → W'.cell? ⟨g, i, none⟩ = some (.int .u64 (sdP i : Nat)) ∧ W'.cell? ⟨g + 1, i, none⟩ = some (.int .i64 (sdE a b c i)) from fun W' hb i hi => by
    have h1 := (hb.block g (Nat.lt_trans (Nat.lt_succ_self g) Hg.out.2.1)).trans Hg.out.1.1
    have h2 := (hb.block (g + 1) Hg.out.2.1).trans Hg.out.1.2
    rw [arr3_at h1 i hi, arr3_at h2 i hi]
    obtain rfl | rfl | rfl : i = 0 ∨ i = 1 ∨ i = 2 := by omega
    all_goals exact ⟨rfl, rfl⟩)
  go_wp2_with fail
  go_loopw [8, 9, 12] (fun s8 s9 s12 wr => ∃ (V8 V9 : Value) (i : Nat), V8 = s8 ∧ V9 = s9 ∧ s12 = .int .i64 (i : Nat) ∧ i ≤ 3 ∧ Hid (Num wr V8 (sdO a b c i) ∧ Num wr V9 (sdO (-a) (-b) (-c) i)) ∧ Hid (Below W3.heap.size W3 wr)) (fun _ _ s12 _ => 3 - (intOf s12).toNat)
  case atStart => exact ⟨_, _, 0, rfl, rfl, rfl, Nat.zero_le _, HV3, Lib.hid (Below.refl _ _)⟩
  case round =>
    clear HV3
    obtain ⟨V8, V9, i, rfl, rfl, rfl, hi, HN, HB⟩ := hrel
    rcases Nat.lt_or_ge i 3 with hlt | hge
    · have i1 : (i : Int) < 3 := by omega
      have i0 : (0 : Int) ≤ (i : Int) := by omega
      have hO := sdO_step a b c hlt
      have hU := sdU_step a b c hlt
      have hP := sdP_ln i
      have hE := HE.out i
      have hl8 := HlO.out i
      have hl9 := HlU.out i
      have hlp := fun e he => sdPow_ln (e := e) he i
      have hcell := fun W' hb => Hcell.out W' hb i hlt
      obtain ⟨p, hp⟩ : ∃ p, sdP i = p := ⟨_, rfl⟩
      obtain ⟨e, he⟩ : ∃ e, sdE a b c i = e := ⟨_, rfl⟩
      obtain ⟨O, hOi⟩ : ∃ x, sdO a b c i = x := ⟨_, rfl⟩
      obtain ⟨U, hUi⟩ : ∃ x, sdO (-a) (-b) (-c) i = x := ⟨_, rfl⟩
      rw [hOi, hp, he] at hO
      rw [hUi, hp, he] at hU
      rw [hp] at hP hlp hcell
      rw [he] at hE hcell
      rw [hOi] at HN hl8
      rw [hUi] at HN hl9
      have HO := Lib.hid hO
      have HU := Lib.hid hU
      have hp64 : p < 18446744073709551616 := by omega
      have hOfp := Lib.hid (fun W => rOf_any p W hp64)
      have Hcl := Lib.hid hcell
      obtain ⟨q0, r0⟩ := hcell wr HB.out
      obtain ⟨k, hk⟩ : ∃ k, e.natAbs = k := ⟨_, rfl⟩
      have hkk : k ≤ 960 := by omega
      have hlpk : ln p * k ≤ 90000 := Nat.le_trans (Nat.mul_le_mul hP.1 hkk) (by omega)
      have hlk := hlp k hkk
      have Hpow := Lib.hid (fun V x W (h : Num W V p) (hx : x = (k : Int)) => rpow_int V p k x W h hx hlpk (by omega) (by omega))
      obtain ⟨Q, hQ⟩ : ∃ x, p ^ k = x := ⟨_, rfl⟩
      rw [hQ] at Hpow hlk
      have HM8 := Lib.hid (fun V V' W h h' => rmul_any V V' O Q W h h' (by omega) (by omega))
      have HM9 := Lib.hid (fun V V' W h h' => rmul_any V V' U Q W h h' (by omega) (by omega))
      have HQ := Lib.hid hQ
      have Hk := Lib.hid hk
      have e1 : -960 ≤ e := by omega
      have e2 : e ≤ 960 := by omega
      clear hO hU hP hp he hOi hUi hlp hcell hQ hk hE hl8 hl9 hlk
      have hbz : Below wr.heap.size wr wr.drew := (Below.refl _ wr).drew
      have Hbx := Lib.hid (show ∀ W', Below wr.heap.size wr W' → Below wr.heap.size wr W' ∧ W'.cell? ⟨g, i, none⟩ = some (.int .u64 (p : Nat)) ∧ W'.cell? ⟨g + 1, i, none⟩ = some (.int .i64 e) from fun W' hb => by
        obtain ⟨a1, a2⟩ := Hcl.out W' (HB.out.trans (hb.mono HB.out.size))
        exact ⟨hb, a1, a2⟩)
      rcases Int.lt_trichotomy e 0 with hn | hn | hn
      · have t1 : decide ((0 : Int) < e) = false := decide_eq_false (by omega)
        have t2 : decide (e < 0) = true := decide_eq_true hn
        have hek : IntKind.i64.wrap (-e) = (k : Int) := by have h1 := Hk.out; rw [IntWalk.i64_in (-e) (by omega)]; omega
        have Hek := Lib.hid hek
        have Hres := Lib.hid (show O = sdO a b c (i + 1) ∧ U * Q = sdO (-a) (-b) (-c) (i + 1) from by
          have hk' := Hk.out
          rw [HO.out, HU.out, ← HQ.out, show e.toNat = 0 by omega, show (-e).toNat = k by omega]
          exact ⟨by rw [Nat.pow_zero, Nat.mul_one], rfl⟩)
        clear hek
        go_upto_region 10 with fail
        go_region_held3 (fun W' => Below wr.heap.size wr W' ∧ W'.cell? ⟨g, i, none⟩ = some (.int .u64 (p : Nat)) ∧ W'.cell? ⟨g + 1, i, none⟩ = some (.int .i64 e))
          (first
            | (refine Hbx.out _ ?_; repeat (first | with_reducible exact hbz | with_reducible exact Below.refl _ _ | with_reducible refine Below.drew ?_ | with_reducible exact hka | with_reducible exact hkb | with_reducible exact hkc | assumption | exact Nat.le_refl _))
            | go_keep)
          (first
          | (go_at_call 99; have hcur := (‹Below wr.heap.size wr _ ∧ _›).1; (with_reducible refine (hOfp.out _).mono ?_); rintro e' w3 ⟨VB, rfl, hVB, hb3⟩; have hka := hcur.trans (hb3.mono hcur.size); clear hcur)
          | (go_at_call 102; (with_reducible refine (Hpow.out VB _ _ hVB Hek.out).mono ?_); rintro e' w4 ⟨VP, rfl, hVP, hb4⟩; have hkb := hka.trans (hb4.mono hka.size))
          | (go_at_call 101; (with_reducible refine (HM9.out V9 VP _ (HN.out.2.below hkb) hVP).mono ?_); rintro e' w5 ⟨VM, rfl, hVM, hb5⟩; have hkc := hkb.trans (hb5.mono hkb.size)))
        have HF := Lib.hid (show Num w5 V8 (sdO a b c (i + 1)) ∧ Num w5 VM (sdO (-a) (-b) (-c) (i + 1)) ∧ Below W3.heap.size W3 w5 from ⟨by rw [← Hres.out.1]; exact HN.out.1.below hkc, by rw [← Hres.out.2]; exact hVM, HB.out.trans (hkc.mono HB.out.size)⟩)
        clear hka hkb hkc hb3 hb4 hb5 hVB hVP hVM q0 r0 hbz
        go_wp2_with fail
        exact ⟨⟨_, _, i + 1, rfl, rfl, by go_num, by omega, Lib.hid ⟨HF.out.1, HF.out.2.1⟩, Lib.hid HF.out.2.2⟩, by simp [intOf]; omega⟩
      · subst hn
        have t1 : decide ((0 : Int) < 0) = false := rfl
        have Hres := Lib.hid (show O = sdO a b c (i + 1) ∧ U = sdO (-a) (-b) (-c) (i + 1) from by
          rw [HO.out, HU.out]
          exact ⟨by simp, by simp⟩)
        have HF := Lib.hid (show Num wr V8 (sdO a b c (i + 1)) ∧ Num wr V9 (sdO (-a) (-b) (-c) (i + 1)) from ⟨by rw [← Hres.out.1]; exact HN.out.1, by rw [← Hres.out.2]; exact HN.out.2⟩)
        clear hbz
        go_wp2_with fail
        exact ⟨⟨_, _, i + 1, rfl, rfl, by go_num, by omega, HF, HB⟩, by simp [intOf]; omega⟩
      · have t1 : decide ((0 : Int) < e) = true := decide_eq_true hn
        have t2 : decide (e < 0) = false := decide_eq_false (by omega)
        have hek : e = (k : Int) := by have := Hk.out; omega
        have Hek := Lib.hid hek
        have Hres := Lib.hid (show O * Q = sdO a b c (i + 1) ∧ U = sdO (-a) (-b) (-c) (i + 1) from by
          rw [HO.out, HU.out, ← HQ.out, show e.toNat = k by omega, show (-e).toNat = 0 by omega]
          exact ⟨rfl, by rw [Nat.pow_zero, Nat.mul_one]⟩)
        clear hek
        go_upto_region 8 with fail
        go_region_held3 (fun W' => Below wr.heap.size wr W' ∧ W'.cell? ⟨g, i, none⟩ = some (.int .u64 (p : Nat)) ∧ W'.cell? ⟨g + 1, i, none⟩ = some (.int .i64 e))
          (first
            | (refine Hbx.out _ ?_; repeat (first | with_reducible exact hbz | with_reducible exact Below.refl _ _ | with_reducible refine Below.drew ?_ | with_reducible exact hka | with_reducible exact hkb | with_reducible exact hkc | assumption | exact Nat.le_refl _))
            | go_keep)
          (first
          | (go_at_call 99; have hcur := (‹Below wr.heap.size wr _ ∧ _›).1; (with_reducible refine (hOfp.out _).mono ?_); rintro e' w3 ⟨VB, rfl, hVB, hb3⟩; have hka := hcur.trans (hb3.mono hcur.size); clear hcur)
          | (go_at_call 102; (with_reducible refine (Hpow.out VB _ _ hVB Hek.out).mono ?_); rintro e' w4 ⟨VP, rfl, hVP, hb4⟩; have hkb := hka.trans (hb4.mono hka.size))
          | (go_at_call 101; (with_reducible refine (HM8.out V8 VP _ (HN.out.1.below hkb) hVP).mono ?_); rintro e' w5 ⟨VM, rfl, hVM, hb5⟩; have hkc := hkb.trans (hb5.mono hkb.size)))
        have HF := Lib.hid (show Num w5 VM (sdO a b c (i + 1)) ∧ Num w5 V9 (sdO (-a) (-b) (-c) (i + 1)) ∧ Below W3.heap.size W3 w5 from ⟨by rw [← Hres.out.1]; exact hVM, by rw [← Hres.out.2]; exact HN.out.2.below hkc, HB.out.trans (hkc.mono HB.out.size)⟩)
        have r1 := (Hbx.out _ hkc).2.2
        clear hka hkb hkc hb3 hb4 hb5 hVB hVP hVM q0 r0 hbz
        go_wp2_with fail
        exact ⟨⟨_, _, i + 1, rfl, rfl, by go_num, by omega, Lib.hid ⟨HF.out.1, HF.out.2.1⟩, Lib.hid HF.out.2.2⟩, by simp [intOf]; omega⟩
    · obtain rfl : i = 3 := by omega
      have Hf := Lib.hid (HR.out V8 V9 wr HN.out.1 HN.out.2 (HW3.out.trans (HB.out.mono HW3.out.size)))
      go_wp2_with fail
      first | exact Hf.out | (go_ret2; exact Hf.out)
end
section
open Go.RowKit
set_option maxHeartbeats 2000000 in
theorem ragainst_any (V1 V2 : Value) (o u : Nat) (m : Int) (w : World) (h1 : Num w V1 o) (h2 : Num w V2 u) (hl1 : ln o ≤ 300) (hl2 : ln u ≤ 300) (hm : m.natAbs ≤ 30000) :
    Calls Tryz.prog 105 #[V1, V2, .int .i64 m] w fun e w' => ∃ z : Int, e = .returned (.int .i64 z) ∧ Hid ((le2 m o u → 0 ≤ z) ∧ (¬ le2 m o u → z < 0)) ∧ Below w.heap.size w w' := by
  refine calls_cps ?_
  intro R hR
  obtain ⟨s, hs⟩ : ∃ s, m.natAbs = s := ⟨_, rfl⟩
  have HH := Lib.hid (And.intro h1 h2)
  have hlo : ln (o * 2 ^ s) ≤ 600000 := Nat.le_trans (ln_shift hl1) (by omega)
  have hlu : ln (u * 2 ^ s) ≤ 600000 := Nat.le_trans (ln_shift hl2) (by omega)
  have hlo1 : ln o ≤ 600000 := by omega
  have hlu1 : ln u ≤ 600000 := by omega
  have hs1 : s ≤ 100000 := by omega
  have hle := le2_iff_cmp (k := m) (o := o) (u := u) (s := s)
  have m1 : -30000 ≤ m := by omega
  have m2 : m ≤ 30000 := by omega
  rcases Int.lt_or_le m 0 with hn | hn
  · have hms : -m = (s : Int) := by omega
    have hl := hle.2 (by omega)
    have t1 : decide ((0 : Int) ≤ m) = false := decide_eq_false (by omega)
    obtain ⟨z, hz⟩ : ∃ z, cmpN (o * 2 ^ s) u = z := ⟨_, rfl⟩
    have HR := Lib.hid (show ∀ W, Below w.heap.size w W → R (.returned (.int .i64 z)) W from fun W hb => hR.out _ _ ⟨z, rfl, Lib.hid ⟨fun h => by rw [← hz]; exact cmpN_ge (hl.1 h), fun h => by rw [← hz]; exact cmpN_le (Nat.lt_of_not_le fun hh => h (hl.2 hh))⟩, hb⟩)
    have Hleft := Lib.hid (fun W h => rleft_int V1 o s (-m) W h hms (by omega) hs1)
    have Hcmp := Lib.hid (fun V W h h' => rcmp_any V V2 (o * 2 ^ s) u W h h' hlo hlu1)
    rw [hz] at Hcmp
    clear hR hz hl hle hms hs h1 h2 hl1 hl2 hlo hlu
    go_enter Tryz.func105, Tryz.ntmps105
    go_wp2_with (first
      | ((with_reducible refine (Hleft.out _ HH.out.1).mono ?_); rintro e w1 ⟨V3, rfl, hV3, hb1⟩; have H1 := Lib.hid (And.intro hV3 (HH.out.2.below hb1)); have Hb1 := Lib.hid hb1; clear hV3 hb1)
      | ((with_reducible refine (Hcmp.out V3 _ H1.out.1 H1.out.2).mono ?_); rintro e w2 ⟨rfl, hq2⟩))
    exact HR.out _ (Hb1.out.trans (hq2.below.mono Hb1.out.size))
  · have hms : m = (s : Int) := by omega
    have hl := hle.1 (by omega)
    have t1 : decide ((0 : Int) ≤ m) = true := decide_eq_true hn
    obtain ⟨z, hz⟩ : ∃ z, cmpN o (u * 2 ^ s) = z := ⟨_, rfl⟩
    have HR := Lib.hid (show ∀ W, Below w.heap.size w W → R (.returned (.int .i64 z)) W from fun W hb => hR.out _ _ ⟨z, rfl, Lib.hid ⟨fun h => by rw [← hz]; exact cmpN_ge (hl.1 h), fun h => by rw [← hz]; exact cmpN_le (Nat.lt_of_not_le fun hh => h (hl.2 hh))⟩, hb⟩)
    have Hleft := Lib.hid (fun W h => rleft_int V2 u s m W h hms (by omega) hs1)
    have Hcmp := Lib.hid (fun V W h h' => rcmp_any V1 V o (u * 2 ^ s) W h h' hlo1 hlu)
    rw [hz] at Hcmp
    clear hR hz hl hle hms hs h1 h2 hl1 hl2 hlo hlu
    go_enter Tryz.func105, Tryz.ntmps105
    go_wp2_with (first
      | ((with_reducible refine (Hleft.out _ HH.out.2).mono ?_); rintro e w1 ⟨V3, rfl, hV3, hb1⟩; have H1 := Lib.hid (And.intro (HH.out.1.below hb1) hV3); have Hb1 := Lib.hid hb1; clear hV3 hb1)
      | ((with_reducible refine (Hcmp.out V3 _ H1.out.1 H1.out.2).mono ?_); rintro e w2 ⟨rfl, hq2⟩))
    exact HR.out _ (Hb1.out.trans (hq2.below.mono Hb1.out.size))
set_option maxHeartbeats 1000000 in
theorem rfloor_any (a b : Int) (w : World) (ha : -100000 ≤ a) (ha2 : a ≤ 100000) (hb : 1 ≤ b) (hb2 : b ≤ 1000) :
    Calls Tryz.prog 103 #[.int .i64 a, .int .i64 b] w fun e w' => e = .returned (.int .i64 (a / b)) ∧ w = w' := by
  refine calls_cps ?_
  intro R hR
  have hf := tdiv_floor (a := a) (b := b) (by omega)
  obtain ⟨q, hq⟩ : ∃ q, a.tdiv b = q := ⟨_, rfl⟩
  obtain ⟨r, hr⟩ : ∃ r, a.tmod b = r := ⟨_, rfl⟩
  have hqa : q.natAbs ≤ a.natAbs := by rw [← hq]; exact Int.natAbs_tdiv_le_natAbs _ _
  have hql : -100000 ≤ q := by omega
  have hqh : q ≤ 100000 := by omega
  rw [hq, hr] at hf
  have HR := Lib.hid hR
  have b0 : b ≠ 0 := by omega
  have Hf := Lib.hid hf
  clear hR hqa hf
  rcases Int.lt_or_le r 0 with hn | hn
  · have t1 : decide (r < 0) = true := decide_eq_true hn
    have Hv := Lib.hid (show q - 1 = a / b by rw [Hf.out, if_pos hn])
    go_enter Tryz.func103, Tryz.ntmps103
    go_wp2_with fail
    exact HR.out.out _ _ ⟨by rw [← Hv.out]; rfl, rfl⟩
  · have t1 : decide (r < 0) = false := decide_eq_false (by omega)
    have Hv := Lib.hid (show q = a / b by rw [Hf.out, if_neg (by omega)])
    go_enter Tryz.func103, Tryz.ntmps103
    go_wp2_with fail
    exact HR.out.out _ _ ⟨by rw [← Hv.out]; rfl, rfl⟩
theorem mul_mono {a b d : Int} (hd : 0 < d) (h : a ≤ b) : a * d ≤ b * d := Int.mul_le_mul_of_nonneg_right h (by omega)
set_option maxRecDepth 16000 in
set_option maxHeartbeats 4000000 in
theorem rbinary_any (V1 V2 : Value) (o u : Nat) (d : Int) (w : World) (h1 : Num w V1 o) (h2 : Num w V2 u) (ho : 0 < o) (hu : 0 < u) (hl1 : ln o ≤ 200) (hl2 : ln u ≤ 200) (hd : 1 ≤ d) (hd2 : d ≤ 24) :
    Calls Tryz.prog 67 #[V1, V2, .int .i64 d] w fun e w' => e = .returned (.int .i64 (flr o u / d)) ∧ Below w.heap.size w w' := by
  refine calls_cps ?_
  intro R hR
  have hfb := flr_bd o u hl1 hl2
  have hb1 := bits_le_ln o
  have hb2 := bits_le_ln u
  have hm0 := flr_floor (o := o) (u := u) (d := d) (by omega)
  have hag := fun m => against_iff ho hu (m := m) (d := d) (by omega)
  have hd0 : 0 < d := by omega
  have hd01 := ediv_bounds ((bitsN o : Int) - bitsN u - 1) hd0
  have hd02 := ediv_bounds (flr o u) hd0
  obtain ⟨B1, hB1⟩ : ∃ x, bitsN o = x := ⟨_, rfl⟩
  obtain ⟨B2, hB2⟩ : ∃ x, bitsN u = x := ⟨_, rfl⟩
  obtain ⟨F, hF⟩ : ∃ x, flr o u / d = x := ⟨_, rfl⟩
  obtain ⟨f0, hf0⟩ : ∃ x, flr o u = x := ⟨_, rfl⟩
  rw [hF] at hR hm0 hag hd02
  rw [hf0] at hfb hd02
  rw [hB1, hB2] at hm0 hd01
  rw [hB1] at hb1
  rw [hB2] at hb2
  obtain ⟨m0, hm0e⟩ : ∃ x, ((B1 : Int) - B2 - 1) / d = x := ⟨_, rfl⟩
  rw [hm0e] at hm0 hd01
  have Hbits1 := Lib.hid (fun W h => rbits_any V1 o W h (by omega))
  have Hbits2 := Lib.hid (fun W h => rbits_any V2 u W h (by omega))
  rw [hB1] at Hbits1
  rw [hB2] at Hbits2
  have Hfl := Lib.hid (fun W => rfloor_any ((B1 : Int) - B2 - 1) d W (by omega) (by omega) hd (by omega))
  rw [hm0e] at Hfl
  have HH := Lib.hid (And.intro h1 h2)
  have Hag := Lib.hid hag
  have HR := Lib.hid hR
  have Hagn := Lib.hid (fun m W h h' hm => ragainst_any V1 V2 o u m W h h' (by omega) (by omega) hm)
  have Hd := Lib.hid (And.intro hd01 (And.intro hd02 (And.intro hfb hd0)))
  have hB1l : B1 ≤ 6400 := by omega
  have hB2l : B2 ≤ 6400 := by omega
  have hm1 : -20000 ≤ m0 := by
    have := hd01.2
    rcases Int.lt_or_le m0 (-20000) with h | h
    · have := mul_mono hd0 (show m0 + 1 ≤ -20000 by omega)
      omega
    · exact h
  have hF1 : F ≤ 20000 := by
    have := hd02.1
    rcases Int.lt_or_le 20000 F with h | h
    · have := mul_mono hd0 (show 20000 ≤ F by omega)
      omega
    · exact h
  have Hm0 := Lib.hid hm0
  clear hR h1 h2 ho hu hl1 hl2 hfb hb1 hb2 hm0 hag hd01 hd02 hB1 hB2 hF hf0 hm0e
  go_enter Tryz.func67, Tryz.ntmps67
  go_upto_region 2 with (first
    | ((with_reducible refine (Hbits1.out _ HH.out.1).mono ?_); rintro e w' ⟨rfl, hw⟩; subst hw)
    | ((with_reducible refine (Hbits2.out _ HH.out.2).mono ?_); rintro e w' ⟨rfl, hw⟩; subst hw)
    | ((with_reducible refine (Hfl.out _).mono ?_); rintro e w' ⟨rfl, hw⟩; subst hw))
  go_wp2_with fail
  go_loopw [7] (fun s7 wr => ∃ m : Int, s7 = .int .i64 m ∧ m0 ≤ m ∧ m ≤ F ∧ Hid (Below w.heap.size w wr)) (fun s7 _ => (F - intOf s7).toNat)
  case atStart => exact ⟨m0, rfl, Int.le_refl _, Hm0.out, Lib.hid (Below.refl _ _)⟩
  case round =>
    obtain ⟨m, rfl, hm1', hm2', HW⟩ := hrel
    have hp1 : (m0 + 1) * d ≤ (m + 1) * d := mul_mono Hd.out.2.2.2 (by omega)
    have hp2 : (m + 1) * d ≤ (F + 1) * d := mul_mono Hd.out.2.2.2 (by omega)
    have hp3 : (F + 1) * d = F * d + d := by rw [Int.add_mul, Int.one_mul]
    have Ha := Lib.hid (Hag.out (m + 1))
    obtain ⟨p, hp⟩ : ∃ p, (m + 1) * d = p := ⟨_, rfl⟩
    rw [hp] at hp1 hp2 Ha
    have p1 : -30000 ≤ p := by have := Hd.out.1.2; omega
    have p2 : p ≤ 30000 := by have := Hd.out.2.1.1; have := Hd.out.2.2.1.2; omega
    have HA := Lib.hid (fun W h h' => Hagn.out p W h h' (by omega))
    have H1 := Lib.hid (show Num wr V1 o ∧ Num wr V2 u from ⟨HH.out.1.below HW.out, HH.out.2.below HW.out⟩)
    clear hp1 hp2 hp3
    by_cases hle : m + 1 ≤ F
    · have Hle := Lib.hid (Ha.out.2 hle)
      go_upto_region 3 with ((with_reducible refine (HA.out _ H1.out.1 H1.out.2).mono ?_); rintro e w1 ⟨z, rfl, Hz, hb1⟩; have Hb1 := Lib.hid hb1; clear hb1; have hz0 : 0 ≤ z := Hz.out.1 Hle.out)
      go_wp2_with fail
      exact ⟨⟨m + 1, rfl, by omega, hle, Lib.hid (HW.out.trans (Hb1.out.mono HW.out.size))⟩, by simp [intOf]; omega⟩
    · obtain rfl : m = F := by omega
      have Hle := Lib.hid (fun h => hle (Ha.out.1 h))
      clear hle
      go_wp2_with ((with_reducible refine (HA.out _ H1.out.1 H1.out.2).mono ?_); rintro e w1 ⟨z, rfl, Hz, hb1⟩; have Hb1 := Lib.hid hb1; clear hb1; have hz0 : z < 0 := Hz.out.2 Hle.out)
      exact HR.out.out _ _ ⟨rfl, HW.out.trans (Hb1.out.mono HW.out.size)⟩
end
end
section
section
open Go.RowKit
set_option maxHeartbeats 4000000 in
theorem roctave_any (t : Tn) (w : World) (ht : t.Ok) : Calls Tryz.prog 39 #[t.val] w fun e w' => e = .returned (octRet t) ∧ Below w.heap.size w w' := by
  refine calls_cps ?_
  intro R hR
  have hbd := oct_bd ht
  have hl := ov_ln ht.two ht.three ht.five
  have hkd : t.oct = flr (ov t.two t.three t.five) (un t.two t.three t.five) / t.den := rfl
  have hrd : t.rest = redT (t.two - t.oct * t.den) t.three t.five t.den := rfl
  unfold octRet at hR
  obtain ⟨T, hT⟩ : ∃ T, t.rest = T := ⟨_, rfl⟩
  rw [hT] at hR hrd
  obtain ⟨k, hk⟩ : ∃ k, t.oct = k := ⟨_, rfl⟩
  rw [hk] at hR hrd hkd hbd
  obtain ⟨a, b, c, d⟩ := t
  dsimp only at hbd hl hkd hrd
  have hO0 := ov_pos a b c
  have hU0 := un_pos a b c
  obtain ⟨O, hO⟩ : ∃ O, ov a b c = O := ⟨_, rfl⟩
  obtain ⟨U, hU⟩ : ∃ U, un a b c = U := ⟨_, rfl⟩
  rw [hO, hU] at hl hkd
  rw [hO] at hO0
  rw [hU] at hU0
  obtain ⟨p, hp⟩ : ∃ p, k * d = p := ⟨_, rfl⟩
  rw [hp] at hbd hrd
  have A1 := ht.two
  have A2 := ht.three
  have A3 := ht.five
  have A4 := ht.lo
  have A5 := ht.hi
  dsimp only at A1 A2 A3 A4 A5
  have Hratio := Lib.hid (fun W => rsides_any a b c W A1 A2 A3)
  rw [hO, hU] at Hratio
  have Hbin := Lib.hid (fun V1 V2 W h1 h2 => rbinary_any V1 V2 O U d W h1 h2 hO0 hU0 (Nat.le_trans hl.1 (by omega)) (Nat.le_trans hl.2 (by omega)) A4 A5)
  rw [← hkd] at Hbin
  have Hred := Lib.hid (fun W => rmake_any (a - p) b c d W (by omega) (by omega) (by omega) A4 (by omega))
  rw [← hrd] at Hred
  have HR := Lib.hid hR
  have A1 := abs_ib A1
  simp only [Int.cast_ofNat_Int] at A1
  obtain ⟨a1, a2⟩ := A1
  obtain ⟨⟨k1, k2⟩, p1, p2⟩ := hbd
  unfold Tn.val
  dsimp only
  clear hR hT hk hO hU hO0 hU0 hkd hrd ht hl A2 A3
  go_enter Tryz.func39, Tryz.ntmps39
  go_upto_region 1 with fail
  obtain ⟨W0, hW0⟩ : ∃ W, (w.alloc (.cells #[Value.int .i64 a, .int .i64 b, .int .i64 c, .int .i64 d] 30)).alloc (.cells #[Value.int .i64 0, .int .i64 0, .int .i64 0, .int .i64 0] 30) = W := ⟨_, rfl⟩
  have hn := two_new _ _ _ hW0
  rw [hW0]
  obtain ⟨g, hg⟩ : ∃ g, w.heap.size = g := ⟨_, rfl⟩
  rw [hg] at hn ⊢
  have Hw := Lib.hid hn
  have Hg := Lib.hid hg
  clear hW0 hg hn
  have HcA := Lib.hid (fun W' (hb : Below W0.heap.size W0 W') => cells4 ((hb.block g (Nat.lt_trans (Nat.lt_succ_self g) Hw.out.2.1)).trans Hw.out.1.1))
  have HcZ := Lib.hid (fun W' (hb : Below W0.heap.size W0 W') => (hb.block (g + 1) Hw.out.2.1).trans Hw.out.1.2)
  obtain ⟨q0, q1, q2, q3, -⟩ := HcA.out W0 (Below.refl _ _)
  go_upto_region 2 with ((with_reducible refine (Hratio.out _).mono ?_); rintro e w1 ⟨V1, V2, rfl, hV1, hV2, hb1⟩; have HN := Lib.hid (And.intro hV1 hV2); have Hb1 := Lib.hid hb1; clear hV1 hV2 hb1)
  clear q0 q1 q2 q3
  obtain ⟨q0, q1, q2, q3, -⟩ := HcA.out w1 Hb1.out
  go_upto_region 3 with ((with_reducible refine (Hbin.out V1 V2 _ HN.out.1 HN.out.2).mono ?_); rintro e w3 ⟨rfl, hb3⟩; have Hb3 := Lib.hid (Hb1.out.trans (hb3.mono Hb1.out.size)); clear hb3)
  clear q0 q1 q2 q3
  obtain ⟨q0, q1, q2, q3, -⟩ := HcA.out w3 Hb3.out
  go_wp2_with fail
  refine (Hred.out _).mono ?_
  rintro e w5 ⟨rfl, hb5⟩
  have Hb5 := Lib.hid (Hb3.out.trans (hb5.mono Hb3.out.size))
  clear hb5 q0 q1 q2 q3 hp
  cases T with
  | none =>
    unfold redRet
    dsimp only
    go_upto_region 4 with fail
    have hA := heap_alloc_new w5 (.cells #[Value.int .i64 0, Value.int .i64 0, Value.int .i64 0, Value.int .i64 0] 30)
    have Hb6 := Lib.hid (Hb5.out.trans ((below_new w5 (.cells #[Value.int .i64 0, Value.int .i64 0, Value.int .i64 0, Value.int .i64 0] 30)).mono Hb5.out.size))
    obtain ⟨W6, hW6⟩ : ∃ W, w5.alloc (.cells #[Value.int .i64 0, Value.int .i64 0, Value.int .i64 0, Value.int .i64 0] 30) = W := ⟨_, rfl⟩
    obtain ⟨b6, hb6⟩ : ∃ z, w5.heap.size = z := ⟨_, rfl⟩
    have hne : g + 1 < b6 := by rw [← hb6]; exact Nat.lt_of_lt_of_le Hw.out.2.1 Hb5.out.size
    rw [hW6] at hA Hb6 ⊢
    rw [hb6] at hA ⊢
    obtain ⟨r0, r1, r2, r3, -⟩ := cells4 hA
    have Hzz := Lib.hid (HcZ.out W6 Hb6.out)
    obtain ⟨z0, z1, z2, z3, z4⟩ := cells4 Hzz.out
    have Hb8 := Lib.hid (show Below w.heap.size w W6 by rw [Hg.out]; exact Hw.out.2.2.trans (Hb6.out.mono (Nat.le_of_lt (Nat.lt_trans (Nat.lt_succ_self g) Hw.out.2.1))))
    have Hgz := Lib.hid (show w.heap.size ≤ g + 1 by rw [Hg.out]; omega)
    have Hne := Lib.hid hne
    clear hW6 hb6 hA hne
    have hs4 := set4_heap Hzz.out (.int .i64 0) (.int .i64 0) (.int .i64 0) (.int .i64 0)
    have hb9 := Lib.hid (set4_below Hb8.out Hgz.out (.int .i64 0) (.int .i64 0) (.int .i64 0) (.int .i64 0))
    unfold set4 at hs4 hb9
    go_wp2_with fail
    obtain ⟨y0, y1, y2, y3, -⟩ := cells4 hs4
    refine bodyPost_ret (v := .tuple #[.int .i64 0, .agg #[.int .i64 0, .int .i64 0, .int .i64 0, .int .i64 0], .int .i64 5]) ?_ rfl (HR.out.out _ _ ⟨rfl, hb9.out⟩)
    simp [results, Tryz.results39, go_sem, y0, y1, y2, y3]
  | some t =>
    obtain ⟨t1, t2, t3, t4⟩ := t
    unfold redRet Tn.val
    unfold Tn.val at HR
    dsimp only at HR ⊢
    go_upto_region 4 with fail
    have hA := heap_alloc_new w5 (.cells #[Value.int .i64 t1, Value.int .i64 t2, Value.int .i64 t3, Value.int .i64 t4] 30)
    have Hb6 := Lib.hid (Hb5.out.trans ((below_new w5 (.cells #[Value.int .i64 t1, Value.int .i64 t2, Value.int .i64 t3, Value.int .i64 t4] 30)).mono Hb5.out.size))
    obtain ⟨W6, hW6⟩ : ∃ W, w5.alloc (.cells #[Value.int .i64 t1, Value.int .i64 t2, Value.int .i64 t3, Value.int .i64 t4] 30) = W := ⟨_, rfl⟩
    obtain ⟨b6, hb6⟩ : ∃ z, w5.heap.size = z := ⟨_, rfl⟩
    have hne : g + 1 < b6 := by rw [← hb6]; exact Nat.lt_of_lt_of_le Hw.out.2.1 Hb5.out.size
    rw [hW6] at hA Hb6 ⊢
    rw [hb6] at hA ⊢
    obtain ⟨r0, r1, r2, r3, -⟩ := cells4 hA
    have Hzz := Lib.hid (HcZ.out W6 Hb6.out)
    obtain ⟨z0, z1, z2, z3, z4⟩ := cells4 Hzz.out
    have Hb8 := Lib.hid (show Below w.heap.size w W6 by rw [Hg.out]; exact Hw.out.2.2.trans (Hb6.out.mono (Nat.le_of_lt (Nat.lt_trans (Nat.lt_succ_self g) Hw.out.2.1))))
    have Hgz := Lib.hid (show w.heap.size ≤ g + 1 by rw [Hg.out]; omega)
    have Hne := Lib.hid hne
    clear hW6 hb6 hA hne
    have hs4 := set4_heap Hzz.out (.int .i64 t1) (.int .i64 t2) (.int .i64 t3) (.int .i64 t4)
    have hb9 := Lib.hid (set4_below Hb8.out Hgz.out (.int .i64 t1) (.int .i64 t2) (.int .i64 t3) (.int .i64 t4))
    unfold set4 at hs4 hb9
    go_wp2_with fail
    go_region
    go_wp2_with fail
    obtain ⟨y0, y1, y2, y3, -⟩ := cells4 hs4
    refine bodyPost_ret (v := .tuple #[.int .i64 k, .agg #[.int .i64 t1, .int .i64 t2, .int .i64 t3, .int .i64 t4], .int .i64 0]) ?_ rfl (HR.out.out _ _ ⟨rfl, hb9.out.drew⟩)
    simp [results, Tryz.results39, go_sem, y0, y1, y2, y3]
end
section
open Go.RowKit
theorem rroot_int (V : Value) (a n : Nat) (x : Int) (w : World) (g1 : Num w V a) (hx : x = (n : Int)) (hla : ln a ≤ 1000) (hn0 : 0 < n) (hn : n ≤ 24) :
    Calls Tryz.prog 122 #[V, .int .i64 x] w (GetsNum w (root n a)) := by
  subst hx
  exact rroot_any V a n w g1 hla hn0 hn
set_option maxRecDepth 16000 in
set_option maxHeartbeats 4000000 in
theorem rtimesT_any (base : Nat) (t : Tn) (w : World) (hb0 : 0 < base) (hbl : base < 18446744073709551616) (ht : t.Ok) :
    Calls Tryz.prog 73 #[.int .u64 (base : Nat), t.val] w fun e w' => ∃ V p, e = .returned (.tuple #[V, .bool p]) ∧ Num w' V (t.freqN base) ∧ Below w.heap.size w w' := by
  refine calls_cps ?_
  intro R hR
  have hl := ov_ln ht.two ht.three ht.five
  have HR := Lib.hid (show ∀ V p W, Num W V (t.freqN base) → Below w.heap.size w W → R (.returned (.tuple #[V, .bool p])) W from fun V p W g1 g2 => hR.out _ _ ⟨V, p, rfl, g1, g2⟩)
  unfold Tn.freqN at HR
  clear hR
  obtain ⟨a, b, c, d⟩ := t
  dsimp only at hl HR
  have A1 := ht.two
  have A2 := ht.three
  have A3 := ht.five
  have A4 := ht.lo
  have A5 := ht.hi
  dsimp only at A1 A2 A3 A4 A5
  have Hratio := Lib.hid (fun W => rsides_any a b c W A1 A2 A3)
  have hup : 0 < un a b c := un_pos a b c
  obtain ⟨O, hO⟩ : ∃ O, ov a b c = O := ⟨_, rfl⟩
  obtain ⟨U, hU⟩ : ∃ U, un a b c = U := ⟨_, rfl⟩
  rw [hO, hU] at hl HR Hratio
  rw [hU] at hup
  obtain ⟨n, hn⟩ : ∃ n, d.toNat = n := ⟨_, rfl⟩
  rw [hn] at HR
  have hdn : d = (n : Int) := by omega
  have hn0 : 0 < n := by omega
  have hn24 : n ≤ 24 := by omega
  have hlb : ln base ≤ 2 := (ln_two_iff base).2 hbl
  have hlp : ln base * n ≤ 48 := Nat.mul_le_mul hlb hn24
  have hlp2 : ln (base ^ n) ≤ 49 := Nat.le_trans (ln_pow_le' hb0 n) (by omega)
  have hlm : ln (base ^ n * O) ≤ 230 := Nat.le_trans (ln_mul_le _ _) (by omega)
  have hld : ln (base ^ n * O / U) ≤ 230 := Nat.le_trans (ln_div_le _ _) hlm
  have Hpow := Lib.hid (fun V W h => rpow_int V base n d W h hdn (by omega) (by omega) (by omega))
  have Hmul := Lib.hid (fun V V2 W h h2 => rmul_any V V2 (base ^ n) O W h h2 (by omega) (by omega))
  have Hdiv := Lib.hid (fun V V2 W h h2 => rdivmod_any V V2 (base ^ n * O) U W h h2 (by omega) (by omega) hup)
  have Hroot := Lib.hid (fun V W h => rroot_int V (base ^ n * O / U) n d W h hdn (by omega) hn0 hn24)
  have hlr : ln (root n (base ^ n * O / U)) ≤ 230 := Nat.le_trans (ln_mono (Nat.le_trans (le_pow_self hn0) (root_le hn0))) hld
  have hlrp : ln (root n (base ^ n * O / U) ^ n) ≤ 230 := Nat.le_trans (ln_mono (root_le hn0)) hld
  have hlrn : ln (root n (base ^ n * O / U)) * n ≤ 90000 := Nat.le_trans (Nat.mul_le_mul hlr hn24) (by omega)
  have Hpow2 := Lib.hid (fun V W h => rpow_int V (root n (base ^ n * O / U)) n d W h hdn hlrn (by omega) (by omega))
  have Hcmp := Lib.hid (fun V V2 W h h2 => rcmp_any V V2 (root n (base ^ n * O / U) ^ n) (base ^ n * O / U) W h h2 (by omega) (by omega))
  obtain ⟨P, hP⟩ : ∃ P, base ^ n = P := ⟨_, rfl⟩
  rw [hP] at HR Hpow Hmul Hdiv Hroot Hpow2 Hcmp
  obtain ⟨M, hM⟩ : ∃ M, P * O = M := ⟨_, rfl⟩
  rw [hM] at HR Hmul Hdiv Hroot Hpow2 Hcmp
  obtain ⟨D, hD⟩ : ∃ D, M / U = D := ⟨_, rfl⟩
  rw [hD] at HR Hdiv Hroot Hpow2 Hcmp
  obtain ⟨r, hr⟩ : ∃ r, root n D = r := ⟨_, rfl⟩
  rw [hr] at HR Hroot Hpow2 Hcmp
  obtain ⟨rp, hrp⟩ : ∃ x, r ^ n = x := ⟨_, rfl⟩
  rw [hrp] at Hpow2 Hcmp
  obtain ⟨cz, hcz⟩ : ∃ x, cmpN rp D = x := ⟨_, rfl⟩
  rw [hcz] at Hcmp
  have Hofb := Lib.hid (fun W => rOf_any base W hbl)
  unfold Tn.val
  dsimp only
  clear hn hdn hP hM hD hr hrp hcz hO hU hl hup hlp hlp2 hlm hld hlr hlrp hlrn A1 A2 A3 hb0 hbl hlb ht
  go_enter Tryz.func73, Tryz.ntmps73
  go_upto_region 1 with fail
  have hA := heap_alloc_new w (.cells #[Value.int .i64 a, .int .i64 b, .int .i64 c, .int .i64 d] 30)
  have Hb0 := Lib.hid (below_new w (.cells #[Value.int .i64 a, .int .i64 b, .int .i64 c, .int .i64 d] 30))
  have Hgl := Lib.hid (show w.heap.size < (w.alloc (.cells #[Value.int .i64 a, .int .i64 b, .int .i64 c, .int .i64 d] 30)).heap.size by simp)
  obtain ⟨W0, hW0⟩ : ∃ W, w.alloc (.cells #[Value.int .i64 a, .int .i64 b, .int .i64 c, .int .i64 d] 30) = W := ⟨_, rfl⟩
  obtain ⟨g, hg⟩ : ∃ g, w.heap.size = g := ⟨_, rfl⟩
  rw [hW0] at hA Hb0 Hgl ⊢
  rw [hg] at hA Hgl ⊢
  have HA := Lib.hid hA
  clear hW0 hg hA
  have HcA := Lib.hid (fun W' (hb : Below W0.heap.size W0 W') => cells4 ((hb.block g Hgl.out).trans HA.out))
  obtain ⟨q0, q1, q2, q3, -⟩ := HcA.out W0 (Below.refl _ _)
  go_upto_region 2 with ((with_reducible refine (Hratio.out _).mono ?_); rintro e w2 ⟨V1, V2, rfl, hV1, hV2, hb2⟩; have HN2 := Lib.hid (And.intro hV1 hV2); have Hb2 := Lib.hid hb2; clear hV1 hV2 hb2)
  clear q0 q1 q2 q3
  obtain ⟨q0, q1, q2, q3, -⟩ := HcA.out w2 Hb2.out
  have hbz : Below w2.heap.size w2 w2.drew := (Below.refl _ w2).drew
  have Hbx := Lib.hid (show ∀ W', Below w2.heap.size w2 W' → Below w2.heap.size w2 W' ∧ W'.cell? ⟨g, 3, none⟩ = some (.int .i64 d) from fun W' hb => by
    obtain ⟨r0, r1, r2, r3, _⟩ := HcA.out W' (Hb2.out.trans (hb.mono Hb2.out.size))
    exact ⟨hb, r3⟩)
  go_region_held3 (fun w' => Below w2.heap.size w2 w' ∧ w'.cell? ⟨g, 3, none⟩ = some (.int .i64 d))
    (first
      | (refine Hbx.out _ ?_; repeat (first | with_reducible exact hbz | with_reducible exact Below.refl _ _ | with_reducible refine Below.drew ?_ | with_reducible exact hka | with_reducible exact hkb | with_reducible exact hkc | assumption | exact Nat.le_refl _))
      | go_keep)
    (first
    | (go_at_call 99; have hcur := (‹Below w2.heap.size w2 _ ∧ _›).1; (with_reducible refine (Hofb.out _).mono ?_); rintro e w3 ⟨VB, rfl, hVB, hb3⟩; have hka := hcur.trans (hb3.mono hcur.size); clear hcur)
    | (go_at_call 102; (with_reducible refine (Hpow.out VB _ hVB).mono ?_); rintro e w4 ⟨VP, rfl, hVP, hb4⟩; have hkb := hka.trans (hb4.mono hka.size))
    | (go_at_call 101; (with_reducible refine (Hmul.out VP V1 _ hVP (HN2.out.1.below hkb)).mono ?_); rintro e w5 ⟨VM, rfl, hVM, hb5⟩; have hkc := hkb.trans (hb5.mono hkb.size)))
  have HN5 := Lib.hid (show Num w5 VM M ∧ Num w5 V2 U from ⟨hVM, HN2.out.2.below hkc⟩)
  have Hb5 := Lib.hid (Hb2.out.trans (hkc.mono Hb2.out.size))
  clear q0 q1 q2 q3 hka hkb hkc hb3 hb4 hb5 hVB hVP hVM hbz
  go_upto_region 4 with ((with_reducible refine (Hdiv.out VM V2 _ HN5.out.1 HN5.out.2).mono ?_); rintro e w6 ⟨VD, VE, rfl, hVD, hVE, hb6⟩; have HD := Lib.hid (And.intro hVD hVE); have Hb6 := Lib.hid (Hb5.out.trans (hb6.mono Hb5.out.size)); clear hVD hVE hb6)
  obtain ⟨q0, q1, q2, q3, -⟩ := HcA.out w6 Hb6.out
  go_upto_region 5 with ((with_reducible refine (Hroot.out VD _ HD.out.1).mono ?_); rintro e w7 ⟨VR, rfl, hVR, hb7⟩; have Hr7 := Lib.hid (show Num w7 VR r ∧ Num w7 VD D ∧ Num w7 VE (M % U) from ⟨hVR, HD.out.1.below hb7, HD.out.2.below hb7⟩); have Hb7 := Lib.hid (Hb6.out.trans (hb7.mono Hb6.out.size)); clear hVR hb7)
  clear q0 q1 q2 q3
  obtain ⟨q0, q1, q2, q3, -⟩ := HcA.out w7 Hb7.out
  have Hend := Lib.hid (fun p W' (hb : Below w7.heap.size w7 W') => HR.out VR p W' (Hr7.out.1.below hb) (Hb0.out.trans ((Hb7.out.trans (hb.mono Hb7.out.size)).mono Hb0.out.size)))
  obtain ⟨AE, nE, cE, hVE, hnE, hmE⟩ := Hr7.out.2.2
  subst hVE
  have HnE := Lib.hid hmE
  clear hmE
  rcases Nat.eq_zero_or_pos nE with hz | hz
  · subst hz
    by_cases hc0 : cz = 0
    · subst hc0
      go_wp2_with (first
        | ((with_reducible refine (Hpow2.out VR _ Hr7.out.1).mono ?_); rintro e w8 ⟨V8, rfl, hV8, hb8⟩; have H8 := Lib.hid (show Num w8 V8 rp ∧ Num w8 VD D from ⟨hV8, Hr7.out.2.1.below hb8⟩); have Hb8 := Lib.hid hb8; clear hV8 hb8)
        | ((with_reducible refine (Hcmp.out V8 VD _ H8.out.1 H8.out.2).mono ?_); rintro e w9 ⟨rfl, hq9⟩))
      first | exact Hend.out _ _ (Hb8.out.trans (hq9.below.mono Hb8.out.size)) | (go_ret2; exact Hend.out _ _ (Hb8.out.trans (hq9.below.mono Hb8.out.size)))
    · go_wp2_with (first
        | ((with_reducible refine (Hpow2.out VR _ Hr7.out.1).mono ?_); rintro e w8 ⟨V8, rfl, hV8, hb8⟩; have H8 := Lib.hid (show Num w8 V8 rp ∧ Num w8 VD D from ⟨hV8, Hr7.out.2.1.below hb8⟩); have Hb8 := Lib.hid hb8; clear hV8 hb8)
        | ((with_reducible refine (Hcmp.out V8 VD _ H8.out.1 H8.out.2).mono ?_); rintro e w9 ⟨rfl, hq9⟩))
      first | exact Hend.out _ _ (Hb8.out.trans (hq9.below.mono Hb8.out.size)) | (go_ret2; exact Hend.out _ _ (Hb8.out.trans (hq9.below.mono Hb8.out.size)))
  · have hz0 : ¬ nE = 0 := by omega
    have hz1 : ((nE : Int) == 0) = false := by simp; omega
    go_wp2_with fail
    first | exact Hend.out _ _ (Below.refl _ _) | (go_ret2; exact Hend.out _ _ (Below.refl _ _))
set_option maxRecDepth 16000 in
set_option maxHeartbeats 4000000 in
theorem rfreq_any (base : Nat) (t : Tn) (w : World) (hb0 : 0 < base) (hbl : base < 18446744073709551616) (ht : t.Ok) :
    Calls Tryz.prog 43 #[.int .u64 (base : Nat), t.val] w fun e w' => e = .returned (freqRet base t) ∧ Below w.heap.size w w' := by
  refine calls_cps ?_
  intro R hR
  have hl := ov_ln ht.two ht.three ht.five
  have HT := Lib.hid (fun W => rtimesT_any base t W hb0 hbl ht)
  have hlr : ln (t.freqN base) ≤ 600000 := by
    have A4 := ht.lo
    have A5 := ht.hi
    unfold Tn.freqN
    obtain ⟨n, hn⟩ : ∃ n, t.den.toNat = n := ⟨_, rfl⟩
    rw [hn]
    have hn0 : 0 < n := by omega
    refine Nat.le_trans (ln_mono (Nat.le_trans (le_pow_self hn0) (root_le hn0))) (Nat.le_trans (ln_div_le _ _) (Nat.le_trans (ln_mul_le _ _) ?_))
    have h1 := ln_pow_g base n
    have h2 : ln base * n ≤ 2 * 24 := Nat.mul_le_mul ((ln_two_iff base).2 hbl) (by omega)
    omega
  unfold freqRet at hR
  obtain ⟨r, hr⟩ : ∃ r, t.freqN base = r := ⟨_, rfl⟩
  rw [hr] at hR HT hlr
  obtain ⟨a, b, c, d⟩ := t
  unfold Tn.val at HT ⊢
  dsimp only at HT ⊢
  have Hs := Lib.hid (fun V W h => rsmall_any V r W h hlr)
  have HR := Lib.hid hR
  clear hR hl hlr hr ht hb0 hbl
  go_enter Tryz.func43, Tryz.ntmps43
  go_upto_region 1 with fail
  have hA := heap_alloc_new w (.cells #[Value.int .i64 a, .int .i64 b, .int .i64 c, .int .i64 d] 30)
  have Hb0 := Lib.hid (below_new w (.cells #[Value.int .i64 a, .int .i64 b, .int .i64 c, .int .i64 d] 30))
  obtain ⟨W0, hW0⟩ : ∃ W, w.alloc (.cells #[Value.int .i64 a, .int .i64 b, .int .i64 c, .int .i64 d] 30) = W := ⟨_, rfl⟩
  obtain ⟨g, hg⟩ : ∃ g, w.heap.size = g := ⟨_, rfl⟩
  rw [hW0] at hA Hb0 ⊢
  rw [hg] at hA ⊢
  obtain ⟨q0, q1, q2, q3, -⟩ := cells4 hA
  clear hW0 hg hA
  go_upto_region 2 with ((with_reducible refine (HT.out _).mono ?_); rintro e w2 ⟨V1, p, rfl, hV1, hb2⟩; have HN2 := Lib.hid hV1; have Hb2 := Lib.hid (Hb0.out.trans (hb2.mono Hb0.out.size)); clear hV1 hb2)
  clear q0 q1 q2 q3
  rcases Nat.lt_or_ge r 18446744073709551616 with h64 | h64
  · have Hs1 := Lib.hid (Hs.out V1 w2 HN2.out)
    rw [if_pos h64] at Hs1
    rcases Nat.lt_or_ge r 9223372036854775808 with h63 | h63
    · have t1 : decide ((9223372036854775808 : Int) ≤ (r : Int)) = false := decide_eq_false (by omega)
      have t2 : decide (9223372036854775808 ≤ r) = false := decide_eq_false (by omega)
      have Hf := Lib.hid (HR.out.out (.returned (.tuple #[.int .u64 (r : Nat), .int .i64 0])) w2 ⟨by rw [if_pos h63], Hb2.out⟩)
      go_wp2_with ((with_reducible refine Hs1.out.mono ?_); rintro e w3 ⟨rfl, hw⟩; subst hw)
      exact Hf.out
    · have t1 : decide ((9223372036854775808 : Int) ≤ (r : Int)) = true := decide_eq_true (by omega)
      have t2 : decide (9223372036854775808 ≤ r) = true := decide_eq_true (by omega)
      have Hf := Lib.hid (HR.out.out (.returned (.tuple #[.int .u64 0, .int .i64 5])) w2 ⟨by rw [if_neg (by omega)], Hb2.out⟩)
      go_wp2_with ((with_reducible refine Hs1.out.mono ?_); rintro e w3 ⟨rfl, hw⟩; subst hw)
      exact Hf.out
  · have Hs1 := Lib.hid (Hs.out V1 w2 HN2.out)
    rw [if_neg (by omega)] at Hs1
    have Hf := Lib.hid (HR.out.out (.returned (.tuple #[.int .u64 0, .int .i64 5])) w2 ⟨by rw [if_neg (by omega)], Hb2.out⟩)
    clear h64
    go_wp2_with ((with_reducible refine Hs1.out.mono ?_); rintro e w3 ⟨rfl, hw⟩; subst hw)
    exact Hf.out
end
end
section
section
open Go.RowKit
theorem mayB (p q r : Bool) : (p && (q && r)) = (q && p && r) := by cases p <;> cases q <;> cases r <;> rfl
set_option maxHeartbeats 2000000 in
theorem rmay_any (A : Option Addr) (n c : Nat) (l : List Int) (u : Int) (w : World) (hS : SlE intE 1 w A n l) (hn : n ≤ 9223372036854775807) :
    Calls Tryz.prog 15 #[.slice A n c, .int .i64 u] w fun e w' => e = .returned (.bool (rightB l u)) ∧ w = w' := by
  refine calls_cps ?_
  intro R hR
  unfold rightB at hR
  rw [← hS.1, mayB] at hR
  have h1 := fun W => in_any (n : Int) 1 24 W
  have h2 := all_any A n c l (n : Int) (-12) 12 w hS hn
  have h3 := fun W => in_any u 1 24 W
  have e0 : (decide ((n : Int) = (n : Int)) && l.all (fun x => inB x (-12) 12)) = l.all (fun x => inB x (-12) 12) := by simp
  rw [e0] at h2
  obtain ⟨p, hp⟩ : ∃ p, l.all (fun x => inB x (-12) 12) = p := ⟨_, rfl⟩
  obtain ⟨q, hq⟩ : ∃ q, inB (n : Int) 1 24 = q := ⟨_, rfl⟩
  obtain ⟨r, hr⟩ : ∃ r, inB u 1 24 = r := ⟨_, rfl⟩
  rw [hp, hq, hr] at hR
  rw [hp] at h2
  rw [hq] at h1
  rw [hr] at h3
  have HR := Lib.hid hR
  have H1 := Lib.hid h1
  have H2 := Lib.hid h2
  have H3 := Lib.hid h3
  clear hR h1 h2 h3 e0 hp hq hr hS
  cases q <;> cases p <;> cases r
  all_goals
    go_enter Tryz.func15, Tryz.ntmps15
    go_wp2_with (first
      | (go_at_call 37; (with_reducible refine H2.out.mono ?_); rintro e w' ⟨rfl, hw⟩; subst hw)
      | (go_at_call 36; (with_reducible refine (H1.out _).mono ?_); rintro e w' ⟨rfl, hw⟩; subst hw)
      | (go_at_call 36; (with_reducible refine (H3.out _).mono ?_); rintro e w' ⟨rfl, hw⟩; subst hw))
    exact HR.out.out _ _ ⟨rfl, rfl⟩
theorem TwTh.step' {l : List Int} {u : Int} {k : Nat} {X Y x : Int} (h : TwTh l u k X Y) (hx : l[k]? = some x) : TwTh l u (k + 1) (X + (-u + 19 * x)) (Y + (u - 12 * x)) := by
  have h2 := h.step hx
  have e : 19 * x - u = -u + 19 * x := by omega
  rwa [e] at h2
set_option maxRecDepth 8000 in
set_option maxHeartbeats 4000000 in
theorem rcloses_any (A : Option Addr) (n c : Nat) (l : List Int) (u : Int) (w : World) (hS : SlE intE 1 w A n l) (hr : rightB l u = true) :
    Calls Tryz.prog 17 #[.slice A n c, .int .i64 u] w fun e w' => e = .returned (.bool (closesB l u)) ∧ w = w' := by
  refine calls_cps ?_
  intro R hR
  have hL := Lib.hid hS.1
  obtain ⟨hx12, hn1, hn24, hu1, hu2⟩ := right_spec hr
  rw [← hL.out] at hn24
  have Hx12 := Lib.hid hx12
  have HR := Lib.hid (show ∀ b : Bool, b = closesB l u → R (.returned (.bool b)) w from fun b hb => hR.out _ _ ⟨by rw [hb], rfl⟩)
  clear hR hr hx12 hn1
  go_enter Tryz.func17, Tryz.ntmps17
  go_wp2_with fail
  go_loopw [5, 6, 7] (fun s6 s7 i wr => ∃ (k : Nat) (X Y : Int), k ≤ n ∧ i = .int .i64 k ∧ s6 = .int .i64 X ∧ s7 = .int .i64 Y ∧ wr = w ∧ -(252 * (k : Int)) ≤ X ∧ X ≤ 252 * (k : Int) ∧ -(168 * (k : Int)) ≤ Y ∧ Y ≤ 168 * (k : Int) ∧ Hid (TwTh l u k X Y)) (fun _ _ i _ => n - (intOf i).toNat)
  case atStart => exact ⟨0, 0, 0, Nat.zero_le _, rfl, rfl, rfl, rfl, by omega, by omega, by omega, by omega, Lib.hid ⟨by simp, by simp⟩⟩
  case round =>
    obtain ⟨k, X, Y, hk, rfl, rfl, rfl, rfl, hX1, hX2, hY1, hY2, HT⟩ := hrel
    by_cases hlt : k < n
    · obtain ⟨b, o, x, rfl, hbl, hs, c0⟩ := hS.at1 hlt
      have hx := Hx12.out x (List.mem_of_getElem? hs)
      have Hs := Lib.hid hs
      clear hs
      go_wp2_with fail
      exact ⟨⟨k + 1, _, _, by omega, by go_num, rfl, rfl, by trivial, by omega, by omega, by omega, by omega, Lib.hid (HT.out.step' Hs.out)⟩, by simp [intOf]; omega⟩
    · obtain rfl : k = n := by omega
      have h1 := HT.out.two
      have h2 := HT.out.three
      rw [List.take_of_length_le (by rw [hL.out]; exact Nat.le_refl _)] at h1 h2
      have HF := Lib.hid (show ∀ b : Bool, b = (decide (Y = 0) && decide (Int.tmod X u = 0)) → R (.returned (.bool b)) wr from fun b hb => HR.out b (by rw [hb, h1, h2]; unfold closesB; rw [← hL.out]))
      obtain ⟨z, hz⟩ : ∃ z, Int.tmod X u = z := ⟨_, rfl⟩
      have hu0 : ¬ u = 0 := by omega
      rw [hz] at HF
      clear h1 h2 HR
      by_cases hY : Y = 0 <;> by_cases hZ : z = 0
      all_goals
        go_wp2_with fail
        exact HF.out _ (by simp [hY, hZ])
end
section
open Go.RowKit
theorem SlE.at4' {w : World} {A : Option Addr} {n k : Nat} {L : List Tn} (h : SlE tnE 4 w A n L) (hk : k < n) :
    ∃ b o l, A = some ⟨b, o, none⟩ ∧ b < w.heap.size ∧ L[k]? = some l ∧ w.cell? ⟨b, o + k * 4, none⟩ = some (.int .i64 l.two) ∧ w.cell? ⟨b, o + k * 4 + 1, none⟩ = some (.int .i64 l.three) ∧ w.cell? ⟨b, o + k * 4 + 2, none⟩ = some (.int .i64 l.five) ∧ w.cell? ⟨b, o + k * 4 + 3, none⟩ = some (.int .i64 l.den) := by
  obtain ⟨b, o, x, hA, hb, hx, hc⟩ := h.at_ tnE_len hk
  exact ⟨b, o, x, hA, hb, hx, by simpa using hc 0 _ rfl, by simpa [Nat.add_assoc] using hc 1 _ rfl, by simpa [Nat.add_assoc] using hc 2 _ rfl, by simpa [Nat.add_assoc] using hc 3 _ rfl⟩
theorem red_agg (J : Option Tn) : ∃ y1 y2 y3 y4 ce : Int, redRet J = .tuple #[.agg #[.int .i64 y1, .int .i64 y2, .int .i64 y3, .int .i64 y4], .int .i64 ce] ∧ (∀ y, J = some y → y = ⟨y1, y2, y3, y4⟩ ∧ ce = 0) ∧ (J = none → ce = 5) := by
  cases J with
  | none => exact ⟨0, 0, 0, 0, 5, rfl, fun y h => absurd h (by simp), fun _ => rfl⟩
  | some y =>
    obtain ⟨y1, y2, y3, y4⟩ := y
    exact ⟨y1, y2, y3, y4, 0, rfl, fun y h => ⟨(Option.some.inj h).symm, rfl⟩, fun h => absurd h (by simp)⟩
set_option maxRecDepth 16000 in
set_option maxHeartbeats 8000000 in
theorem rtones_any (A : Option Addr) (n c : Nat) (l : List Int) (u : Int) (w : World) (hS : SlE intE 1 w A n l) (hr : rightB l u = true) :
    Calls Tryz.prog 16 #[.slice A n c, .int .i64 u] w (TonesP w l u) := by
  refine calls_cps ?_
  intro R hR
  have Hn := Lib.hid hS.1
  have HS := Lib.hid hS
  obtain ⟨T, hT⟩ : ∃ T, tonesF u tn0 l.dropLast = T := ⟨_, rfl⟩
  unfold TonesP at hR
  rw [hT] at hR
  have HT := Lib.hid hT
  have HR := Lib.hid hR
  have Hr := Lib.hid hr
  have hrs := right_spec hr
  have Hst := Lib.hid hrs.1
  obtain ⟨-, l1, l2, u1, u2⟩ := hrs
  have l1 : 1 ≤ n := by rw [Hn.out]; exact l1
  have l2 : n ≤ 24 := by rw [Hn.out]; exact l2
  obtain ⟨k, hk⟩ : ∃ k, n = k + 1 := ⟨n - 1, by omega⟩
  have hki : (n : Int) = (k : Int) + 1 := by omega
  have hkn : k ≤ 23 := by omega
  have Hkn := Lib.hid hk
  subst hk
  clear hR hS hT hr hki
  go_enter Tryz.func16, Tryz.ntmps16
  go_upto_region 2 with fail
  have ho := own_newAt w #[Value.int .i64 0, Value.int .i64 0, Value.int .i64 0, Value.int .i64 1] 30 4 1 w.heap.size rfl (by simp) (by unfold maxLen; omega) (b := w.heap.size) rfl
  have hb0 := below_new w (.cells #[Value.int .i64 0, Value.int .i64 0, Value.int .i64 0, Value.int .i64 1] 30)
  obtain ⟨W0, hW0⟩ : ∃ W, w.alloc (.cells #[Value.int .i64 0, Value.int .i64 0, Value.int .i64 0, Value.int .i64 1] 30) = W := ⟨_, rfl⟩
  rw [hW0] at ho hb0 ⊢
  obtain ⟨g, hg⟩ : ∃ g, w.heap.size = g := ⟨_, rfl⟩
  rw [hg] at ho hb0 ⊢
  have Hg := Lib.hid hg
  have Ho := Lib.hid (show W0.ownsRow g 30 4 (.slice (some ⟨g, 0, none⟩) 1 1) 1 ([tn0].flatMap tnE) from ho)
  have Hb0 := Lib.hid hb0
  clear hW0 hg ho hb0
  go_wp2_with fail
  go_loopw [6, 7, 8, 9, 10, 11, 12] (fun s6 s7 _ _ _ _ _ wr => ∃ (i c6 : Nat) (A6 : Option Addr) (x : Tn) (L : List Tn), s6 = .slice A6 (i + 1) c6 ∧ s7 = .int .i64 (i : Nat) ∧ i ≤ k ∧ Hid (x.Ok ∧ L.length = i ∧ T = (tonesF u x (l.dropLast.drop i)).map (L ++ ·)) ∧ Hid ((tn0 :: L)[i]? = some x) ∧ Hid (wr.ownsRow g 30 4 (.slice A6 (i + 1) c6) (i + 1) ((tn0 :: L).flatMap tnE)) ∧ Hid (Below g w wr)) (fun _ s7 _ _ _ _ _ _ => k - (intOf s7).toNat)
  case atStart => exact ⟨0, 1, _, tn0, [], rfl, rfl, Nat.zero_le _, Lib.hid ⟨tn0_ok, rfl, by rw [List.drop_zero, HT.out]; cases T <;> simp⟩, Lib.hid rfl, Ho, Hb0⟩
  case round =>
    obtain ⟨i, c6, A6, x, L, rfl, rfl, hi, HI, HX, HO, HW⟩ := hrel
    have hsz : g ≤ wr.heap.size := by have := HW.out.size; rw [Hg.out] at this; exact this
    have Hgw := Lib.hid (fun W' (hb : Below wr.heap.size wr W') => show Below w.heap.size w W' by rw [Hg.out]; exact HW.out.trans (hb.mono hsz))
    by_cases hlt : i < k
    · have j1 : (i : Int) < (k : Int) := by omega
      have j2 : (i : Int) + 1 < (k : Int) + 1 := by omega
      have j3 : (i : Int) < (k : Int) + 1 := by omega
      have j4 : (i : Int) < (i : Int) + 1 := by omega
      have j0 : (0 : Int) ≤ (i : Int) := by omega
      obtain ⟨bl, o, s, rfl, hbl, hs, q0⟩ := (HS.out.below (Hgw.out wr (Below.refl _ _))).at1 (k := i) (by omega)
      have hsd : l.dropLast[i]? = some s := by
        rw [List.getElem?_dropLast, if_pos (by have := Hn.out; omega)]; exact hs
      have hs2 := Hst.out s (List.mem_of_getElem? hs)
      have Hd := Lib.hid (drop_at hsd)
      have hSx : SlE tnE 4 wr A6 (i + 1) (tn0 :: L) := SlE.of_own HO.out (by rw [List.length_cons, HI.out.2.1])
      obtain ⟨bx, ox, x', rfl, hbx, hx', p0, p1, p2, p3⟩ := hSx.at4' (k := i) (by omega)
      rw [HX.out] at hx'
      obtain rfl := Option.some.inj hx'
      have Hst2 := Lib.hid (show tonesF u x (l.dropLast.drop i) = (match stepT x s u with | some y => (tonesF u y (l.dropLast.drop (i + 1))).map (y :: ·) | none => none) from by rw [Hd.out]; rfl)
      unfold stepT at Hst2
      have hfif := fun W => rfifth_any s u W hs2.1 hs2.2 u1 u2
      have hmul := fun W => rmulT_any x (fifT s u) W HI.out.1 (fifT_ok hs2.1 hs2.2 u1 u2).2
      obtain ⟨J, hJ⟩ : ∃ J, joinT x (fifT s u) 1 = J := ⟨_, rfl⟩
      rw [hJ] at hmul Hst2
      have Hok := Lib.hid (fun y (h : J = some y) => join_ok (hJ.trans h))
      obtain ⟨y1, y2, y3, y4, ce, hre, hJs, hJn⟩ := red_agg J
      rw [hre] at hmul
      obtain ⟨F, hF⟩ : ∃ F, fifT s u = F := ⟨_, rfl⟩
      rw [hF] at hfif hmul
      obtain ⟨x1, x2, x3, x4⟩ := x
      obtain ⟨f1, f2, f3, f4⟩ := F
      unfold Tn.val at hfif hmul
      dsimp only at hfif hmul p0 p1 p2 p3
      have Hfif := Lib.hid hfif
      have Hmul := Lib.hid hmul
      have HJ := Lib.hid (And.intro hJs hJn)
      have Hc := Lib.hid (show ∀ W', Below wr.heap.size wr W' → Below wr.heap.size wr W' ∧ W'.cell? ⟨bx, ox + i * 4, none⟩ = some (.int .i64 x1) ∧ W'.cell? ⟨bx, ox + i * 4 + 1, none⟩ = some (.int .i64 x2) ∧ W'.cell? ⟨bx, ox + i * 4 + 2, none⟩ = some (.int .i64 x3) ∧ W'.cell? ⟨bx, ox + i * 4 + 3, none⟩ = some (.int .i64 x4) ∧ W'.cell? ⟨bl, o + i, none⟩ = some (.int .i64 s) from fun W' hb =>
        ⟨hb, (hb.cell (p := ⟨bx, ox + i * 4, none⟩) hbx).trans p0, (hb.cell (p := ⟨bx, ox + i * 4 + 1, none⟩) hbx).trans p1, (hb.cell (p := ⟨bx, ox + i * 4 + 2, none⟩) hbx).trans p2, (hb.cell (p := ⟨bx, ox + i * 4 + 3, none⟩) hbx).trans p3, (hb.cell (p := ⟨bl, o + i, none⟩) hbl).trans q0⟩)
      clear hfif hmul hJ hJs hJn hre hF hs hs2 hsd p0 p1 p2 p3 q0 hSx
      go_upto_region 5 with fail
      go_cut [8, 9] (fun s8 s9 wx => ∃ zb : Nat, s8 = .pointer (some ⟨zb, 0, none⟩) ∧ s9 = .int .i64 ce ∧ Hid (wx.heap[zb]? = some (.cells #[Value.int .i64 y1, .int .i64 y2, .int .i64 y3, .int .i64 y4] 30 (0, 0))) ∧ Hid (Below wr.heap.size wr wx))
      case first =>
        have hbz : Below wr.heap.size wr wr.drew := (Below.refl _ wr).drew
        obtain ⟨-, p0, p1, p2, p3, c0⟩ := Hc.out _ (Below.refl _ wr)
        have hl0 : wr.heap.size ≤ wr.drew.heap.size := Nat.le_refl _
        go_region_held3 (fun W' => Below wr.heap.size wr W' ∧ W'.cell? ⟨bx, ox + i * 4, none⟩ = some (.int .i64 x1) ∧ W'.cell? ⟨bx, ox + i * 4 + 1, none⟩ = some (.int .i64 x2) ∧ W'.cell? ⟨bx, ox + i * 4 + 2, none⟩ = some (.int .i64 x3) ∧ W'.cell? ⟨bx, ox + i * 4 + 3, none⟩ = some (.int .i64 x4) ∧ W'.cell? ⟨bl, o + i, none⟩ = some (.int .i64 s))
          (first
            | (refine Hc.out _ ?_; repeat (first | with_reducible exact hbz | with_reducible exact hk2 | with_reducible exact hk1 | with_reducible refine Below.drew ?_ | with_reducible refine below_al1 ?_ _ | with_reducible exact Below.refl _ _ | (with_reducible refine Below.setCell ?_ (by first | exact hk1.size | exact hk2.size | exact Nat.le_refl _) _)))
            | go_keep)
          (first
          | (go_at_call 13; have hcur := (‹Below wr.heap.size wr _ ∧ _›).1; (with_reducible refine (Hfif.out _).mono ?_); rintro e w7 ⟨rfl, hb7⟩; have hk1 := hcur.trans (hb7.mono hcur.size); (try (have hzA := (hb7.block wr.heap.size (by simp)).trans (heap_alloc_new wr (.cells #[Value.int .i64 0, .int .i64 0, .int .i64 0, .int .i64 0] 30)); obtain ⟨x0, x1, x2, x3, x4⟩ := cells4 hzA)); clear hb7 hcur)
          | (go_at_call 38; have hcur := (‹Below wr.heap.size wr _ ∧ _›).1; (with_reducible refine (Hmul.out _).mono ?_); rintro e w8 ⟨rfl, hb8⟩; have hk2 := hcur.trans (hb8.mono hcur.size); (try (have hzB := (hb8.block wr.heap.size (Array.getElem?_eq_some_iff.1 hzA).1).trans hzA; obtain ⟨x0, x1, x2, x3, x4⟩ := cells4 hzB)); (try (have hzB := (hb8.block w7.heap.size (by simp)).trans (heap_alloc_new w7 (.cells #[Value.int .i64 0, .int .i64 0, .int .i64 0, .int .i64 0] 30)); obtain ⟨x0, x1, x2, x3, x4⟩ := cells4 hzB)); clear hb8 hcur))
        all_goals
          go_wp2_with fail
          go_meet
          first
            | exact ⟨_, rfl, rfl, Lib.hid (heap_alloc_new w8 _), Lib.hid (below_al1 hk2 _)⟩
            | exact ⟨_, rfl, rfl, Lib.hid (set4_heap hzB _ _ _ _), Lib.hid (set4_below hk2 hk1.size _ _ _ _)⟩
            | exact ⟨_, rfl, rfl, Lib.hid (set4_heap hzB _ _ _ _), Lib.hid (set4_below hk2 (Nat.le_refl _) _ _ _ _)⟩
      case rest =>
        obtain ⟨zb, rfl, rfl, HY, HB⟩ := hcut
        obtain ⟨x0, x1', x2', x3', -⟩ := cells4 HY.out
        clear Hc Hfif Hmul
        cases J with
        | none =>
          obtain rfl := HJ.out.2 rfl
          have Hf := Lib.hid (fun W' (hb : Below wr.heap.size wr W') => HR.out.out (.returned (.tuple #[.slice none 0 0, .int .i64 5])) W' ⟨Hgw.out W' hb, .inr (.inl ⟨Hr.out, by rw [HI.out.2.2, Hst2.out]; rfl, rfl⟩)⟩)
          clear Hst2 Hok
          go_wp2_with fail
          first | exact Hf.out _ HB.out | (go_ret2; exact Hf.out _ HB.out)
        | some y =>
          obtain ⟨hy, hce⟩ := HJ.out.1 y rfl
          subst hce
          have hyo := Hok.out y rfl
          dsimp only at Hst2
          have hoct := fun W => roctave_any y W hyo
          unfold octRet at hoct
          obtain ⟨Z, hZ⟩ : ∃ Z, y.rest = Z := ⟨_, rfl⟩
          rw [hZ] at hoct Hst2
          obtain ⟨ko, hko⟩ : ∃ ko, y.oct = ko := ⟨_, rfl⟩
          rw [hko] at hoct
          have Hzo := Lib.hid (fun z (h : Z = some z) => rest_ok (hZ.trans h))
          subst hy
          unfold Tn.val at hoct
          dsimp only at hoct
          have Hoct := Lib.hid hoct
          clear hoct hZ hko hyo Hok HJ
          cases Z with
          | none =>
            have Hf := Lib.hid (fun W' (hb : Below wr.heap.size wr W') => HR.out.out (.returned (.tuple #[.slice none 0 0, .int .i64 5])) W' ⟨Hgw.out W' hb, .inr (.inl ⟨Hr.out, by rw [HI.out.2.2, Hst2.out]; rfl, rfl⟩)⟩)
            clear Hst2 Hzo
            dsimp only at Hoct
            go_wp2_with ((with_reducible refine (Hoct.out _).mono ?_); rintro e w3 ⟨rfl, hb3⟩; have Hb3 := Lib.hid (HB.out.trans (hb3.mono HB.out.size)); clear hb3)
            first | exact Hf.out _ (below_al1 Hb3.out _) | (go_ret2; exact Hf.out _ (below_al1 Hb3.out _))
          | some z =>
            have hzo := Hzo.out z rfl
            obtain ⟨t1, t2, t3, t4⟩ := z
            dsimp only at Hoct Hst2
            have Hzok := Lib.hid hzo
            clear hzo Hzo
            go_upto_region 9 with ((with_reducible refine (Hoct.out _).mono ?_); rintro e w3 ⟨rfl, hb3⟩; have Hb3 := Lib.hid (HB.out.trans (hb3.mono HB.out.size)); clear hb3)
            have hA := heap_alloc_new w3 (.cells #[Value.int .i64 t1, .int .i64 t2, .int .i64 t3, .int .i64 t4] 30)
            have Hb4 := Lib.hid (below_al1 Hb3.out (.cells #[Value.int .i64 t1, .int .i64 t2, .int .i64 t3, .int .i64 t4] 30))
            obtain ⟨W4, hW4⟩ : ∃ W, w3.alloc (.cells #[Value.int .i64 t1, .int .i64 t2, .int .i64 t3, .int .i64 t4] 30) = W := ⟨_, rfl⟩
            obtain ⟨b4, hb4⟩ : ∃ z, w3.heap.size = z := ⟨_, rfl⟩
            rw [hW4] at hA Hb4 ⊢
            rw [hb4] at hA ⊢
            clear x0 x1' x2' x3'
            obtain ⟨r0, r1, r2, r3, -⟩ := cells4 hA
            have HO4 := Lib.hid (ownsRow_below HO.out Hb4.out)
            have hsz4 : g ≤ W4.heap.size := Nat.le_trans hsz Hb4.out.size
            have Hgb := Lib.hid (show Below g w W4 from HW.out.trans (Hb4.out.mono hsz))
            clear hW4 hb4 hA
            go_wp2_with (at_builtin; refine wpList_app rfl (.tmp 48) (.tmp 50) _ rfl elemTn g _ _ _ rfl (ownsRow_below HO4.out (below_new W4 _)) _ _ _ _ rfl (Sl.new W4 _ _ 4 1 rfl) (by simp [Value.oneCell']) (by unfold maxLen; omega) (by omega) (by simp; omega) ?_; intro A8 c8 w5 ho5 hg5 _)
            have hk5 := grown_kx (ownsRow_below HO4.out (below_new W4 (.cells #[Value.int .i64 t1, .int .i64 t2, .int .i64 t3, .int .i64 t4] 30))) hg5
            have hb5 : Below g w w5 := Kx.low (Hgb.out.alloc hsz4 (.cells #[Value.int .i64 t1, .int .i64 t2, .int .i64 t3, .int .i64 t4] 30)) hk5 (fun j hj => hj) (by simp; omega)
            have hT' : T = (tonesF u ⟨t1, t2, t3, t4⟩ (l.dropLast.drop (i + 1))).map ((L ++ [⟨t1, t2, t3, t4⟩]) ++ ·) := by
              rw [HI.out.2.2, Hst2.out]
              cases tonesF u ⟨t1, t2, t3, t4⟩ (l.dropLast.drop (i + 1)) with
              | none => rfl
              | some q => simp
            have hll : (L ++ [(⟨t1, t2, t3, t4⟩ : Tn)]).length = i + 1 := by have := HI.out.2.1; simp; omega
            have hlast : (tn0 :: (L ++ [(⟨t1, t2, t3, t4⟩ : Tn)]))[i + 1]? = some ⟨t1, t2, t3, t4⟩ := by
              rw [List.getElem?_cons_succ, List.getElem?_append_right (by rw [HI.out.2.1]; exact Nat.le_refl _), HI.out.2.1, Nat.sub_self]; rfl
            have hrow : w5.ownsRow g 30 4 (.slice A8 (i + 1 + 1) c8) (i + 1 + 1) ((tn0 :: (L ++ [(⟨t1, t2, t3, t4⟩ : Tn)])).flatMap tnE) := by
              rw [show tn0 :: (L ++ [(⟨t1, t2, t3, t4⟩ : Tn)]) = (tn0 :: L) ++ [⟨t1, t2, t3, t4⟩] from rfl, List.flatMap_append]
              exact ho5
            have HF := Lib.hid (And.intro hT' (And.intro hll (And.intro hrow (And.intro hlast hb5))))
            clear hT' hll hrow hlast hb5 hk5 hg5 ho5
            go_wp2_with fail
            exact ⟨⟨i + 1, c8, A8, ⟨t1, t2, t3, t4⟩, L ++ [⟨t1, t2, t3, t4⟩], rfl, by go_num, by omega, Lib.hid ⟨Hzok.out, HF.out.2.1, HF.out.1⟩, Lib.hid HF.out.2.2.2.1, Lib.hid HF.out.2.2.1, Lib.hid HF.out.2.2.2.2⟩, by simp [intOf]; omega⟩
    · obtain rfl : k = i := by omega
      have hd : l.dropLast.drop k = [] := List.drop_eq_nil_of_le (by rw [List.length_dropLast]; have := Hn.out; omega)
      have hTs : T = some L := by rw [HI.out.2.2, hd]; simp [tonesF]
      have Hf := Lib.hid (HR.out.out (.returned (.tuple #[.slice A6 (k + 1) c6, .int .i64 0])) wr ⟨by rw [Hg.out]; exact HW.out, .inr (.inr ⟨L, A6, k + 1, c6, Hr.out, hTs, by rw [HI.out.2.1], rfl, by rw [Hg.out]; exact HO.out⟩)⟩)
      clear hd hTs
      go_wp2_with fail
      first | exact Hf.out | (go_ret2; exact Hf.out)
end
end
end Go.Proofs.YtojbldoekalbnaaGreat
