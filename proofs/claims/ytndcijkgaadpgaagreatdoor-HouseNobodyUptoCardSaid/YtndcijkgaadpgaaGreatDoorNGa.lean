/-
  Contracts of nat's byWord, digit and part; each states its condition.
-/
import Derived.Test.YtndcijkgaadpgaaGreatDoorNMb
import Derived.Test.YtndcijkgaadpgaaGreatDoorNPa
import Derived.BigQuiet
import Derived.Deep.CutBlock
import Derived.Laws.CopyOwn
import Derived.Deep.RegionHeld3
namespace Go.Proofs.YtndcijkgaadpgaaGreatDoor
section
open Go.RowKit
/-- What byWord hands back. -/
def WordP (w : World) (q r : Nat) (e : Ending) (w' : World) : Prop := ∃ A' k c', e = .returned (.tuple #[.slice A' k c', .int .u32 (r : Nat)]) ∧ k ≤ c' ∧ Nm w' A' k q ∧ (∀ ad, A' = some ad → w.heap.size ≤ ad.block) ∧ Below w.heap.size w w'
set_option maxHeartbeats 2000000 in
theorem byWord_any (A : Option Addr) (n c a x : Nat) (w : World) (h1 : Nm w A n a) (hn : n ≤ 1000000) (hx0 : 0 < x) (hx : x < 4294967296) :
    Calls Tryz.prog 393 #[.slice A n c, .int .u32 (x : Nat)] w (WordP w (a / x) (a % x)) := by
  refine calls_cps ?_
  intro R hR
  have HR := Lib.hid (show ∀ A' k c' W' r, r = a % x → k ≤ c' → Nm W' A' k (a / x) → (∀ ad, A' = some ad → w.heap.size ≤ ad.block) → Below w.heap.size w W' → R (.returned (.tuple #[.slice A' k c', .int .u32 (r : Nat)])) W' from fun A' k c' W' r g0 g1 g2 g3 g4 => hR.out _ _ ⟨A', k, c', by rw [g0], g1, g2, g3, g4⟩)
  have H := Lib.hid h1
  have Hle := Lib.hid (show a / x < pw n from Nat.lt_of_le_of_lt (Nat.div_le_self _ _) h1.lt)
  clear hR h1
  have hmk : (Instr.makeSlice 68 (.int .i64 (n : Int)) (.int .i64 (n : Int))).run Tryz.prog w = .ok (.slice (some ⟨w.heap.size, 0, none⟩) n n) (w.alloc (.cells (madeCells #[Value.int .u32 0] n) 133)) := run_mkU n (by omega) w .i64
  have HB := Lib.hid (BlkU.new w n)
  have Hb := Lib.hid (below_new w (.cells (madeCells #[Value.int .u32 0] n) 133))
  obtain ⟨W1, hW1⟩ : ∃ W1, w.alloc (.cells (madeCells #[Value.int .u32 0] n) 133) = W1 := ⟨_, rfl⟩
  obtain ⟨g, hg⟩ : ∃ g, w.heap.size = g := ⟨_, rfl⟩
  rw [hW1] at HB Hb hmk
  rw [hg] at HB Hb hmk
  have Hg := Lib.hid hg
  clear hW1 hg
  go_enter Tryz.func393, Tryz.ntmps393
  go_wp2_with fail
  go_loopw [7, 8] (fun s7 s8 wr => ∃ (k r : Nat) (o : Nat → Nat), s7 = .int .u64 (r : Nat) ∧ s8 = .int .i64 ((k : Int) - 1) ∧ k ≤ n ∧ r < x ∧ Hid (BlkU wr g n o ∧ (∀ i, k ≤ i → i < n → o i = lim (a / x) i) ∧ r = a / pw k % x) ∧ Hid (Below g w wr)) (fun _ s8 _ => (intOf s8 + 1).toNat)
  case atStart => exact ⟨n, 0, fun _ => 0, rfl, rfl, Nat.le_refl _, hx0, Lib.hid ⟨HB.out, fun i g1 g2 => by omega, by rw [Nat.div_eq_of_lt H.out.lt, Nat.zero_mod]⟩, Hb⟩
  case round =>
    obtain ⟨k, r, o, rfl, rfl, hk, hr, HI, HW⟩ := hrel
    rcases k with _ | k
    · have Hset := Lib.hid (show BlkU wr g n o ∧ fv o n = a / x from ⟨HI.out.1, by rw [fv_congr (fun i hi => HI.out.2.1 i (Nat.zero_le _) hi), fv_lim_eq Hle.out]⟩)
      have Hrr := Lib.hid (show r = a % x from by rw [HI.out.2.2, pw_zero, Nat.div_one])
      go_wp2_with fail
      refine (trim_blk Hset.out (by omega)).mono ?_
      rintro e w' ⟨k, rfl, hk, hnm, rfl⟩
      have Hf := Lib.hid (HR.out _ k _ _ r Hrr.out hk hnm (fresh_at (Nat.le_of_eq Hg.out)) (by rw [Hg.out]; exact HW.out))
      clear hnm
      have hr2 : ((r : Int)) % 4294967296 = (r : Int) := by omega
      go_wp2_with fail
      exact Hf.out
    · have i1 : (k : Int) < (n : Int) := by omega
      have i2 : (0 : Int) ≤ (k : Int) := by omega
      obtain ⟨bl, oa, rfl, hbl, q0⟩ := (H.out.2.below (by rw [Hg.out]; exact HW.out)).at_ (k := k) (by omega)
      have hy := lim_lt a k
      have f0 := HI.out.1.frozen
      have c0 := HI.out.1.cell (i := k) (by omega)
      obtain ⟨t, ht⟩ : ∃ t, r * 4294967296 + lim a k = t := ⟨_, rfl⟩
      have hst := word_step (a := a) (w := x) (i := k) (t := t) hx0 (by rw [← ht, HI.out.2.2])
      obtain ⟨y, hyy⟩ : ∃ y, lim a k = y := ⟨_, rfl⟩
      rw [hyy] at q0 hy ht
      have he : bits .or .u64 ((r : Int) * 4294967296) (y : Int) = (t : Int) := by
        have e1 : bits .or .u64 ((r * 4294967296 : Nat) : Int) (y : Int) = ((r * 4294967296 ||| y : Nat) : Int) := u64_or_nat (r * 4294967296) y (by omega) (by omega)
        have e2 : r * 4294967296 ||| y = r * 4294967296 + y := by rw [Nat.or_comm]; exact or_low (r := 32) (by omega) (by omega)
        have e3 : ((r : Int) * 4294967296) = ((r * 4294967296 : Nat) : Int) := by simp
        rw [e3, e1, e2, ht]
      have htl : t < 18446744073709551616 := by omega
      have Hst := Lib.hid hst
      have x1 : ((x : Nat) : Int) ≠ 0 := by omega
      have Hn := Lib.hid (show BlkU (wr.setCell ⟨g, k, none⟩ (.int .u32 ((t : Int) / (x : Int)))) g n (upd1 o k (t / x)) ∧ (∀ i, k ≤ i → i < n → upd1 o k (t / x) i = lim (a / x) i) ∧ t % x = a / pw k % x from by
        refine ⟨?_, fun i g1 g2 => ?_, hst.2.2⟩
        · have h := HI.out.1.set k (t / x) hst.2.1
          rwa [Int.natCast_ediv] at h
        · by_cases e : i = k
          · subst e; rw [upd1_self, hst.1]
          · rw [upd1_ne e]; exact HI.out.2.1 i (by omega) g2)
      have He1 := Lib.hid (show IntKind.u64.wrap ((t : Int) / (x : Int)) % 4294967296 = (t : Int) / (x : Int) from by
        have h : IntKind.u64.wrap ((t / x : Nat) : Int) % 4294967296 = ((t / x : Nat) : Int) := by rw [IntWalk.u64_in _ (by have := hst.2.1; omega)]; have := hst.2.1; omega
        rwa [Int.natCast_ediv] at h)
      have hxi : (0 : Int) < (x : Int) := by omega
      have hmr := Nat.mod_lt t hx0
      clear hst ht hyy
      go_wp2_with fail
      go_region
      go_wp2_with fail
      rw [He1.out]
      exact ⟨⟨k, t % x, _, by simp, by go_num, by omega, hmr, Lib.hid Hn.out, Lib.hid (HW.out.setCell (by simp) _).drew⟩, by simp [intOf]⟩
end
section
open Go.RowKit
theorem or_up {x y t : Nat} (h : x * 4294967296 + y = t) (hy : y < 4294967296) (hx : x < 4294967296) : bits .or .u64 ((x : Int) * 4294967296) (y : Int) = (t : Int) := by
  have e1 : bits .or .u64 ((x * 4294967296 : Nat) : Int) (y : Int) = ((x * 4294967296 ||| y : Nat) : Int) := u64_or_nat (x * 4294967296) y (by omega) (by omega)
  have e2 : x * 4294967296 ||| y = x * 4294967296 + y := by rw [Nat.or_comm]; exact or_low (r := 32) (by omega) (by omega)
  have e3 : ((x : Int) * 4294967296) = ((x * 4294967296 : Nat) : Int) := by simp
  rw [e3, e1, e2, h]
theorem sub32_ex (x y c : Nat) (w : World) (hx : x < 4294967296) (hy : y < 4294967296) (hc : c ≤ 1) :
    Calls Tryz.prog 416 #[.int .u32 (x : Nat), .int .u32 (y : Nat), .int .u32 (c : Nat)] w fun e w' => ∃ s b : Nat, e = .returned (.tuple #[.int .u32 (s : Nat), .int .u32 (b : Nat)]) ∧ s < 4294967296 ∧ b ≤ 1 ∧ Hid (s + y + c = x + 4294967296 * b) ∧ w = w' :=
  (sub32_any x y c w hx hy hc).mono fun _ _ ⟨h1, h2⟩ => ⟨_, _, h1, Nat.mod_lt _ (by omega), by split <;> omega, Lib.hid (sub_digit hx hy hc), h2⟩
theorem add32_ex (x y c : Nat) (w : World) (hx : x < 4294967296) (hy : y < 4294967296) (hc : c ≤ 1) :
    Calls Tryz.prog 396 #[.int .u32 (x : Nat), .int .u32 (y : Nat), .int .u32 (c : Nat)] w fun e w' => ∃ s b : Nat, e = .returned (.tuple #[.int .u32 (s : Nat), .int .u32 (b : Nat)]) ∧ s < 4294967296 ∧ b ≤ 1 ∧ Hid (s + 4294967296 * b = x + y + c) ∧ w = w' :=
  (add32_any x y c w hx hy hc).mono fun _ _ ⟨h1, h2⟩ => ⟨_, _, h1, Nat.mod_lt _ (by omega), by omega, Lib.hid (Nat.mod_add_div _ _), h2⟩
set_option maxRecDepth 16000 in
set_option maxHeartbeats 4000000 in
theorem digit_any (g N o cu m d b U : Nat) (B : Option Addr) (f : Nat → Nat) (w : World) (h : BlkU w g N f) (h2 : Nm w B (m + 2) b) (hne : ∀ a, B = some a → a.block ≠ g) (hN : N ≤ 4000000) (hm : m ≤ 600000) (ho : o + m + 3 ≤ N)
    (hn : 2147483648 ≤ lim b (m + 1)) (hU : fv (fun i => f (o + i)) (m + 3) = U) (hs : U < b * 4294967296) :
    Calls Tryz.prog 395 #[.slice (some ⟨g, o, none⟩) (m + 3) cu, .slice B (m + 2) d] w fun e w' => e = .returned (.int .u32 ((U / b : Nat))) ∧ ∃ f', BlkU w' g N f' ∧ fv (fun i => f' (o + i)) (m + 3) = U % b ∧ (∀ i, i < o ∨ o + m + 2 < i → f' i = f i) ∧ Kx (fun j => j = g) w w' := by
  refine calls_cps ?_
  intro R hR
  have HR := Lib.hid (show ∀ W' f' q, q = U / b → BlkU W' g N f' → fv (fun i => f' (o + i)) (m + 3) = U % b → (∀ i, i < o ∨ o + m + 2 < i → f' i = f i) → Kx (fun j => j = g) w W' → R (.returned (.int .u32 (q : Nat))) W' from fun W' f' q g0 g1 g2 g3 g4 => hR.out _ _ ⟨by rw [g0], f', g1, g2, g3, g4⟩)
  have HG := gs_of (u := fun i => f (o + i)) (v := lim b) (m := m) (fun i hi => h.1 _ (by omega)) (lim_Lm b _) hn (by rw [h2.val, hU]; exact hs)
  rw [hU, h2.val] at HG
  have hcu := h.cell (i := o + (m + 2)) (by omega)
  have hcu1 := h.cell (i := o + (m + 1)) (by omega)
  have hcu2 := h.cell (i := o + m) (by omega)
  obtain ⟨bl, ov, rfl, hbl, hv1⟩ := h2.2.at_ (k := m + 1) (by omega)
  obtain ⟨_, _, e3, _, hv2⟩ := h2.2.at_ (k := m) (by omega)
  injection e3 with e3
  injection e3 with e31 e32
  subst e31 e32
  have HB := Lib.hid h
  have HU := Lib.hid hU
  have H2 := Lib.hid h2
  have hne := hne _ rfl
  have l1 := h.1 (o + (m + 2)) (by omega)
  have l2 := h.1 (o + (m + 1)) (by omega)
  have l3 := h.1 (o + m) (by omega)
  have l4 := lim_lt b (m + 1)
  have l5 := lim_lt b m
  obtain ⟨x2, e1⟩ : ∃ x, f (o + (m + 2)) = x := ⟨_, rfl⟩
  obtain ⟨x1, e2⟩ : ∃ x, f (o + (m + 1)) = x := ⟨_, rfl⟩
  obtain ⟨x0, e3⟩ : ∃ x, f (o + m) = x := ⟨_, rfl⟩
  obtain ⟨v1, e4⟩ : ∃ x, lim b (m + 1) = x := ⟨_, rfl⟩
  obtain ⟨v0, e5⟩ : ∃ x, lim b m = x := ⟨_, rfl⟩
  rw [e1, e2, e3, e4, e5] at HG
  rw [e1] at hcu l1
  rw [e2] at hcu1 l2
  rw [e3] at hcu2 l3
  rw [e4] at hv1 l4 hn
  rw [e5] at hv2 l5
  obtain ⟨top, ht⟩ : ∃ t, x2 * 4294967296 + x1 = t := ⟨_, rfl⟩
  rw [ht] at HG
  have hot := or_up ht l2 l1
  have htl : top < 18446744073709551616 := by omega
  have hg1 := HG.first
  have hg2 := HG.first_le
  obtain ⟨G, hGe⟩ : ∃ G, top / v1 = G := ⟨_, rfl⟩
  obtain ⟨r, hre⟩ : ∃ r, top % v1 = r := ⟨_, rfl⟩
  have hq1 : (top : Int) / (v1 : Int) = (G : Int) := by rw [← hGe]; simp
  have hq2 : (top : Int) % (v1 : Int) = (r : Int) := by rw [← hre]; simp
  have hrl : r < v1 := by rw [← hre]; exact Nat.mod_lt _ (by omega)
  have hGr : Hid (G * v1 + r = top) := Lib.hid (by rw [← hGe, ← hre, Nat.mul_comm]; exact Nat.div_add_mod _ _)
  rw [hGe] at hg1 hg2
  have Hg1 := Lib.hid hg1
  have HGs := Lib.hid HG
  have Hs := Lib.hid hs
  have i0 : (o : Int) + (m : Int) + 3 ≤ (N : Int) := by omega
  have v1p : (0 : Int) < (v1 : Int) := by omega
  clear hR h h2 hU hs HG e1 e2 e3 e4 e5 ht hGe hre hg1 hbl
  go_enter Tryz.func395, Tryz.ntmps395
  go_wp2_with fail
  go_quiet (fail)
  go_wp2_with fail
  go_quiet (fail)
  go_upto_block 0 with fail
  go_cut [7] (fun s7 wx => ∃ G' : Nat, s7 = .int .u64 (G' : Nat) ∧ G' < 4294967296 ∧ Hid (U / b ≤ G' ∧ G' ≤ U / b + 1) ∧ Qt w wx)
  case first =>
    go_wp2_with fail
    go_loopw [7, 8] (fun s7 s8 wr => ∃ (G r : Nat), s7 = .int .u64 (G : Nat) ∧ s8 = .int .u64 (r : Nat) ∧ G ≤ 4294967297 ∧ r < 4294967296 ∧ Hid (G * v1 + r = top ∧ U / b ≤ G) ∧ Qt w wr) (fun s7 _ _ => (intOf s7).toNat)
    case atStart => exact ⟨G, r, rfl, by rw [hq2], hg2, by omega, Lib.hid ⟨hGr.out, Hg1.out⟩, ⟨_, World.drewN_drewN _ _ _⟩⟩
    case round =>
      clear hq1 hq2 hrl hGr Hg1 hg2
      obtain ⟨G, r, rfl, rfl, hG, hr, HI, ⟨q, rfl⟩⟩ := hrel
      obtain ⟨x, hx⟩ : ∃ x, r * 4294967296 + x0 = x := ⟨_, rfl⟩
      obtain ⟨z, hz⟩ : ∃ z, G * v0 = z := ⟨_, rfl⟩
      have hor := or_up hx l3 hr
      have hzi : (G : Int) * (v0 : Int) = (z : Int) := by rw [← hz]; simp
      have hz2 : G < 4294967296 → z < 18446744073709551616 := fun h => by
        have := mul_bound h l5 (show 0 < 4294967296 by omega) (show 0 < 4294967296 by omega)
        omega
      have Hbad := Lib.hid (show 4294967296 ≤ G ∨ x < z → U / b < G from fun h => HGs.out.down HI.out.1 (by rw [hz, hx]; exact h))
      have Hend := Lib.hid (show G < 4294967296 → z ≤ x → G ≤ U / b + 1 from fun h1 h2 => HGs.out.stands HI.out.1 (by rw [hz, hx]; exact h2) h1)
      have Hstep := Lib.hid (show U / b < G → 0 < G ∧ (G - 1) * v1 + (r + v1) = top from fun h => ⟨Nat.lt_of_le_of_lt (Nat.zero_le _) h, by
        have h1 := HI.out.1
        have h0 := Nat.lt_of_le_of_lt (Nat.zero_le _) h
        obtain ⟨p, rfl⟩ : ∃ p, G = p + 1 := ⟨G - 1, by omega⟩
        rw [Nat.add_mul, Nat.one_mul] at h1
        rw [Nat.add_sub_cancel]; omega⟩)
      clear hz hx
      rcases Nat.lt_or_ge G 4294967296 with hG2 | hG2
      · have hz3 := hz2 hG2
        have t0 : decide ((0 : Int) < (G : Int) / 4294967296) = false := decide_eq_false (by omega)
        rcases Nat.lt_or_ge x z with hc | hc
        · have t1 : decide ((x : Int) < (z : Int)) = true := decide_eq_true (by omega)
          have t2 : decide (x < z) = true := decide_eq_true (by omega)
          have hb := Hbad.out (.inr hc)
          have hp := (Hstep.out hb).1
          go_wp2_with fail
          go_quiet (fail)
          go_wp2_with fail
          · have hp2 : 4294967296 ≤ r + v1 := by omega
            have hle := HGs.out.passed (Hstep.out hb).2 hp2 (by omega)
            have hql := HGs.out.qlt
            go_meet
            exact ⟨G - 1, by go_num, by omega, Lib.hid ⟨by omega, by omega⟩, ⟨_, rfl⟩⟩
          · have h1 := (Hstep.out hb).2
            exact ⟨⟨G - 1, r + v1, by go_num, by go_num, by omega, by omega, Lib.hid ⟨h1, by omega⟩, ⟨_, rfl⟩⟩, by simp [intOf]; omega⟩
        · have t1 : decide ((x : Int) < (z : Int)) = false := decide_eq_false (by omega)
          have t2 : decide (x < z) = false := decide_eq_false (by omega)
          go_wp2_with fail
          go_quiet (fail)
          go_wp2_with fail
          go_meet
          exact ⟨G, rfl, hG2, Lib.hid ⟨HI.out.2, Hend.out hG2 hc⟩, ⟨_, World.drewN_drewN _ _ _⟩⟩
      · have t0 : decide ((0 : Int) < (G : Int) / 4294967296) = true := decide_eq_true (by omega)
        have hb := Hbad.out (.inl hG2)
        have hp := (Hstep.out hb).1
        go_wp2_with fail
        go_quiet (fail)
        go_wp2_with fail
        · have hp2 : 4294967296 ≤ r + v1 := by omega
          have hle := HGs.out.passed (Hstep.out hb).2 hp2 (by omega)
          have hql := HGs.out.qlt
          go_meet
          exact ⟨G - 1, by go_num, by omega, Lib.hid ⟨by omega, by omega⟩, ⟨_, rfl⟩⟩
        · have h1 := (Hstep.out hb).2
          exact ⟨⟨G - 1, r + v1, by go_num, by go_num, by omega, by omega, Lib.hid ⟨h1, by omega⟩, ⟨_, rfl⟩⟩, by simp [intOf]; omega⟩
  case rest =>
    obtain ⟨G, rfl, hG, HG, ⟨q, rfl⟩⟩ := hcut
    have hdig := HGs.out
    have hb0 := hdig.vpos
    clear hq1 hq2 hrl hGr Hg1 hg2 hot htl i0 v1p HGs hdig hv1 hv2 hcu hcu1 hcu2 l1 l2 l3 l4 l5 hn
    have HA := Lib.hid (show BlkU (w.drewN q) g N f ∧ Nm (w.drewN q) (some ⟨bl, ov, none⟩) (m + 2) b ∧ Kx (fun j => j = g) w (w.drewN q) from ⟨HB.out.drewN q, H2.out.below (below_drewN (Below.refl _ _) q), (Kx.refl _ w).drewN q⟩)
    obtain ⟨wa, hwa⟩ : ∃ wa, w.drewN q = wa := ⟨_, rfl⟩
    rw [hwa] at HA ⊢
    generalize o + (m + 2 - 1) = dd1
    generalize ov + (m + 2 - 1) = dd2
    generalize ((m : Int) + 2 - 1) = dd3
    obtain ⟨Q, hQ⟩ : ∃ Q, U / b = Q := ⟨_, rfl⟩
    rw [hQ] at HR HG
    have HQ := Lib.hid hQ
    have Hb0 := Lib.hid hb0
    have HR := Lib.hid (show ∀ W' f' q, q = Q → BlkU W' g N f' → fv (fun i => f' (o + i)) (m + 3) = U % b → (∀ i, i < o ∨ o + m + 2 < i → f' i = f i) → Kx (fun j => j = g) wa W' → R (.returned (.int .u32 (q : Nat))) W' from fun W' f' q g0 g1 g2 g3 g4 => HR.out W' f' q g0 g1 g2 g3 (HA.out.2.2.trans g4 (fun _ _ h => h)))
    clear hwa hQ HB H2 hb0
    go_wp2_with fail
    go_loopw [9, 10, 11, 12, 84] (fun s9 s10 _ _ s84 wr => ∃ (i c bo : Nat) (o' : Nat → Nat), s9 = .int .u64 (c : Nat) ∧ s10 = .int .u32 (bo : Nat) ∧ s84 = .int .i64 (i : Nat) ∧ i ≤ m + 2 ∧ c < 4294967296 ∧ bo ≤ 1 ∧ Hid (BlkU wr g N o' ∧ (∀ j, j < o ∨ o + i ≤ j → o' j = f j) ∧ fv (fun j => o' (o + j)) i + G * fv (lim b) i = fv (fun j => f (o + j)) i + (c + bo) * pw i) ∧ Hid (Kx (fun j => j = g) wa wr)) (fun _ _ _ _ s84 _ => m + 2 - (intOf s84).toNat)
    case atStart => exact ⟨0, 0, 0, f, rfl, rfl, rfl, Nat.zero_le _, by omega, by omega, Lib.hid ⟨HA.out.1, fun _ _ => rfl, by simp [fv]⟩, Lib.hid (Kx.refl _ _)⟩
    case round =>
      obtain ⟨i, c, bo, o', rfl, rfl, rfl, hi, hc, hbo, HI, HK⟩ := hrel
      by_cases hlt : i < m + 2
      · have i1 : (i : Int) < (m : Int) + 2 := by omega
        have i2 : (i : Int) < (m : Int) + 3 := by omega
        obtain ⟨_, _, e3, _, q0⟩ := (HA.out.2.1.2.kx HK.out (fun _ a e => by cases e; exact hne)).at_ hlt
        injection e3 with e3
        injection e3 with e31 e32
        subst e31 e32
        have hy := lim_lt b i
        obtain ⟨y, hyy⟩ : ∃ y, lim b i = y := ⟨_, rfl⟩
        rw [hyy] at q0 hy
        have f0 := HI.out.1.frozen
        have c0 := HI.out.1.cell (i := o + i) (by omega)
        have hz := HI.out.1.1 (o + i) (by omega)
        have hzf := HI.out.2.1 (o + i) (.inr (Nat.le_refl _))
        obtain ⟨z, hzz⟩ : ∃ z, o' (o + i) = z := ⟨_, rfl⟩
        rw [hzz] at c0 hz hzf
        obtain ⟨p, hp⟩ : ∃ p, G * y = p := ⟨_, rfl⟩
        have hmb := mul_bound hG hy hc (show 0 < 4294967296 by omega)
        rw [hp, Nat.add_zero] at hmb
        have hgy : (G : Int) * (y : Int) = (p : Int) := by rw [← hp]; simp
        obtain ⟨tl, htl⟩ : ∃ t, (p + c) % 4294967296 = t := ⟨_, rfl⟩
        obtain ⟨th, hth⟩ : ∃ t, (p + c) / 4294967296 = t := ⟨_, rfl⟩
        have e1 : ((p : Int) + (c : Int)) % 4294967296 = (tl : Int) := by omega
        have e2 : ((p : Int) + (c : Int)) / 4294967296 = (th : Int) := by omega
        have l1 : tl < 4294967296 := by omega
        have l2 : th < 4294967296 := by omega
        have Hn := Lib.hid (show ∀ s b', s < 4294967296 → s + tl + bo = z + 4294967296 * b' → BlkU (wr.setCell ⟨g, o + i, none⟩ (.int .u32 (s : Nat))) g N (upd1 o' (o + i) s) ∧ (∀ j, j < o ∨ o + (i + 1) ≤ j → upd1 o' (o + i) s j = f j) ∧ fv (fun j => upd1 o' (o + i) s (o + j)) (i + 1) + G * fv (lim b) (i + 1) = fv (fun j => f (o + j)) (i + 1) + (th + b') * pw (i + 1) from fun s b' hs hsb => by
          refine ⟨HI.out.1.set _ _ hs, fun j hj => ?_, ?_⟩
          · rw [upd1_ne (by omega)]; exact HI.out.2.1 j (by omega)
          · rw [← hth]
            refine sub_step (f := fun j => upd1 o' (o + i) s (o + j)) (u := fun j => f (o + j)) (v := lim b) (g := G) (i := i) (c := c) (b := bo) (b' := b') (t := p + c) (s := s) ?_ (by rw [hyy, hp]) ?_ (upd1_self _ _ _)
            · rw [fv_congr (g := fun j => o' (o + j)) (fun j hj => upd1_ne (by omega))]; exact HI.out.2.2
            · rw [htl, ← hzf]; exact hsb)
        have Hyy := Lib.hid hyy
        clear hyy hzz hzf hp htl hth hmb
        go_wp2_with ((with_reducible refine (sub32_ex z tl bo _ hz l1 hbo).mono ?_); rintro e w' ⟨s, b', rfl, hs, hb', Hs', rfl⟩)
        exact ⟨⟨i + 1, th, b', _, by simp, by simp, by go_num, by omega, l2, hb', Lib.hid (Hn.out s b' hs Hs'.out), Lib.hid (kx_set HK.out rfl _ _)⟩, by simp [intOf]; omega⟩
      · obtain rfl : m + 2 = i := by omega
        have f0 := HI.out.1.frozen
        have c0 := HI.out.1.cell (i := o + (m + 2)) (by omega)
        have hz := HI.out.1.1 (o + (m + 2)) (by omega)
        have hzf := HI.out.2.1 (o + (m + 2)) (.inr (Nat.le_refl _))
        obtain ⟨z, hzz⟩ : ∃ z, o' (o + (m + 2)) = z := ⟨_, rfl⟩
        rw [hzz] at c0 hz hzf
        have Hn := Lib.hid (show ∀ s b', s < 4294967296 → s + c + bo = z + 4294967296 * b' → BlkU (wr.setCell ⟨g, o + (m + 2), none⟩ (.int .u32 (s : Nat))) g N (upd1 o' (o + (m + 2)) s) ∧ (∀ j, j < o ∨ o + m + 2 < j → upd1 o' (o + (m + 2)) s j = f j) ∧ fv (fun j => upd1 o' (o + (m + 2)) s (o + j)) (m + 3) + G * b = U + b' * pw (m + 3) from fun s b' hs hsb => by
          refine ⟨HI.out.1.set _ _ hs, fun j hj => ?_, ?_⟩
          · rw [upd1_ne (by omega)]; exact HI.out.2.1 j (by omega)
          · have h := sub_last (f := fun j => upd1 o' (o + (m + 2)) s (o + j)) (u := fun j => f (o + j)) (n := m + 2) (gV := G * b) (c := c) (b := bo) (s := s) (b' := b') (by
              rw [fv_congr (g := fun j => o' (o + j)) (fun j hj => upd1_ne (by omega))]
              have := HI.out.2.2
              rwa [HA.out.2.1.val] at this) (by rw [← hzf]; exact hsb) (upd1_self _ _ _)
            rwa [HU.out] at h)
        clear hzz hzf
        have hcm : (c : Int) % 4294967296 = (c : Int) := by omega
        go_upto_region 17 with ((with_reducible refine (sub32_ex z c bo _ hz hc hbo).mono ?_); rintro e w' ⟨s, b', rfl, hs, hb', Hs', rfl⟩)
        have Hn := Lib.hid (Hn.out s b' hs Hs'.out)
        have HK1 := Lib.hid (kx_set HK.out (rfl : g = g) (o + (m + 2)) (.int .u32 (s : Nat)))
        obtain ⟨o2, ho2⟩ : ∃ o2, upd1 o' (o + (m + 2)) s = o2 := ⟨_, rfl⟩
        rw [ho2] at Hn
        obtain ⟨w2, hw2⟩ : ∃ w2, wr.setCell ⟨g, o + (m + 2), none⟩ (.int .u32 (s : Nat)) = w2 := ⟨_, rfl⟩
        rw [hw2] at Hn HK1 ⊢
        clear ho2 hw2 Hs' HI HK f0 c0 hz hcm
        rcases Nat.eq_zero_or_pos b' with hb0 | hb0
        · subst hb0
          have hf := dig_fine Hb0.out (show fv (fun i => o2 (o + i)) (m + 3) + G * b = U by have := Hn.out.2.2; omega) (by rw [HQ.out]; exact HG.out.1)
          have Hf := Lib.hid (HR.out w2 o2 G (by rw [hf.1, HQ.out]) Hn.out.1 hf.2 (fun j hj => Hn.out.2.1 j hj) HK1.out)
          have hGm : (G : Int) % 4294967296 = (G : Int) := by omega
          clear hf
          go_wp2_with fail
          exact Hf.out
        · have hbp : (0 : Int) < (b' : Int) := by omega
          have hFl : fv (fun i => o2 (o + i)) (m + 3) < pw (m + 3) := fv_lt (fun i hi => Hn.out.1.1 _ (by omega))
          have h1 : b' = 1 := by omega
          have hf := dig_over Hb0.out (show fv (fun i => o2 (o + i)) (m + 3) + G * b = U + pw (m + 3) by have := Hn.out.2.2; rw [h1, Nat.one_mul] at this; exact this) hFl (by rw [HQ.out]; exact HG.out.2)
          rw [HQ.out] at hf
          obtain ⟨hfe, hf2⟩ := hf
          have Hf2 := Lib.hid hf2
          have HGe := Lib.hid hfe
          have hG1 : (0 : Int) < (G : Int) := by omega
          have Hl := Lib.hid (show U % b < pw (m + 2) from Nat.lt_trans (Nat.mod_lt _ Hb0.out) HA.out.2.1.lt)
          clear h1 hf2 hFl hfe
          go_wp2_with fail
          go_loopw [13, 14, 133] (fun s13 _ s133 wr => ∃ (i ov : Nat) (o' : Nat → Nat), s13 = .int .u32 (ov : Nat) ∧ s133 = .int .i64 (i : Nat) ∧ i ≤ m + 2 ∧ ov ≤ 1 ∧ Hid (BlkU wr g N o' ∧ (∀ j, j < o ∨ o + i ≤ j → o' j = o2 j) ∧ fv (fun j => o' (o + j)) i + ov * pw i = fv (fun j => o2 (o + j)) i + fv (lim b) i) ∧ Hid (Kx (fun j => j = g) wa wr)) (fun _ _ s133 _ => m + 2 - (intOf s133).toNat)
          case atStart => exact ⟨0, 0, o2, rfl, rfl, Nat.zero_le _, by omega, Lib.hid ⟨Hn.out.1, fun _ _ => rfl, by simp [fv]⟩, HK1⟩
          case round =>
            obtain ⟨i, ov, o', rfl, rfl, hi, hov, HI, HK⟩ := hrel
            by_cases hlt : i < m + 2
            · have i1 : (i : Int) < (m : Int) + 2 := by omega
              have i2 : (i : Int) < (m : Int) + 3 := by omega
              obtain ⟨_, _, e3, _, q0⟩ := (HA.out.2.1.2.kx HK.out (fun _ a e => by cases e; exact hne)).at_ hlt
              injection e3 with e3
              injection e3 with e31 e32
              subst e31 e32
              have hy := lim_lt b i
              obtain ⟨y, hyy⟩ : ∃ y, lim b i = y := ⟨_, rfl⟩
              rw [hyy] at q0 hy
              have f0 := HI.out.1.frozen
              have c0 := HI.out.1.cell (i := o + i) (by omega)
              have hz := HI.out.1.1 (o + i) (by omega)
              have hzf := HI.out.2.1 (o + i) (.inr (Nat.le_refl _))
              obtain ⟨z, hzz⟩ : ∃ z, o' (o + i) = z := ⟨_, rfl⟩
              rw [hzz] at c0 hz hzf
              have Hk := Lib.hid (show ∀ s b', s < 4294967296 → s + 4294967296 * b' = z + y + ov → BlkU (wr.setCell ⟨g, o + i, none⟩ (.int .u32 (s : Nat))) g N (upd1 o' (o + i) s) ∧ (∀ j, j < o ∨ o + (i + 1) ≤ j → upd1 o' (o + i) s j = o2 j) ∧ fv (fun j => upd1 o' (o + i) s (o + j)) (i + 1) + b' * pw (i + 1) = fv (fun j => o2 (o + j)) (i + 1) + fv (lim b) (i + 1) from fun s b' hs hsb => by
                refine ⟨HI.out.1.set _ _ hs, fun j hj => ?_, ?_⟩
                · rw [upd1_ne (by omega)]; exact HI.out.2.1 j (by omega)
                · have h := plus_step (f := fun j => upd1 o' (o + i) s (o + j)) (a := fun j => o2 (o + j)) (b := lim b) (i := i) (c := ov) (c' := b') (s := s) (V := fv (fun j => o2 (o + j)) i + fv (lim b) i) (by
                    rw [fv_congr (g := fun j => o' (o + j)) (fun j hj => upd1_ne (by omega))]; exact HI.out.2.2) (by rw [hyy, ← hzf]; exact hsb) (upd1_self _ _ _)
                  rw [h, fv_succ, fv_succ]; omega)
              clear hyy hzz hzf
              have z0 : (0 : Int) ≤ (o : Int) + (i : Int) := by omega
              go_wp2_with fail
              go_region_with ((with_reducible refine (add32_ex z y ov _ hz hy hov).mono ?_); rintro e w' ⟨s, b', rfl, hs, hb', Hs', rfl⟩)
              all_goals go_wp2_with fail
              all_goals exact ⟨⟨i + 1, b', _, by simp, by go_num, by omega, hb', Lib.hid (Hk.out s b' hs Hs'.out), Lib.hid ((kx_set HK.out rfl _ _).drewN 1)⟩, by simp [intOf]; omega⟩
            · obtain rfl : m + 2 = i := by omega
              have f0 := HI.out.1.frozen
              have c0 := HI.out.1.cell (i := o + (m + 2)) (by omega)
              have hz := HI.out.1.1 (o + (m + 2)) (by omega)
              have hzf := HI.out.2.1 (o + (m + 2)) (.inr (Nat.le_refl _))
              obtain ⟨z, hzz⟩ : ∃ z, o' (o + (m + 2)) = z := ⟨_, rfl⟩
              rw [hzz] at c0 hz hzf
              have Hk := Lib.hid (show BlkU (wr.setCell ⟨g, o + (m + 2), none⟩ (.int .u32 (((z + ov) % 4294967296 : Nat)))) g N (upd1 o' (o + (m + 2)) ((z + ov) % 4294967296)) ∧ (∀ j, j < o ∨ o + m + 2 < j → upd1 o' (o + (m + 2)) ((z + ov) % 4294967296) j = f j) ∧ fv (fun j => upd1 o' (o + (m + 2)) ((z + ov) % 4294967296) (o + j)) (m + 3) = U % b from by
                refine ⟨HI.out.1.set _ _ (Nat.mod_lt _ (by omega)), fun j hj => ?_, ?_⟩
                · rw [upd1_ne (by omega), HI.out.2.1 j (by omega)]; exact Hn.out.2.1 j hj
                · refine back_last (f := fun j => o2 (o + j)) (f2 := fun j => upd1 o' (o + (m + 2)) ((z + ov) % 4294967296) (o + j)) (n := m + 2) (over := ov) (V := b) (R := U % b) (fun j hj => (HI.out.1.1.upd (Nat.mod_lt _ (by omega))) _ (by omega)) ?_ Hf2.out Hl.out ?_
                  · rw [fv_congr (g := fun j => o' (o + j)) (fun j hj => upd1_ne (by omega))]
                    have := HI.out.2.2
                    rwa [HA.out.2.1.val] at this
                  · show upd1 _ _ _ _ = _
                    rw [upd1_self, ← hzf])
              have Hf := HR.out _ _ (G - 1) (by rw [HGe.out, Nat.add_sub_cancel]) Hk.out.1 Hk.out.2.2 Hk.out.2.1 (kx_set HK.out rfl _ _)
              have hGq : ((G - 1 : Nat) : Int) = (G : Int) - 1 := by omega
              rw [hGq] at Hf
              have Hf := Lib.hid Hf
              have hQm : ((G : Int) - 1) % 4294967296 = (G : Int) - 1 := by omega
              clear hzz hzf hGq
              go_wp2_with fail
              exact Hf.out
end
section
open Go.RowKit
/-- A value that is a number's slice. -/
def Num (w : World) (V : Value) (v : Nat) : Prop := ∃ A n c, V = .slice A n c ∧ n ≤ c ∧ Nm w A n v
theorem Num.below {w w' : World} {V : Value} {v : Nat} (h : Num w V v) (hb : Below w.heap.size w w') : Num w' V v := by
  obtain ⟨A, n, c, e, h1, h2⟩ := h
  exact ⟨A, n, c, e, h1, h2.below hb⟩
theorem Num.nil (w : World) : Num w (.slice none 0 0) 0 := ⟨none, 0, 0, rfl, Nat.le_refl _, Nm.zero _ _⟩
/-- A call that hands back a number. -/
def GetsNum (w : World) (v : Nat) (e : Ending) (w' : World) : Prop := ∃ V, e = .returned V ∧ Num w' V v ∧ Below w.heap.size w w'
theorem NewNum.gets {w w' : World} {v : Nat} {e : Ending} (h : NewNum w v e w') : GetsNum w v e w' := by
  obtain ⟨A, k, c, e, h1, h2, _, h3⟩ := h
  exact ⟨_, e, ⟨A, k, c, rfl, h1, h2⟩, h3⟩
theorem Nm.of_own {w : World} {base c v n : Nat} {A : Option Addr} (hn : n = ln v) (h : w.ownsRow base 133 1 (.slice A n c) n ((List.range n).map fun i => Value.int .u32 (lim v i : Nat))) : Nm w A n v :=
  ⟨hn, RdN.of_sl (lim_Lm v n) (Sl.of_own h)⟩
theorem own_num (A : Option Addr) (n c a : Nat) (w : World) (h : Nm w A n a) (hn : n ≤ 1000000) :
    Calls Tryz.prog 347 #[.slice A n c] w (GetsNum w a) :=
  (own_any A n c (lim a) w h.2 hn).mono fun _ _ ⟨A', c', e, hc, ho, hb⟩ => ⟨_, e, ⟨A', n, c', rfl, hc, Nm.of_own h.1 ho⟩, hb⟩
/-- What part hands back. -/
def PartP (w : World) (q r : Nat) (e : Ending) (w' : World) : Prop := ∃ V1 V2, e = .returned (.tuple #[V1, V2]) ∧ Num w' V1 q ∧ Num w' V2 r ∧ Below w.heap.size w w'
theorem wpList_copyU {w : World} {ops : Array Oper} {rest : List Oper} {o : Oper} {a : Act} {Q : Exit → Act → World → Prop} (hgd : o.guard = none) (d s : Operand)
    (ho : o.op = .call { callee := .builtin .copy, args := #[d, s], argTypes := #[68, 68] }) {g N cap m c : Nat} {A : Option Addr} {f f2 : Nat → Nat}
    (hd : a.eval d = .slice (some ⟨g, 0, none⟩) N cap) (hs : a.eval s = .slice A m c) (hB : BlkU w g N f) (h2 : RdN w A m f2) (hmN : m ≤ N)
    (h : ∀ w', BlkU w' g N (fun i => if i < m then f2 i else f i) → Below g w w' → wpList Tryz.prog ops Q rest (a.put o.dst (goInt m)) w') :
    wpList Tryz.prog ops Q (o :: rest) a w := by
  obtain ⟨hl, cs, hg, hc⟩ := hB
  have hlen : ((List.range m).map fun i => Value.int .u32 (f2 i : Nat)).length = m := mapU_len f2 m
  have hsz : N ≤ cs.toList.length := by
    rcases N with _ | N
    · exact Nat.zero_le _
    · have := (Array.getElem?_eq_some_iff.1 (hc N (Nat.lt_succ_self N))).1
      rw [Array.length_toList]; omega
  refine wpList_copy_splice (P := Tryz.prog) hgd d s 68 68 ho 133 Tryz.underlying68 (by kernel_rfl) (some ⟨g, 0, none⟩) A N cap m c hd hs g 0 cs.toList 133 (by rw [hg]) ((List.range m).map fun i => Value.int .u32 (f2 i : Nat)) (by rw [hlen]; exact (Nat.min_eq_left hmN).symm) (fun hp => ⟨rfl, ?_⟩) (by rw [hlen]; omega) (mapU_one f2 m) g w (Below.refl _ _) (Nat.le_refl _) ?_
  · rw [hlen] at hp
    obtain ⟨b, o2, e, hb, hcc⟩ := h2.2 hp
    refine ⟨_, e, fun j v hv => ?_⟩
    obtain ⟨hj, rfl⟩ := mapU_get hv
    have hcj := hcc j hj
    unfold Addr.add
    rcases Nat.eq_zero_or_pos j with h0 | h0
    · subst h0; simpa using hcj
    · rw [if_neg (by omega)]; exact hcj
  · intro w' hg' hb'
    rw [hlen]
    refine h w' ⟨fun i hi => ?_, _, hg'.out, fun i hi => ?_⟩ hb'
    · dsimp only
      split
      · exact h2.1 i ‹_›
      · exact hl i hi
    · dsimp only
      unfold splice
      rw [hlen, List.take_zero, List.nil_append, Nat.zero_add, List.getElem?_toArray]
      by_cases him : i < m
      · rw [if_pos him, List.getElem?_append_left (by rw [hlen]; exact him)]
        exact mapU_at him
      · rw [if_neg him, List.getElem?_append_right (by rw [hlen]; omega), hlen, List.getElem?_drop, Array.getElem?_toList]
        rw [show m + (i - m) = i by omega]
        exact hc i hi
theorem rd_one (w : World) (r : Nat) (hr : r < 4294967296) (t : TypeId) : RdN (w.alloc (.cells #[Value.int .u32 (r : Nat)] t)) (some ⟨w.heap.size, 0, none⟩) 1 (fun _ => r) :=
  ⟨fun _ _ => hr, fun _ => ⟨_, _, rfl, by simp, fun i hi => by
    obtain rfl : i = 0 := by omega
    rw [cell_of_row _ _ _ _ _ (0, 0) (heap_alloc_new w _)]; rfl⟩⟩
theorem cmpN_lt {a b : Nat} (h : a < b) : cmpN a b = -1 := if_pos h
theorem cmpN_ge {a b : Nat} (h : b ≤ a) : 0 ≤ cmpN a b := by unfold cmpN; rw [if_neg (by omega)]; split <;> omega
set_option maxRecDepth 16000 in
set_option maxHeartbeats 4000000 in
theorem npart_any (A B : Option Addr) (n c m d a b : Nat) (w : World) (h1 : Nm w A n a) (h2 : Nm w B m b) (_hnc : n ≤ c) (hmd : m ≤ d) (hn : n ≤ 300000) (hm : m ≤ 300000) (hb : 0 < b) :
    Calls Tryz.prog 346 #[.slice A n c, .slice B m d] w (PartP w (a / b) (a % b)) := by
  refine calls_cps ?_
  intro R hR
  have HR := Lib.hid (show ∀ V1 V2 W', Num W' V1 (a / b) → Num W' V2 (a % b) → Below w.heap.size w W' → R (.returned (.tuple #[V1, V2])) W' from fun V1 V2 W' g1 g2 g3 => hR.out _ _ ⟨V1, V2, rfl, g1, g2, g3⟩)
  have H1 := Lib.hid h1
  have H2 := Lib.hid h2
  have Hb := Lib.hid hb
  clear hR h1 h2 hb
  rcases Nat.lt_or_ge a b with hab | hab
  · obtain ⟨x, hx⟩ : ∃ x, cmpN a b = x := ⟨_, rfl⟩
    have hx0 : x < 0 := by have := cmpN_lt hab; omega
    have Hx := Lib.hid hx
    have Hq := Lib.hid (show a / b = 0 ∧ a % b = a from ⟨Nat.div_eq_of_lt hab, Nat.mod_eq_of_lt hab⟩)
    clear hab hx
    go_enter Tryz.func346, Tryz.ntmps346
    go_wp2_with ((with_reducible refine (ncompare_any A B n c m d a b _ H1.out H2.out (by omega) (by omega)).mono ?_); rw [Hx.out]; rintro e w' ⟨rfl, q, rfl⟩)
    refine (own_num A n c a _ (H1.out.below (below_drewN (Below.refl _ _) q)) (by omega)).mono ?_
    rintro e w1 ⟨V, rfl, hV, hb1⟩
    have Hf := Lib.hid (HR.out (.slice none 0 0) V w1 (by rw [Hq.out.1]; exact Num.nil _) (by rw [Hq.out.2]; exact hV) ⟨hb1.os, hb1.tape, hb1.output, hb1.size, hb1.block⟩)
    clear hV hb1
    go_wp2_with fail
    exact Hf.out
  · obtain ⟨x, hx⟩ : ∃ x, cmpN a b = x := ⟨_, rfl⟩
    have hx0 : 0 ≤ x := by have := cmpN_ge hab; omega
    have Hx := Lib.hid hx
    have Hab := Lib.hid hab
    clear hab hx
    obtain rfl | rfl | ⟨m, rfl⟩ : m = 0 ∨ m = 1 ∨ ∃ k, m = k + 2 := by
      rcases m with _ | _ | m
      · exact .inl rfl
      · exact .inr (.inl rfl)
      · exact .inr (.inr ⟨m, rfl⟩)
    · exact absurd (ln_eq_zero.1 H2.out.1.symm) (by have := Hb.out; omega)
    · obtain ⟨bl, ob, rfl, hbl, q0⟩ := H2.out.2.at_ (k := 0) (by omega)
      have hbe : lim b 0 = b := by
        have := H2.out.lt
        rw [pw_one] at this
        unfold lim
        rw [pw_zero, Nat.div_one, Nat.mod_eq_of_lt this]
      have hbl2 := lim_lt b 0
      rw [hbe] at q0 hbl2
      have Hbe := Lib.hid hbe
      clear hbe
      go_enter Tryz.func346, Tryz.ntmps346
      go_upto_region 4 with ((with_reducible refine (ncompare_any A _ n c 1 d a b _ H1.out H2.out (by omega) (by omega)).mono ?_); rw [Hx.out]; rintro e w' ⟨rfl, q, rfl⟩)
      have q1 : (w.drewN q).cell? ⟨bl, ob, none⟩ = some (.int .u32 (b : Nat)) := q0
      go_wp2_with fail
      refine (byWord_any A n c a b _ (H1.out.below (below_drewN (Below.refl _ _) q)) (by omega) Hb.out hbl2).mono ?_
      rintro e w1 ⟨A1, k1, c1, rfl, hk1, hN1, -, hb1⟩
      have HN1 := Lib.hid (show Num w1 (.slice A1 k1 c1) (a / b) from ⟨A1, k1, c1, rfl, hk1, hN1⟩)
      have Hb1 := Lib.hid hb1
      have hr := Nat.mod_lt a Hb.out
      obtain ⟨r, hre⟩ : ∃ r, a % b = r := ⟨_, rfl⟩
      rw [hre] at hr HR ⊢
      clear hN1 hb1 hre
      go_wp2_with fail
      refine (natTrim_any _ _ _ (fun _ => r) _ (rd_one w1 r (by omega) _) (by omega) (by omega)).mono ?_
      rintro e w2 ⟨k, rfl, hk, hnm, rfl⟩
      have Hf := Lib.hid (HR.out _ _ _ (HN1.out.below (below_new _ _)) ⟨_, k, 1, rfl, hk, by simpa [fv, pw_zero] using hnm⟩ (Below.trans (b := w1) ⟨Hb1.out.os, Hb1.out.tape, Hb1.out.output, Hb1.out.size, Hb1.out.block⟩ ((below_new _ _).mono Hb1.out.size)))
      clear hnm
      go_wp2_with fail
      exact Hf.out
    · obtain ⟨bl, ob, rfl, hbl, q0⟩ := H2.out.2.at_ (k := m + 1) (by omega)
      have hbl2 := lim_lt b (m + 1)
      obtain ⟨s, hse⟩ : ∃ s, 32 - bitsN (lim b (m + 1)) = s := ⟨_, rfl⟩
      have hnt := norm_top (b := b) (n := m + 1) (s := s) H2.out.1.symm hse.symm
      have htop := top_of hnt.2.1 hnt.2.2
      obtain ⟨y, hy⟩ : ∃ y, lim b (m + 1) = y := ⟨_, rfl⟩
      rw [hy] at q0 hbl2 hse
      have hs31 := hnt.1
      obtain ⟨V, hV⟩ : ∃ V, b * 2 ^ s = V := ⟨_, rfl⟩
      obtain ⟨U, hU⟩ : ∃ U, a * 2 ^ s = U := ⟨_, rfl⟩
      have hmn : m + 2 ≤ n := by
        have := ln_mono Hab.out
        rw [← H1.out.1, ← H2.out.1] at this
        exact this
      obtain ⟨K, hK⟩ : ∃ K, n - (m + 2) = K := ⟨_, rfl⟩
      have hKi : (n : Int) - ((m : Int) + 2) = (K : Int) := by omega
      have hKn : n = K + (m + 2) := by omega
      have Hp := Lib.hid (show (U / V = a / b ∧ U % V = a % b * 2 ^ s) ∧ V < pw (m + 2) ∧ 0 < V ∧ 2147483648 ≤ lim V (m + 1) ∧ ln V = m + 2 ∧ U / pw (K + 1) < V ∧ a / b < pw (K + 1) from by
        rw [hV] at hnt htop
        have h3 := start_small (s := s) H1.out.lt hs31 (show m + 1 + 1 ≤ n by omega) hnt.2.2
        rw [hU, show n - (m + 1) = K + 1 by omega] at h3
        have h4 := quot_small H1.out.lt (show m + 1 + 1 ≤ n by omega) (pw_le_of_ln (v := b) (k := m + 1) (by rw [← H2.out.1]; omega))
        rw [show n - (m + 1) = K + 1 by omega] at h4
        refine ⟨⟨by rw [← hU, ← hV, shl_div], by rw [← hU, ← hV, shl_mod]⟩, hnt.2.1, ?_, htop.1, htop.2, h3, h4⟩
        have := pw_pos (m + 1)
        omega)
      have Hse := Lib.hid hse
      have HU := Lib.hid hU
      have HV := Lib.hid hV
      have HKn := Lib.hid hKn
      clear hnt htop hy hse hU hV hK hKn
      go_enter Tryz.func346, Tryz.ntmps346
      go_upto_region 6 with ((with_reducible refine (ncompare_any A _ n c (m + 2) d a b _ H1.out H2.out (by omega) (by omega)).mono ?_); rw [Hx.out]; rintro e w' ⟨rfl, q, rfl⟩)
      have q1 : (w.drewN q).cell? ⟨bl, ob + (m + 1), none⟩ = some (.int .u32 (y : Nat)) := q0
      have h1 := Lib.hid (show Nm (w.drewN q) A n a from H1.out.below (below_drewN (Below.refl _ _) q))
      have h2 := Lib.hid (show Nm (w.drewN q) (some ⟨bl, ob, none⟩) (m + 2) b from H2.out.below (below_drewN (Below.refl _ _) q))
      have hb0 := Lib.hid (show Below w.heap.size w (w.drewN q) from below_drewN (Below.refl _ _) q)
      obtain ⟨w0, hw0⟩ : ∃ w0, w.drewN q = w0 := ⟨_, rfl⟩
      rw [hw0] at q1 h1 h2 hb0 ⊢
      clear hw0 q0 H1 H2
      go_wp2_with (go_at_call 394; (with_reducible refine (lz32_any _ _ hbl2).mono ?_); rw [Hse.out]; rintro e w' ⟨rfl, rfl⟩)
      refine (up_any _ (m + 2) d b s w0 h2.out (by omega) (by omega)).mono ?_
      rw [HV.out]
      rintro e w1 ⟨A1, n1, c1, rfl, hk1, hN1, hf1, hb1⟩
      obtain rfl : n1 = m + 2 := by rw [hN1.1, Hp.out.2.2.2.2.1]
      obtain ⟨b1, o1, rfl, hbl1, -⟩ := hN1.2.at_ (k := 0) (by omega)
      have H1 := Lib.hid (h1.out.below hb1)
      have HV1 := Lib.hid hN1
      have Hb1 := Lib.hid (hb0.out.trans (hb1.mono hb0.out.size))
      clear hN1 hf1 hb1 h1 h2 hb0 q1 hbl2
      go_upto_region 8 with fail
      have hmk : (Instr.makeSlice 68 (.int .i64 ((n : Int) + 1)) (.int .i64 ((n : Int) + 1))).run Tryz.prog w1 = .ok (.slice (some ⟨w1.heap.size, 0, none⟩) (n + 1) (n + 1)) (w1.alloc (.cells (madeCells #[Value.int .u32 0] (n + 1)) 133)) := run_mkU (n + 1) (by omega) w1 .i64
      have HB := Lib.hid (BlkU.new w1 (n + 1))
      have HbA := Lib.hid (below_new w1 (.cells (madeCells #[Value.int .u32 0] (n + 1)) 133))
      obtain ⟨w2, hw2⟩ : ∃ w2, w1.alloc (.cells (madeCells #[Value.int .u32 0] (n + 1)) 133) = w2 := ⟨_, rfl⟩
      obtain ⟨g, hg⟩ : ∃ g, w1.heap.size = g := ⟨_, rfl⟩
      rw [hw2] at HB HbA hmk
      rw [hg] at HB HbA hmk hbl1
      have Hg := Lib.hid hg
      have H2 := Lib.hid (show Nm w2 A n a ∧ Nm w2 (some ⟨b1, o1, none⟩) (m + 2) V from ⟨H1.out.below (by rw [Hg.out]; exact HbA.out), HV1.out.below (by rw [Hg.out]; exact HbA.out)⟩)
      have Hb2 := Lib.hid (Hb1.out.trans (HbA.out.mono (by rw [← Hg.out]; exact Hb1.out.size)))
      have Hgw := Lib.hid (show w.heap.size ≤ g by rw [← Hg.out]; exact Hb1.out.size)
      clear hw2 hg H1 HV1 Hb1
      go_upto_region 9 with fail
      clear hmk
      go_wp2_with fail
      refine (up_any A n c a s w2 H2.out.1 (by omega) (by omega)).mono ?_
      rw [HU.out]
      rintro e w3 ⟨A3, n3, c3, rfl, hk3, hN3, -, hb3⟩
      have hn3 : n3 ≤ n + 1 := by
        rw [hN3.1, ← HU.out]
        refine (ln_le_iff _ _).2 ?_
        have h31 : 2 ^ s ≤ 2 ^ 31 := Nat.pow_le_pow_right (by omega) hs31
        have h3 : a * 2 ^ s < pw n * 2 ^ s := Nat.mul_lt_mul_of_pos_right H2.out.1.lt (Nat.pow_pos (by omega))
        have h4 : pw n * 2 ^ s ≤ pw n * 4294967296 := Nat.mul_le_mul_left _ (by omega)
        rw [pw_succ, Nat.mul_comm 4294967296]; omega
      have HB3 := Lib.hid (HB.out.below hb3)
      have HV3 := Lib.hid (H2.out.2.below hb3)
      have Hb3 := Lib.hid (Hb2.out.trans (hb3.mono Hb2.out.size))
      have HU3 := Lib.hid hN3
      clear hb3 hN3 HB Hb2 H2 HbA
      go_upto_region 10 with (refine wpList_copyU rfl (.tmp 49) (.tmp 52) rfl rfl rfl HB3.out HU3.out.2 hn3 ?_; intro w4 hB4 hb4)
      have HB4 := Lib.hid (hB4.congr (p := lim U) (fun i _ => by
        split
        · rfl
        · exact (HU3.out.over (by omega)).symm))
      have HV4 := Lib.hid (HV3.out.kx (S := fun j => ¬ j < g) ⟨hb4.os, hb4.tape, hb4.output, hb4.size, fun j _ hj => hb4.block j (Nat.lt_of_not_le fun h => hj (Nat.not_lt_of_le h))⟩ (fun _ ad e => by cases e; exact fun h => h hbl1))
      have Hb4 := Lib.hid (Hb3.out.trans (hb4.mono Hgw.out))
      have hgs := Lib.hid HB4.out.lt
      clear hB4 hb4 HB3 HU3 HV3 Hb3 hn3
      go_upto_region 11 with fail
      have hmk : (Instr.makeSlice 68 (.int .i64 ((K : Int) + 1)) (.int .i64 ((K : Int) + 1))).run Tryz.prog w4 = .ok (.slice (some ⟨w4.heap.size, 0, none⟩) (K + 1) (K + 1)) (w4.alloc (.cells (madeCells #[Value.int .u32 0] (K + 1)) 133)) := run_mkU (K + 1) (by omega) w4 .i64
      have HQ := Lib.hid (BlkU.new w4 (K + 1))
      have HbA := Lib.hid (below_new w4 (.cells (madeCells #[Value.int .u32 0] (K + 1)) 133))
      obtain ⟨w5, hw5⟩ : ∃ w5, w4.alloc (.cells (madeCells #[Value.int .u32 0] (K + 1)) 133) = w5 := ⟨_, rfl⟩
      obtain ⟨gq, hgq⟩ : ∃ gq, w4.heap.size = gq := ⟨_, rfl⟩
      rw [hw5] at HQ HbA hmk
      rw [hgq] at HQ HbA hmk hgs
      have H5 := Lib.hid (show BlkU w5 g (n + 1) (lim U) ∧ Nm w5 (some ⟨b1, o1, none⟩) (m + 2) V from ⟨HB4.out.below (by rw [hgq]; exact HbA.out), HV4.out.below (by rw [hgq]; exact HbA.out)⟩)
      have Hb5 := Lib.hid (Hb4.out.trans (HbA.out.mono (by rw [← hgq]; exact Hb4.out.size)))
      have Hgqw := Lib.hid (show w.heap.size ≤ gq by rw [← hgq]; exact Hb4.out.size)
      have hbg : b1 < g := hbl1
      have hgg : g < gq := hgs.out
      clear hw5 hgq HB4 HV4 Hb4 HbA hgs
      go_wp2_with fail
      clear hmk
      go_loopw [13] (fun s13 wr => ∃ (k : Nat) (fu fq : Nat → Nat), s13 = .int .i64 ((k : Int) - 1) ∧ k ≤ K + 1 ∧ Hid (BlkU wr g (n + 1) fu ∧ (∀ i, i < k → fu i = lim U i) ∧ fv (fun i => fu (k + i)) (n + 1 - k) = U / pw k % V) ∧ Hid (BlkU wr gq (K + 1) fq ∧ ∀ i, k ≤ i → i < K + 1 → fq i = lim (a / b) i) ∧ Hid (Nm wr (some ⟨b1, o1, none⟩) (m + 2) V) ∧ Hid (Below w.heap.size w wr)) (fun s13 _ => (intOf s13 + 1).toNat)
      case atStart =>
        refine ⟨K + 1, lim U, fun _ => 0, by go_num, Nat.le_refl _, Lib.hid ⟨H5.out.1, fun _ _ => rfl, ?_⟩, Lib.hid ⟨HQ.out, fun i g1 g2 => absurd g2 (by omega)⟩, Lib.hid H5.out.2, Hb5⟩
        have e : n + 1 - (K + 1) = m + 2 := by have := HKn.out; omega
        rw [e, fv_congr (g := lim (U / pw (K + 1))) (fun i _ => (lim_div_pw _ _ _).symm), fv_lim_eq (Nat.lt_trans Hp.out.2.2.2.2.2.1 Hp.out.2.1), Nat.mod_eq_of_lt Hp.out.2.2.2.2.2.1]
      case round =>
        obtain ⟨k, fu, fq, rfl, hk, HI, HIq, HIv, HW⟩ := hrel
        rcases k with _ | k
        · as_aux_lemma =>
            have hKn := HKn.out
            have Hq := Lib.hid (show RdN wr (some ⟨gq, 0, none⟩) (K + 1) fq ∧ fv fq (K + 1) = a / b from ⟨HIq.out.1.rd0 _ (Nat.le_refl _), by rw [fv_congr (fun i hi => HIq.out.2 i (Nat.zero_le _) hi), fv_lim_eq Hp.out.2.2.2.2.2.2]⟩)
            have Hu := Lib.hid (show RdN wr (some ⟨g, 0, none⟩) (m + 2) fu ∧ fv fu (m + 2) = U % V from ⟨HI.out.1.rd0 _ (by omega), by
              have h := HI.out.2.2
              rw [pw_zero, Nat.div_one, fv_congr (g := fu) (fun i _ => by rw [Nat.zero_add])] at h
              have hl : U % V < pw (m + 2) := Nat.lt_trans (Nat.mod_lt _ Hp.out.2.2.1) Hp.out.2.1
              have h2 := fv_add fu (m + 2) (n + 1 - 0 - (m + 2))
              rw [show m + 2 + (n + 1 - 0 - (m + 2)) = n + 1 - 0 by omega, h] at h2
              rw [h2] at hl ⊢
              have h0 : fv (fun i => fu (m + 2 + i)) (n + 1 - 0 - (m + 2)) = 0 := Nat.eq_zero_of_not_pos fun hp => by
                have : pw (m + 2) * 1 ≤ pw (m + 2) * fv (fun i => fu (m + 2 + i)) (n + 1 - 0 - (m + 2)) := Nat.mul_le_mul_left _ hp
                omega
              rw [h0, Nat.mul_zero]; exact (Nat.add_zero _).symm⟩)
            have i1 : (m : Int) + 2 ≤ (n : Int) + 1 := by omega
            have i2 : (m : Int) + 2 < (n : Int) + 1 := by omega
            have Hr := Lib.hid Hp.out.1.2
            clear hKn HI HIq HIv
            have HqD := Lib.hid (show RdN wr.drew (some ⟨gq, 0, none⟩) (K + 1) fq from Hq.out.1)
            have HuD := Lib.hid (show RdN wr.drew (some ⟨g, 0, none⟩) (m + 2) fu from Hu.out.1)
            have HlU := Lib.hid (show ln (U % V) ≤ m + 2 by rw [← Hu.out.2]; exact (ln_le_iff _ _).2 (fv_lt Hu.out.1.1))
            have HlQ := Lib.hid (show ln (a / b) ≤ K + 1 by rw [← Hq.out.2]; exact (ln_le_iff _ _).2 (fv_lt Hq.out.1.1))
            have hlu : ln (U % V) ≤ n + 1 := by have := HlU.out; omega
            have hlu2 : ln (U % V) ≤ 600000 := by omega
            have hKK : K + 1 ≤ 4000000 := by omega
            have hmm : m + 2 ≤ 4000000 := by omega
            have hmm2 : m + 2 ≤ n + 1 := by omega
            have i3 : (0 : Int) ≤ (m : Int) + 2 := by omega
            have i4 : ((m : Int) + 2).toNat = m + 2 := by omega
            have hbz : Below wr.heap.size wr wr.drew := (Below.refl _ wr).drew
            go_wp2_with fail
            go_region_held3 (fun w' => Below wr.heap.size wr w') (first | with_reducible exact hbz | with_reducible exact hb7c | with_reducible exact hb7c.drew | go_keep)
              (first
              | (go_at_call 341; have hcur := ‹Below wr.heap.size wr _›; (with_reducible refine (trim_eq (some ⟨gq, 0, none⟩) (K + 1) (K + 1) (a / b) fq _ (Hq.out.1.below hcur) (Nat.le_refl _) hKK Hq.out.2).mono ?_); rintro e w' ⟨rfl, rfl⟩; clear hcur)
              | (go_at_call 341; have hcur := ‹Below wr.heap.size wr _›; (with_reducible refine (trim_eq (some ⟨g, 0, none⟩) (m + 2) (n + 1) (U % V) fu _ (Hu.out.1.below hcur) hmm2 hmm Hu.out.2).mono ?_); rintro e w' ⟨rfl, rfl⟩; clear hcur)
              | (go_at_call 337; have hcur := ‹Below wr.heap.size wr _›; (with_reducible refine (down_any (some ⟨g, 0, none⟩) (ln (U % V)) (n + 1) (U % V) s _ ((Hu.out.1.below hcur).nm Hu.out.2) hlu hlu2 (by omega)).mono ?_); rintro e w7 ⟨A7, k7, c7, rfl, hk7, hN7, -, hb7⟩; have hb7c := hcur.trans (hb7.mono hcur.size); clear hcur))
            all_goals go_wp2_with fail
            all_goals exact HR.out _ _ _ ⟨_, _, _, rfl, HlQ.out, (Hq.out.1.below hb7c).nm Hq.out.2⟩ ⟨_, _, _, rfl, hk7, by rw [Hr.out, Nat.mul_div_cancel _ (Nat.pow_pos (by omega))] at hN7; exact hN7⟩ (HW.out.trans (hb7c.mono HW.out.size))
        · as_aux_lemma =>
            have hKn := HKn.out
            have i1 : (0 : Int) ≤ (k : Int) := by omega
            have i2 : (k : Int) + ((m : Int) + 2) + 1 ≤ (n : Int) + 1 := by omega
            have i3 : k + (m + 2) + 1 ≤ n + 1 := by omega
            have i4 : (k : Int) ≤ (n : Int) + 1 := by omega
            have i5 : (k : Int) < (K : Int) + 1 := by omega
            have hwin := win_val (f := fu) (U := U) (V := V) (k := k) (n := m + 2) (M := n - k) (HI.out.2.1 k (Nat.lt_succ_self k)) (by omega) Hp.out.2.1 Hp.out.2.2.1 (by rw [show n - k = n + 1 - (k + 1) by omega]; exact HI.out.2.2)
            obtain ⟨X, hX⟩ : ∃ X, U / pw (k + 1) % V * 4294967296 + lim U k = X := ⟨_, rfl⟩
            rw [hX] at hwin
            have hds := digit_step Hp.out.2.2.1 hX.symm
            rw [Hp.out.1.1] at hds
            have Hwin := Lib.hid hwin
            have Hds := Lib.hid hds
            clear hKn hwin hX hds
            go_wp2_with fail
            have elen : k + (m + 2) + 1 - k = m + 3 := by omega
            rw [elen]
            clear elen
            have hfit : k + m + 3 ≤ n + 1 := by omega
            have hN4 : n + 1 ≤ 4000000 := by omega
            have hm6 : m ≤ 600000 := by omega
            with_reducible refine (digit_any g (n + 1) k (n + 1 - k) m c1 V X (some ⟨b1, o1, none⟩) fu wr HI.out.1 HIv.out (fun ad e => by cases e; exact Nat.ne_of_lt hbg) hN4 hm6 hfit Hp.out.2.2.2.1 Hwin.out.1 Hds.out.2.2.2).mono ?_
            rintro e w6 ⟨rfl, f6, hB6, hv6, ho6, hK6⟩
            have HQ6 := Lib.hid (HIq.out.1.kx hK6 (Nat.ne_of_gt hgg))
            have f0 := HQ6.out.frozen
            have c0 := HQ6.out.cell (i := k) (by omega)
            have Hn := Lib.hid (show (BlkU (w6.setCell ⟨gq, k, none⟩ (.int .u32 ((X / V : Nat) : Int))) g (n + 1) f6 ∧ (∀ i, i < k → f6 i = lim U i) ∧ fv (fun i => f6 (k + i)) (n + 1 - k) = U / pw k % V) ∧ (BlkU (w6.setCell ⟨gq, k, none⟩ (.int .u32 ((X / V : Nat) : Int))) gq (K + 1) (upd1 fq k (X / V)) ∧ ∀ i, k ≤ i → i < K + 1 → upd1 fq k (X / V) i = lim (a / b) i) ∧ Nm (w6.setCell ⟨gq, k, none⟩ (.int .u32 ((X / V : Nat) : Int))) (some ⟨b1, o1, none⟩) (m + 2) V ∧ Below w.heap.size w (w6.setCell ⟨gq, k, none⟩ (.int .u32 ((X / V : Nat) : Int))) from by
              refine ⟨⟨hB6.kx (S := fun j => j = gq) (kx_set (S := fun j => j = gq) (Kx.refl _ _) rfl _ _) (Nat.ne_of_lt hgg), fun i hi => (ho6 i (.inl hi)).trans (HI.out.2.1 i (by omega)), ?_⟩, ⟨HQ6.out.set k _ Hds.out.2.1, fun i g1 g2 => ?_⟩, ?_, ?_⟩
              · have h := win_next (f := fu) (f' := f6) (k := k) (n := m + 2) (M := n - k) (X := X % V) (by omega) hv6 (fun i hi => ho6 i (.inr (by omega))) Hwin.out.2
                rw [show n + 1 - k = n - k + 1 by omega, h, Hds.out.2.2.1]
              · by_cases e : i = k
                · subst e; rw [upd1_self, ← Hds.out.1]
                · rw [upd1_ne e]; exact HIq.out.2 i (by omega) g2
              · exact (HIv.out.kx hK6 (fun _ ad e => by cases e; exact Nat.ne_of_lt hbg)).kx (S := fun j => j = gq) (kx_set (S := fun j => j = gq) (Kx.refl _ _) rfl _ _) (fun _ ad e => by cases e; exact Nat.ne_of_lt (Nat.lt_trans hbg hgg))
              · exact (Kx.low HW.out hK6 (fun j hj => by subst hj; exact Hgw.out) HW.out.size).setCell Hgqw.out _)
            obtain ⟨qd, hqd⟩ : ∃ qd, X / V = qd := ⟨_, rfl⟩
            rw [hqd] at Hn ⊢
            clear hB6 hv6 ho6 hK6 hqd
            go_wp2_with fail
            exact ⟨⟨k, f6, _, by go_num, by omega, Lib.hid Hn.out.1, Lib.hid Hn.out.2.1, Lib.hid Hn.out.2.2.1, Lib.hid Hn.out.2.2.2⟩, by simp [intOf]⟩
end
end Go.Proofs.YtndcijkgaadpgaaGreatDoor
