/-
  The contract of temper's circle.fill: the table of the least costs of all that is behind each place; condition: the ring is valid, and the circle's block is none of the slices' own.
-/
import Derived.Test.YtojbldoekalbnaaGreatTFil0
import Derived.Deep.RegionHeld3
namespace Go.Proofs.YtojbldoekalbnaaGreat
open Go.RowKit
set_option maxRecDepth 8000 in
set_option maxHeartbeats 16000000 in
theorem fill_any (r : Rg) (hr : r.Ok) (A B D : Option Addr) (n c m d q e : Nat) (first : List Int) (hg : ∀ x ∈ first, r.low ≤ x ∧ x ≤ r.high) (b : Nat) (w : World)
    (hC : w.heap[b]? = some (.cells #[.int .i64 r.N, .int .i64 r.S, .int .i64 r.low, .int .i64 r.high, .int .i64 r.total, .int .i64 r.pure, .int .i64 r.worst, .slice A n c, .slice B m d, .slice D q e, .int .i64 (r.codes : Nat), .int .i64 (r.sums : Nat), .slice none 0 0] 83))
    (hF : SlE intE 1 w A n r.fi) (hT : SlE intE 1 w B m r.th) (hS : SlE intE 1 w D q first) (hq : q + 1 = r.S) (hA : ∀ a, A = some a → a.block ≠ b) (hB : ∀ a, B = some a → a.block ≠ b) (hD : ∀ a, D = some a → a.block ≠ b) :
    Calls Tryz.prog 81 #[.pointer (some ⟨b, 0, none⟩)] w fun en w' => en = .returned (.tuple #[]) ∧ ∃ (rb : Nat) (gs : Nat → Nat),
      Rst w' r first b rb (r.N + r.S) (r.codes * r.sums) gs #[.int .i64 r.N, .int .i64 r.S, .int .i64 r.low, .int .i64 r.high, .int .i64 r.total, .int .i64 r.pure, .int .i64 r.worst, .slice A n c, .slice B m d, .slice D q e, .int .i64 (r.codes : Nat), .int .i64 (r.sums : Nat), .slice (some ⟨rb, 0, none⟩) (r.N + r.S) (r.N + r.S)] (r.S - 1) ∧ Kx (fun j => j = b) w w' := by
  refine calls_cps ?_
  intro R hR0
  have Hok := Lib.hid hr
  have Hg := Lib.hid hg
  have Hq := Lib.hid hq
  have Hfl := Lib.hid (show first.length + 1 = r.S by rw [← hS.1]; exact hq)
  have hbl : b < w.heap.size := (Array.getElem?_eq_some_iff.1 hC).1
  have HFx := Lib.hid (show ∀ W', Kx (fun j => j = b) w W' → SlE intE 1 W' A n r.fi from fun W' h => slE_kx hF h (fun a ha => hA a ha))
  have HTx := Lib.hid (show ∀ W', Kx (fun j => j = b) w W' → SlE intE 1 W' B m r.th from fun W' h => slE_kx hT h (fun a ha => hB a ha))
  have HSx := Lib.hid (show ∀ W', Kx (fun j => j = b) w W' → SlE intE 1 W' D q first from fun W' h => slE_kx hS h (fun a ha => hD a ha))
  obtain ⟨hc1, hc2⟩ := codes_64 hr
  have hsm : r.sums ≤ 73 := by have := hr.n2; unfold Rg.sums; omega
  have hsm1 : 1 ≤ r.sums := by unfold Rg.sums; omega
  obtain ⟨nl1, nl2⟩ := nlow_bd hr
  obtain ⟨n1, n2, s1, s2, s3, l1, l2, h1, h2, t1, t2, p1, p2, w1, w2, fl, tl, fw, tw⟩ := hr
  have HC := Lib.hid hC
  obtain ⟨L, hL⟩ : ∃ L, r.N + r.S = L := ⟨_, rfl⟩
  obtain ⟨K, hK⟩ : ∃ K, r.codes * r.sums = K := ⟨_, rfl⟩
  rw [hL, hK] at hR0
  have hKi : (r.codes : Int) * (r.sums : Int) = (K : Int) := by rw [← hK]; simp
  have hK2 : K ≤ 64 * 73 := by rw [← hK]; exact Nat.mul_le_mul hc2 hsm
  have hLi : (r.N : Int) + (r.S : Int) = (L : Int) := by omega
  have HL := Lib.hid hL
  have HK := Lib.hid hK
  have HKi := Lib.hid hKi
  have HLi := Lib.hid hLi
  obtain ⟨c0, c1, c2, c3, c4, c5, c6, c7, c8, c9, c10, c11, c12, cf⟩ := circ13 hC
  have hL1 : r.N + r.S ≤ L := by omega
  have hL2 : L ≤ r.N + r.S := by omega
  clear fl tl fw tw hg hq hF hT hS hA hB hD hC hL hK hKi hLi
  go_enter Tryz.func81, Tryz.ntmps81
  have hu1 : IntKind.i64.wrap ((r.N : Int) + (r.S : Int)) = (L : Int) := by rw [HLi.out]; exact IntWalk.i64_in _ (by omega)
  have hu2 : IntKind.i64.wrap ((L : Int) - 1) = (L : Int) - 1 := IntWalk.i64_in _ (by omega)
  go_wp2_with fail
  go_quiet (fail)
  clear hu1 hu2
  obtain ⟨wd, hwd⟩ : ∃ wd, w.drewN nq = wd := ⟨_, rfl⟩
  have Hwd := Lib.hid (show Kx (fun j => j = b) w wd by rw [← hwd]; exact (Kx.refl _ _).drewN nq)
  have Hcd := Lib.hid (show wd.heap[b]? = some (.cells #[.int .i64 r.N, .int .i64 r.S, .int .i64 r.low, .int .i64 r.high, .int .i64 r.total, .int .i64 r.pure, .int .i64 r.worst, .slice A n c, .slice B m d, .slice D q e, .int .i64 (r.codes : Nat), .int .i64 (r.sums : Nat), .slice none 0 0] 83 (0, 0)) by rw [← hwd]; exact HC.out)
  rw [hwd]
  clear hwd c0 c1 c2 c3 c4 c5 c6 c7 c8 c9 c10 c11 c12 cf
  obtain ⟨c0, c1, c2, c3, c4, c5, c6, c7, c8, c9, c10, c11, c12, cf⟩ := circ13 Hcd.out
  have hbd : b < wd.heap.size := (Array.getElem?_eq_some_iff.1 Hcd.out).1
  have hmr := run_mkRows L (by omega)
  have hL3 : (L : Int) - 1 + 1 = (L : Int) := by omega
  go_upto_region 2 with fail
  clear hmr hL3
  have hst := rst_start (r := r) (first := first) (K := K) (gs := fun _ => 0) (L := L) Hcd.out rfl
  obtain ⟨rb, hrb⟩ : ∃ rb, wd.heap.size = rb := ⟨_, rfl⟩
  rw [hrb] at hst ⊢
  obtain ⟨W2, hW2⟩ : ∃ W2, (wd.setCell ⟨b, 12, none⟩ (.slice (some ⟨rb, 0, none⟩) L L)).alloc (.cells (madeCells #[Value.slice none 0 0] L) 22) = W2 := ⟨_, rfl⟩
  rw [hW2] at hst ⊢
  obtain ⟨hst, hk2⟩ := hst
  have hrbw : w.heap.size ≤ rb := by rw [← hrb]; exact Hwd.out.size
  rw [show (#[.int .i64 r.N, .int .i64 r.S, .int .i64 r.low, .int .i64 r.high, .int .i64 r.total, .int .i64 r.pure, .int .i64 r.worst, .slice A n c, .slice B m d, .slice D q e, .int .i64 (r.codes : Nat), .int .i64 (r.sums : Nat), .slice none 0 0] : Array Value).setIfInBounds 12 (.slice (some ⟨rb, 0, none⟩) L L) = #[.int .i64 r.N, .int .i64 r.S, .int .i64 r.low, .int .i64 r.high, .int .i64 r.total, .int .i64 r.pure, .int .i64 r.worst, .slice A n c, .slice B m d, .slice D q e, .int .i64 (r.codes : Nat), .int .i64 (r.sums : Nat), .slice (some ⟨rb, 0, none⟩) L L] from rfl] at hst
  have Hst := Lib.hid hst
  have Hk2 := Lib.hid (Hwd.out.trans hk2 (fun j _ h => h))
  clear hW2 hrb hst hk2 Hcd HC Hwd hbd c0 c1 c2 c3 c4 c5 c6 c7 c8 c9 c10 c11 c12 cf
  go_wp2_with fail
  go_loopw [3] (fun s3 wr => ∃ (t : Nat) (a : Int) (gs : Nat → Nat), r.S ≤ t + 1 ∧ t ≤ L ∧ s3 = .int .i64 a ∧ (t : Int) - 1 ≤ a ∧ a ≤ (t : Int) - 1 ∧ Rst wr r first b rb L K gs #[.int .i64 r.N, .int .i64 r.S, .int .i64 r.low, .int .i64 r.high, .int .i64 r.total, .int .i64 r.pure, .int .i64 r.worst, .slice A n c, .slice B m d, .slice D q e, .int .i64 (r.codes : Nat), .int .i64 (r.sums : Nat), .slice (some ⟨rb, 0, none⟩) L L] t ∧ Kx (fun j => j = b) w wr) (fun s3 _ => (intOf s3 + 1).toNat)
  case atStart => exact ⟨L, _, _, by omega, Nat.le_refl _, rfl, Int.le_refl _, Int.le_refl _, Hst.out, Hk2.out⟩
  case round =>
    obtain ⟨t, a, gs, ht1, ht2, rfl, a1, a2, hR, hk⟩ := hrel
    obtain ⟨wo, rfl⟩ : ∃ wo : World, wo = wr := ⟨_, rfl⟩
    obtain ⟨c0, c1, c2, c3, c4, c5, c6, c7, c8, c9, c10, c11, c12, cf⟩ := circ13 hR.circ
    by_cases hlt : r.S ≤ t
    · obtain ⟨u, rfl⟩ : ∃ u : Nat, t = u + 1 := ⟨t - 1, by omega⟩
      obtain rfl : a = (u : Int) := by omega
      have hd33 : decide ((r.S : Int) - 1 ≤ (u : Int)) = true := by simp; omega
      clear a1 a2
      obtain ⟨rs, k1, k2, k3⟩ := hR.rows
      have hcr : ∃ v, wo.cell? ⟨rb, u, none⟩ = some v := ⟨rs[u]'(by omega), by rw [cell_of_row wo rb u _ _ (0, 0) k2]; simp [show u < rs.length by omega]⟩
      have hfr : wo.frozen? ⟨rb, u, none⟩ = false := by simp [World.frozen?, k2]
      obtain ⟨vold, hcr⟩ := hcr
      have hrbl : rb < wo.heap.size := World.block_lt_of_cell? wo _ hcr
      have hbo : b < wo.heap.size := World.block_lt_of_cell? wo _ c0
      have ha0 : ∀ o, (wo.alloc o).cell? ⟨rb, u, none⟩ = some vold := fun o => ((below_new wo o).cell (p := ⟨rb, u, none⟩) hrbl).trans hcr
      have ha1 : ∀ o, (wo.alloc o).cell? ⟨b, 10, none⟩ = some (.int .i64 (r.codes : Nat)) := fun o => ((below_new wo o).cell (p := ⟨b, 10, none⟩) hbo).trans c10
      have ha2 : ∀ o, (wo.alloc o).cell? ⟨b, 11, none⟩ = some (.int .i64 (r.sums : Nat)) := fun o => ((below_new wo o).cell (p := ⟨b, 11, none⟩) hbo).trans c11
      have ha3 : ∀ o, (wo.alloc o).cell? ⟨b, 12, none⟩ = some (.slice (some ⟨rb, 0, none⟩) L L) := fun o => ((below_new wo o).cell (p := ⟨b, 12, none⟩) hbo).trans c12
      have hfa : ∀ o, (wo.alloc o).frozen? ⟨rb, u, none⟩ = false := fun o => ((below_new wo o).frozen (p := ⟨rb, u, none⟩) hrbl).trans hfr
      clear k1 k2 k3
      have HR := Lib.hid hR
      have Hk := Lib.hid hk
      clear hR hk
      have hmk := run_mkInt K (by omega)
      have hKm : IntKind.i64.wrap ((r.codes : Int) * (r.sums : Int)) = (K : Int) := by rw [HKi.out]; exact IntWalk.i64_in _ (by omega)
      have hu0 : (0 : Int) ≤ (u : Int) := by omega
      have huL : (u : Int) < (L : Int) := by omega
      go_wp2_with fail
      go_region
      clear hmk hKm hcr hfr hfa ha0 ha1 ha2 ha3 c0 c1 c2 c3 c4 c5 c6 c7 c8 c9 c10 c11 c12 cf hrbl hbo
      have HFil := Lib.hid (fil_start HR.out (by omega) HK.out.symm Hk.out hrbw).drew
      obtain ⟨g, hg⟩ : ∃ g, wo.heap.size = g := ⟨_, rfl⟩
      rw [hg] at HFil ⊢
      obtain ⟨W3, hW3⟩ : ∃ W3, ((wo.setCell ⟨rb, u, none⟩ (.slice (some ⟨g, 0, none⟩) K K)).alloc (.cells (madeCells #[Value.int .i64 0] K) 3)).drew = W3 := ⟨_, rfl⟩
      rw [hW3] at HFil ⊢
      clear hW3 hg HR Hk
      obtain ⟨c0, c1, c2, c3, c4, c5, c6, c7, c8, c9, c10, c11, c12, cf⟩ := circ13 HFil.out.rst.circ
      go_wp2_with fail
      go_loopw [56] (fun s56 wr => ∃ (k : Nat) (l : List Int), k ≤ r.codes ∧ s56 = .int .i64 k ∧ Fil w wr r first b rb L K gs #[.int .i64 r.N, .int .i64 r.S, .int .i64 r.low, .int .i64 r.high, .int .i64 r.total, .int .i64 r.pure, .int .i64 r.worst, .slice A n c, .slice B m d, .slice D q e, .int .i64 (r.codes : Nat), .int .i64 (r.sums : Nat), .slice (some ⟨rb, 0, none⟩) L L] u g (k * r.sums) l) (fun i _ => r.codes - (intOf i).toNat)
      case atStart => exact ⟨0, _, Nat.zero_le _, rfl, by rw [Nat.zero_mul]; exact HFil.out⟩
      case round =>
        clear HFil c0 c1 c2 c3 c4 c5 c6 c7 c8 c9 c10 c11 c12 cf
        obtain ⟨k, l, hk, rfl, hFil⟩ := hrel
        obtain ⟨w5, rfl⟩ : ∃ w5 : World, w5 = wr := ⟨_, rfl⟩
        have HFil := Lib.hid hFil
        clear hFil
        obtain ⟨c0, c1, c2, c3, c4, c5, c6, c7, c8, c9, c10, c11, c12, cf⟩ := circ13 HFil.out.rst.circ
        by_cases hltk : k < r.codes
        · go_wp2_with fail
          go_loopw [63] (fun s63 wr => ∃ (s : Nat) (l : List Int), s ≤ r.sums ∧ s63 = .int .i64 s ∧ Fil w wr r first b rb L K gs #[.int .i64 r.N, .int .i64 r.S, .int .i64 r.low, .int .i64 r.high, .int .i64 r.total, .int .i64 r.pure, .int .i64 r.worst, .slice A n c, .slice B m d, .slice D q e, .int .i64 (r.codes : Nat), .int .i64 (r.sums : Nat), .slice (some ⟨rb, 0, none⟩) L L] u g (k * r.sums + s) l) (fun i _ => r.sums - (intOf i).toNat)
          case atStart => exact ⟨0, _, Nat.zero_le _, rfl, HFil.out⟩
          case round =>
            clear HFil c0 c1 c2 c3 c4 c5 c6 c7 c8 c9 c10 c11 c12 cf
            obtain ⟨s, l, hs, rfl, hFil⟩ := hrel
            obtain ⟨w6, rfl⟩ : ∃ w6 : World, w6 = wr := ⟨_, rfl⟩
            have HFil := Lib.hid hFil
            clear hFil
            obtain ⟨c0, c1, c2, c3, c4, c5, c6, c7, c8, c9, c10, c11, c12, cf⟩ := circ13 HFil.out.rst.circ
            by_cases hlts : s < r.sums
            · have hIdx := idx_lt hltk hlts
              have HIdx := Lib.hid hIdx
              rw [HK.out] at hIdx
              obtain ⟨I, hI⟩ : ∃ I, k * r.sums + s = I := ⟨_, rfl⟩
              rw [hI] at hIdx HIdx
              have hIk : (I : Int) < (K : Int) := by omega
              have hI0 : (0 : Int) ≤ (I : Int) := by omega
              have hIz : (k : Int) * (r.sums : Int) + (s : Int) = (I : Int) := by rw [← hI]; simp
              have hZs : (0 : Int) ≤ (k : Int) * (r.sums : Int) := Int.mul_nonneg (by omega) (by omega)
              have hu1 : IntKind.i64.wrap ((k : Int) * (r.sums : Int)) = (k : Int) * (r.sums : Int) := IntWalk.i64_in _ (by omega)
              have hu2 : IntKind.i64.wrap ((k : Int) * (r.sums : Int) + (s : Int)) = (I : Int) := by rw [hIz]; exact IntWalk.i64_in _ (by omega)
              have hu4 : IntKind.i64.wrap (I : Int) = (I : Int) := IntWalk.i64_in _ (by omega)
              have Hu := Lib.hid (And.intro hu1 (And.intro hu2 (And.intro hu4 hIz)))
              have HI := Lib.hid hI
              have Hval := Lib.hid (rowV_get (r := r) (first := first) (n := L - 1 - u) (t := u) hltk hlts)
              rw [hI] at Hval HFil
              clear hu1 hu2 hu4 hI hIz hIdx
              have hu0 : (0 : Int) ≤ (u : Int) := by omega
              have huL : (u : Int) < (L : Int) := by omega
              by_cases hend : u + 1 < L
              · obtain ⟨hr1, -⟩ := HFil.out.rst.row (Nat.le_refl _) hend
                have hx1 := (HFil.out.rst.own _ (Nat.le_refl _) hend).sl (show K = (r.rowV first (L - 1 - (u + 1)) (u + 1)).length by rw [rowV_len]; exact HK.out.symm)
                have hkk := HFil.out.kx
                have hend' : (u : Int) < (L : Int) - 1 := by omega
                go_wp2_with fail
                (with_reducible refine (best_any r Hok.out A B D n c m d q e first Hg.out b rb (gs (u + 1)) L K (L - 1 - (u + 1)) k s u _ HFil.out.rst.circ (HFx.out _ hkk) (HTx.out _ hkk) (HSx.out _ hkk) Hq.out hr1 HK.out.symm HL.out.symm hx1 (by omega) hltk hlts (by omega)).mono ?_)
                rintro en w7 ⟨rfl, hb7⟩
                obtain ⟨X, hX⟩ : ∃ X, ((r.lay first).best (L - 1 - (u + 1)) u (k, s)).1 = X := ⟨_, rfl⟩
                have Hval := Lib.hid (show (r.rowV first (L - 1 - u) u)[I]? = some X by rw [Hval.out, show L - 1 - u = (L - 1 - (u + 1)) + 1 by omega, ← hX]; rfl)
                rw [hX]
                have HFil := Lib.hid (HFil.out.below hb7)
                clear hX hb7 hkk hr1 hx1 c0 c1 c2 c3 c4 c5 c6 c7 c8 c9 c10 c11 c12 cf
                obtain ⟨c0, c1, c2, c3, c4, c5, c6, c7, c8, c9, c10, c11, c12, cf⟩ := circ13 HFil.out.rst.circ
                obtain ⟨q0, qf, vo, q1⟩ := HFil.out.cells HIdx.out
                have Hset := Lib.hid (HFil.out.set HIdx.out Hval.out)
                go_upto_region 17 with fail
                obtain ⟨hu1, hu2, hu4, hIz⟩ := Hu.out
                go_still_tail 17, (by kernel_rfl)
                clear hu1 hu2 hu4 hIz
                go_wp2_with fail
                exact ⟨⟨s + 1, _, by omega, by go_num, by rw [← Nat.add_assoc, HI.out]; exact Hset.out.drew⟩, by simp [intOf]; omega⟩
              · have hend' : ¬ (u : Int) < (L : Int) - 1 := by omega
                have Hval := Lib.hid (show (r.rowV first (L - 1 - u) u)[I]? = some (if (s : Int) = r.total - r.N * r.low then 0 else -1) by
                  rw [Hval.out, show L - 1 - u = 0 by omega]
                  simp [Lay.val, Rg.lay])
                have hv1 : IntKind.i64.wrap ((r.N : Int) * r.low) = (r.N : Int) * r.low := IntWalk.i64_in _ (by omega)
                have hv2 : IntKind.i64.wrap (r.total - (r.N : Int) * r.low) = r.total - (r.N : Int) * r.low := IntWalk.i64_in _ (by omega)
                by_cases hfin : (s : Int) = r.total - (r.N : Int) * r.low
                · have Hval := Lib.hid (show (r.rowV first (L - 1 - u) u)[I]? = some 0 by rw [Hval.out, if_pos hfin])
                  have hb0 : ((s : Int) == r.total - (r.N : Int) * r.low) = true := by simp [hfin]
                  clear hfin
                  go_wp2_with fail
                  go_quiet (fail)
                  clear hv1 hv2
                  have HFil := Lib.hid (HFil.out.drewN nq)
                  obtain ⟨w7, hw7⟩ : ∃ w7, w6.drewN nq = w7 := ⟨_, rfl⟩
                  rw [hw7] at HFil ⊢
                  clear hw7 c0 c1 c2 c3 c4 c5 c6 c7 c8 c9 c10 c11 c12 cf
                  obtain ⟨c0, c1, c2, c3, c4, c5, c6, c7, c8, c9, c10, c11, c12, cf⟩ := circ13 HFil.out.rst.circ
                  obtain ⟨q0, qf, vo, q1⟩ := HFil.out.cells HIdx.out
                  have Hset := Lib.hid (HFil.out.set HIdx.out Hval.out)
                  go_upto_region 17 with fail
                  obtain ⟨hu1, hu2, hu4, hIz⟩ := Hu.out
                  go_still_tail 17, (by kernel_rfl)
                  clear hu1 hu2 hu4 hIz
                  go_wp2_with fail
                  exact ⟨⟨s + 1, _, by omega, by go_num, by rw [← Nat.add_assoc, HI.out]; exact Hset.out.drew⟩, by simp [intOf]; omega⟩
                · have Hval := Lib.hid (show (r.rowV first (L - 1 - u) u)[I]? = some (-1) by rw [Hval.out, if_neg hfin])
                  have hb0 : ((s : Int) == r.total - (r.N : Int) * r.low) = false := by simpa using hfin
                  clear hfin
                  go_wp2_with fail
                  go_quiet (fail)
                  clear hv1 hv2
                  have HFil := Lib.hid (HFil.out.drewN nq)
                  obtain ⟨w7, hw7⟩ : ∃ w7, w6.drewN nq = w7 := ⟨_, rfl⟩
                  rw [hw7] at HFil ⊢
                  clear hw7 c0 c1 c2 c3 c4 c5 c6 c7 c8 c9 c10 c11 c12 cf
                  obtain ⟨c0, c1, c2, c3, c4, c5, c6, c7, c8, c9, c10, c11, c12, cf⟩ := circ13 HFil.out.rst.circ
                  obtain ⟨q0, qf, vo, q1⟩ := HFil.out.cells HIdx.out
                  have Hset := Lib.hid (HFil.out.set HIdx.out Hval.out)
                  go_upto_region 17 with fail
                  obtain ⟨hu1, hu2, hu4, hIz⟩ := Hu.out
                  go_still_tail 17, (by kernel_rfl)
                  clear hu1 hu2 hu4 hIz
                  go_wp2_with fail
                  exact ⟨⟨s + 1, _, by omega, by go_num, by rw [← Nat.add_assoc, HI.out]; exact Hset.out.drew⟩, by simp [intOf]; omega⟩
            · obtain rfl : s = r.sums := by omega
              go_wp2_with fail
              exact ⟨⟨k + 1, l, by omega, by go_num, by rw [Nat.succ_mul]; exact HFil.out⟩, by simp [intOf]; omega⟩
        · obtain rfl : k = r.codes := by omega
          go_wp2_with fail
          exact ⟨⟨u, (u : Int) - 1, _, by omega, by omega, rfl, Int.le_refl _, Int.le_refl _, by exact HFil.out.fin, by exact HFil.out.kx⟩, by simp [intOf] <;> omega⟩
    · have hts : t = r.S - 1 := by omega
      subst hts
      have Hf := Lib.hid (hR0.out _ wo ⟨rfl, rb, gs, hR, hk⟩)
      clear hR hk hR0
      go_wp2_with fail
      go_end0
      exact Hf.out
end Go.Proofs.YtojbldoekalbnaaGreat
