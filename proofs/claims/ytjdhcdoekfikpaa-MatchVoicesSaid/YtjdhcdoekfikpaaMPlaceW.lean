/-
  The contract of the solver's place: a row gets a column along a shortest way; conditions: the table is valid, the rows before it have their columns.
-/
import Derived.Test.YtjdhcdoekfikpaaMFc
import Derived.BigRegion
namespace Go.Proofs.Ytjdhcdoekfikpaa
open Go.RowKit

theorem shiftStep_used {b : Int} {used : List Bool} {p : List Nat} {j : Nat} {s : Shs} (h : used.getD j false = true) : shiftStep b used p j s = (s.1.set (p.getD j 0) (s.1.getD (p.getD j 0) 0 + b), s.2.1.set j (s.2.1.getD j 0 - b), s.2.2) := by rw [shiftStep, if_pos h]
theorem shiftStep_free {b : Int} {used : List Bool} {p : List Nat} {j : Nat} {s : Shs} (h : used.getD j false = false) : shiftStep b used p j s = (s.1, s.2.1, s.2.2.set j (s.2.2.getD j 0 - b)) := by rw [shiftStep, if_neg (by rw [h]; simp)]
theorem Nr.drew {W : World} {sp n c m bu bv bp bw bl bs : Nat} {A : Option Addr} {u v : List Int} {p way : List Nat} {least : List Int} {used : List Bool} (h : Nr W sp A n c m bu bv bp bw bl bs u v p way least used) : Nr W.drew sp A n c m bu bv bp bw bl bs u v p way least used := h.drewN 1
theorem Nr.atU {W : World} {sp n c m bu bv bp bw bl bs : Nat} {A : Option Addr} {u v : List Int} {p way : List Nat} {least : List Int} {used : List Bool} (h : Nr W sp A n c m bu bv bp bw bl bs u v p way least used) {k : Nat} (hk : k ≤ n) : W.cell? ⟨bu, k, none⟩ = some (.int .i64 (u.getD k 0)) ∧ W.frozen? ⟨bu, k, none⟩ = false := h.sv.atU hk
set_option maxRecDepth 100000 in
set_option maxHeartbeats 16000000 in
theorem place_any (w0 : World) (sp n c m bu bv bp bw : Nat) (A : Option Addr) (T : List (List Int)) (hT : SlR w0 A n T) (hok : TOk T m) (hNe : Ne5 w0.heap.size sp bu bv bp bw) (k : Nat) (hk : k < n)
    (u v : List Int) (p way : List Nat) (hMI : MI (aF T) n m k u v p way) (W : World) (hb : Below w0.heap.size w0 W) (hS : Sv W sp A n c m bu bv bp bw u v p way) :
    Calls Try.prog 70 #[.pointer (some ⟨sp, 0, none⟩), .int .i64 ((k : Int) + 1)] W fun e W' => e = .returned (.tuple #[]) ∧
      Sv W' sp A n c m bu bv bp bw (placeF (aF T) n m (k + 1) u v p way).1 (placeF (aF T) n m (k + 1) u v p way).2.1 (placeF (aF T) n m (k + 1) u v p way).2.2.1 (placeF (aF T) n m (k + 1) u v p way).2.2.2 ∧ Below w0.heap.size w0 W' := by
  refine calls_cps ?_
  intro R hR
  have hm64 := hok.m64
  have hTn := hT.1
  have hnm : n ≤ m := by rw [hTn]; exact hok.nm
  have ha : ∀ i j, 1 ≤ i → i ≤ n → 1 ≤ j → j ≤ m → 0 ≤ aF T i j ∧ aF T i j ≤ DEAR := by rw [hTn]; exact aF_bd hok.costOk
  have hp := hMI.pc hk hnm
  have hs0 := si_start ha hnm hk hMI
  have hkb : DEAR * k ≤ DEAR * 64 := Int.mul_le_mul_of_nonneg_left (by omega) (by unfold DEAR; omega)
  have hu0 : ∀ i, -1000000000000000 ≤ u.getD i 0 ∧ u.getD i 0 ≤ 1000000000000000 := fun i => by have := hMI.ub i; unfold DEAR at this hkb; omega
  have hv0 : ∀ j, -1000000000000000 ≤ v.getD j 0 ∧ v.getD j 0 ≤ 1000000000000000 := fun j => by have := hMI.vb j; unfold DEAR at this hkb; omega
  have Hp := Lib.hid hp
  have Hs0 := Lib.hid hs0
  have Ha := Lib.hid ha
  have Hu0 := Lib.hid hu0
  have Hv0 := Lib.hid hv0
  have HT := Lib.hid hT
  have Hok := Lib.hid hok
  have HNe := Lib.hid hNe
  have Hb := Lib.hid hb
  have HS := Lib.hid hS
  obtain ⟨q0, q1, q2, q3, q4⟩ := hS.cells
  obtain ⟨f1, f2, f3, f4, f5, f6⟩ := hS.at_ (k := 0) (by omega)
  have hS1 := hS.setP hNe 0 (k + 1)
  have hb1 := hb.setCell (p := ⟨bp, 0, none⟩) hNe.l3 (.int .i64 ((k + 1 : Nat) : Int))
  have n1 : sp ≠ bp := hS.ne hS.hp
  have n2 : sp < W.heap.size := hS.lt
  obtain ⟨p1, hp1⟩ : ∃ p1, p.set 0 (k + 1) = p1 := ⟨_, rfl⟩
  rw [hp1] at hS1
  have Hp1 := Lib.hid hp1
  have HS1 := Lib.hid hS1
  have Hb1 := Lib.hid hb1
  have i1 : (0 : Int) < (m : Int) + 1 := by omega
  have i2 : 0 < m + 1 := by omega
  clear hT hok hp hs0 hkb hu0 hv0 ha hNe hb hS hS1 hb1 hMI f1 f3 f4 f6 hp1 hTn
  go_enter Try.func70, Try.ntmps70
  go_wp2_with fail
  refine (repeat_any 4000000000000000000 _ _ (m + 1) (by omega) (by omega) _ (by exact slE_newAt _ (by simp))).mono ?_
  rintro e w1 ⟨bl, rfl, hbl, hblk, hbr⟩
  have hS2 := (HS1.out.below (below_new _ (.cells #[.int .i64 4000000000000000000] 3))).below hbr
  have hb2 : Below w0.heap.size w0 w1 := (Hb1.out.alloc Hb1.out.size _).trans (hbr.mono (Nat.le_trans Hb1.out.size (by simp)))
  have hl2 : Blk w1 bl (List.replicate (m + 1) 4000000000000000000) := by unfold Blk; rw [hblk, rep1_map]
  have hlo : w0.heap.size ≤ bl := Nat.le_trans Hb1.out.size (Nat.le_trans (by simp) hbl)
  have hne : bu ≠ bl ∧ bv ≠ bl ∧ bp ≠ bl ∧ bw ≠ bl := by
    have h1 := HS1.out.hu.lt
    have h2 := HS1.out.hv.lt
    have h3 := HS1.out.hp.lt
    have h4 := HS1.out.hw.lt
    simp at hbl h1 h2 h3 h4
    omega
  obtain ⟨q0, q1, q2, q3, q4⟩ := hS2.cells
  have HS2 := Lib.hid hS2
  have Hb2 := Lib.hid hb2
  have Hl2 := Lib.hid hl2
  have Hlo := Lib.hid hlo
  have Hne := Lib.hid hne
  clear hS2 hb2 hl2 hlo hne hblk hbr hbl f2 f5 n2
  go_wp2_with (at_make; refine wpList_mkZ rfl (.tmp 27) (.tmp 27) _ rfl 4 Try.underlying91 infoBool rfl (by omega) _ (m + 1) rfl rfl rfl (by omega) ?_; intro w2 hw2 hg2)
  have hN0 : Nr w2 sp A n c m bu bv bp bw bl w1.heap.size u v p1 way (List.replicate (m + 1) BIG) (List.replicate (m + 1) false) :=
    ⟨HS2.out.below ((Below.refl _ _).grown hg2 (Nat.le_refl _) (fun k hk => by cases hk)), Hl2.out.grown hg2 (by simp), by unfold BlkB; rw [hw2]; simp, by simp, by simp⟩
  have hb3 : Below w0.heap.size w0 w2 := Hb2.out.grown hg2 Hb2.out.size (fun k hk => by cases hk)
  have hN7 : Ne7 w0.heap.size sp bu bv bp bw bl w1.heap.size := ⟨HNe.out, Hne.out.1, Hne.out.2.1, Hne.out.2.2.1, Hne.out.2.2.2, Hlo.out, Hb2.out.size⟩
  obtain ⟨bs, hbs⟩ : ∃ bs, w1.heap.size = bs := ⟨_, rfl⟩
  rw [hbs] at hN0 hN7
  have Hbs := Lib.hid hbs
  have HN0 := Lib.hid hN0
  have HN7 := Lib.hid hN7
  have Hb3 := Lib.hid hb3
  clear hN0 hN7 hb3 hbs hw2 hg2 q0 q1 q2 q3 q4
  have hse : ∃ F, searchF (aF T) m p1 (m + 1) 0 u v (List.replicate (m + 1) BIG) way (List.replicate (m + 1) false) = F := ⟨_, rfl⟩
  obtain ⟨F, hF⟩ := hse
  have Hfin := Lib.hid (show ∀ W', Sv W' sp A n c m bu bv bp bw F.1 F.2.1 (augF F.2.2.1 (m + 2) F.2.2.2 p1) F.2.2.1 → Below w0.heap.size w0 W' → R (.returned (.tuple #[])) W' from fun W' h1 h2 => hR.out _ _ ⟨rfl, by unfold placeF; rw [Hp1.out, hF]; exact h1, h2⟩)
  have HF := Lib.hid hF
  rw [Hp1.out] at Hp Hs0
  have hns := (HN0.out.sv.neB HN0.out.bs)
  have hnp := (HN0.out.sv.hp.ne HN0.out.bs)
  have hpw : bp ≠ bw := HNe.out.a6
  have hpu : bp ≠ bu := fun e => HNe.out.a2 e.symm
  have hpv : bp ≠ bv := fun e => HNe.out.a4 e.symm
  have huv : bu ≠ bv := HNe.out.a1
  have hsu : sp ≠ bu := HN0.out.sv.ne HN0.out.sv.hu
  have hsv : sp ≠ bv := HN0.out.sv.ne HN0.out.sv.hv
  clear hF hR
  go_wp2_with (rw [Hbs.out])
  go_loopg [4, 7, 8, 9, 52] (m + 1) (fun gk s4 s7 s8 s9 s52 wr => ∃ (ord : List Nat) (col : Nat) (u1 v1 least : List Int) (way1 : List Nat) (used : List Bool) (dl : Int), gk + ord.length = m + 1 ∧ s4 = .int .i64 ((col : Nat) : Int) ∧ Nr wr sp A n c m bu bv bp bw bl bs u1 v1 p1 way1 least used ∧ Below w0.heap.size w0 wr ∧
    Hid (SI (aF T) n m (k + 1) u v p1 ord col u1 v1 least way1 used dl ∧ p1.getD col 0 ≠ 0 ∧ searchF (aF T) m p1 gk col u1 v1 least way1 used = F))
  case atStart => exact ⟨[], 0, u, v, _, way, _, 0, rfl, rfl, HN0.out, Hb3.out, Lib.hid ⟨Hs0.out, by rw [Hp.out.p0]; omega, HF.out⟩⟩
  case round =>
    obtain ⟨ord, col, u1, v1, least, way1, used, dl, hgk, rfl, hN, hb, HI⟩ := hrel
    obtain ⟨wi, rfl⟩ : ∃ wi : World, wi = wr := ⟨_, rfl⟩
    have hcm : col ≤ m := HI.out.1.cm
    obtain ⟨row, hrow⟩ : ∃ row, p1.getD col 0 = row := ⟨_, rfl⟩
    have hr1 : 1 ≤ row := by have := HI.out.2.1; rw [hrow] at this; omega
    have hr2 : row ≤ n := by rw [← hrow]; exact Nat.le_trans (Hp.out.le hcm) Hp.out.rn
    have hol : ord.length ≤ m := by
      have h1 := length_le_of_nodup (col :: ord) (List.range (m + 1)) (List.nodup_cons.2 ⟨HI.out.1.nc, HI.out.1.path.nodup⟩) (fun x hx => List.mem_range.2 (by
        rcases List.mem_cons.1 hx with rfl | hx
        · omega
        · have := HI.out.1.om x hx; omega))
      simp at h1
      omega
    obtain ⟨g1, rfl⟩ : ∃ g1, gk = g1 + 1 := ⟨gk - 1, by omega⟩
    obtain ⟨s, hs⟩ : ∃ s, nearF (nearD (aF T) u1 v1 row) (used.set col true) col least way1 m = s := ⟨_, rfl⟩
    obtain ⟨b, hbb⟩ : ∃ b, s.1.getD s.2.2 0 = b := ⟨_, rfl⟩
    have hub : ∀ i, -3000000000000000 ≤ u1.getD i 0 ∧ u1.getD i 0 ≤ 3000000000000000 := fun i => by
      have h1 := HI.out.1.du i; have h2 := Hu0.out i; have h3 := HI.out.1.d0; have h4 := HI.out.1.d1; unfold DEAR at h4; omega
    have hvb : ∀ i, -3000000000000000 ≤ v1.getD i 0 ∧ v1.getD i 0 ≤ 3000000000000000 := fun i => by
      have h1 := HI.out.1.dv i; have h2 := Hv0.out i; have h3 := HI.out.1.d0; have h4 := HI.out.1.d1; unfold DEAR at h4; omega
    obtain ⟨hb1, hb2, hro⟩ := round_ok Hp.out Ha.out Hu0.out Hv0.out HI.out.1 HI.out.2.1 (by rw [hrow]; exact hs) hbb
    obtain ⟨q0, q1, q2, q3, q4⟩ := hN.sv.cells
    obtain ⟨f1, f2, f3, f4, f5, f6⟩ := hN.sv.at_ (k := col) hcm
    obtain ⟨c1, c2, c3, c4⟩ := hN.atL (k := col) hcm
    rw [hrow] at f2
    have i3 : (col : Int) < (m : Int) + 1 := by omega
    have HNs := Lib.hid (hN.setS col true)
    have Hbs1 := Lib.hid (hb.setCell (p := ⟨bs, col, none⟩) HN7.out.l6 (.bool true))
    have Hrow := Lib.hid hrow
    have Hs := Lib.hid hs
    have Hbb := Lib.hid hbb
    have Hub := Lib.hid hub
    have Hvb := Lib.hid hvb
    have Hro := Lib.hid hro
    clear hN hb hrow hs hbb hub hvb hro f1 f3 f4 f5 f6 c1 c3
    go_wp2_with (rw [Hbs.out])
    refine (near_any w0 sp n c m bu bv bp bw bl bs A T HT.out Hok.out HN7.out u1 v1 p1 way1 least (used.set col true) _ Hbs1.out HNs.out row col hr1 hr2 Hub.out Hvb.out).mono ?_
    rw [Hs.out, Hbb.out]
    rintro e w3 ⟨rfl, hN3, hK3⟩
    have hb3 := Kx.low Hbs1.out hK3 (or_ge HN7.out.l5 HNe.out.l4) Hbs1.out.size
    obtain ⟨q0, q1, q2, q3, q4⟩ := hN3.sv.cells
    have HN3 := Lib.hid hN3
    have Hb3' := Lib.hid hb3
    clear hN3 hK3 hb3 f2 c2 c4
    clear q0 q1 q2 q3 q4
    obtain ⟨nx, hnx⟩ : ∃ nx, s.2.2 = nx := ⟨_, rfl⟩
    have Hnx := Lib.hid hnx
    rw [hnx] at Hbb ⊢
    obtain ⟨us, hus⟩ : ∃ us, used.set col true = us := ⟨_, rfl⟩
    rw [hus] at HN3 Hro Hs
    have Hus := Lib.hid hus
    obtain ⟨t, ht⟩ : ∃ t, shiftF b us p1 (u1, v1, s.1) (m + 1) = t := ⟨_, rfl⟩
    have hs' : nearF (nearD (aF T) u1 v1 (p1.getD col 0)) (used.set col true) col least way1 m = s := by rw [Hrow.out, Hus.out]; exact Hs.out
    have ht' : shiftF (s.1.getD s.2.2 0) (used.set col true) p1 (u1, v1, s.1) (m + 1) = t := by rw [hnx, Hbb.out, Hus.out]; exact ht
    have hst := search_step Hp.out Ha.out (fun i => by have := (Hu0.out i).1; unfold DEAR; omega) (fun i => by have := (Hv0.out i).1; unfold DEAR; omega) HI.out.1 HI.out.2.1 hs' ht'
    rw [hnx, Hus.out] at hst
    have hse := searchF_step (aF T) m p1 g1 col u1 v1 least way1 used hs' ht'
    rw [HI.out.2.2, hnx, Hus.out] at hse
    have Ht := Lib.hid ht
    have Hst := Lib.hid hst
    have Hse := Lib.hid hse
    clear hnx hus ht hst hse hs' ht'
    obtain ⟨q0, q1, q2, q3, q4⟩ := HN3.out.sv.cells
    go_wp2_with fail
    clear q0 q1 q2 q3 q4
    go_loopg [9, 52] (m + 1) (fun g2 s9 s52 wr => ∃ (j : Nat) (t1 t2 t3 : List Int), j + g2 = m + 1 ∧ s52 = .int .i64 ((j : Nat) : Int) ∧ Nr wr sp A n c m bu bv bp bw bl bs t1 t2 p1 s.2.1 t3 us ∧ Below w0.heap.size w0 wr ∧ Hid (shiftF b us p1 (u1, v1, s.1) j = (t1, t2, t3)))
    case atStart => exact ⟨0, u1, v1, s.1, by omega, rfl, HN3.out, Hb3'.out, Lib.hid rfl⟩
    case round =>
      obtain ⟨j, t1, t2, t3, hgj, rfl, hN, hb, Hj⟩ := hrel
      obtain ⟨wj, rfl⟩ : ∃ wj : World, wj = wr := ⟨_, rfl⟩
      obtain ⟨q0, q1, q2, q3, q4⟩ := hN.sv.cells
      by_cases hlt : j < m + 1
      · have hjm : j ≤ m := by omega
        have hR1 := Hro.out j hjm
        rw [Hj.out] at hR1
        have i4 : (j : Int) < (m : Int) + 1 := by omega
        obtain ⟨f1, f2, f3, f4, f5, f6⟩ := hN.sv.at_ (k := j) hjm
        obtain ⟨c1, c2, c3, c4⟩ := hN.atL (k := j) hjm
        have HNj := Lib.hid hN
        have Hbj := Lib.hid hb
        cases hsj : us.getD j false with
        | true =>
          rw [hsj] at c2
          obtain ⟨h1, h2⟩ := hR1.up hsj
          obtain ⟨pj, hpj⟩ : ∃ pj, p1.getD j 0 = pj := ⟨_, rfl⟩
          have hpn : pj ≤ n := by rw [← hpj]; exact Nat.le_trans (Hp.out.le hjm) Hp.out.rn
          obtain ⟨e1, e2⟩ := hN.atU hpn
          have hstep : shiftF b us p1 (u1, v1, s.1) (j + 1) = (t1.set pj (t1.getD pj 0 + b), t2.set j (t2.getD j 0 - b), t3) := by rw [shiftF, Hj.out, shiftStep_used hsj, hpj]
          simp only at h1 h2
          rw [hpj] at h1 f2
          obtain ⟨x, hx⟩ : ∃ x, t1.getD pj 0 = x := ⟨_, rfl⟩
          obtain ⟨y, hy⟩ : ∃ y, t2.getD j 0 = y := ⟨_, rfl⟩
          rw [hx] at h1 e1 hstep
          rw [hy] at h2 f1 hstep
          have hxb := Hub.out pj
          have hyb := Hvb.out j
          rw [← h1] at hxb
          rw [← h2] at hyb
          have z1 : IntKind.i64.wrap (x + b) = x + b := IntWalk.i64_in _ (by omega)
          have z2 : IntKind.i64.wrap (y - b) = y - b := IntWalk.i64_in _ (by omega)
          have i5 : (pj : Int) < (n : Int) + 1 := by omega
          have HN' := Lib.hid ((hN.setU HN7.out pj (x + b)).setV HN7.out j (y - b))
          have Hb' := Lib.hid ((hb.setCell (p := ⟨bu, pj, none⟩) HNe.out.l1 (.int .i64 (x + b))).setCell (p := ⟨bv, j, none⟩) HNe.out.l2 (.int .i64 (y - b)))
          have Hstep := Lib.hid hstep
          clear hN hb hstep hsj hpj h1 h2 hx hy hR1 f3 f5 f6 c1 c3 c4
          go_wp2_with fail
          go_still_tail 16, (by kernel_rfl)
          go_wp2_with fail
          go_roundg (gk - 1)
          case measure => omega
          case rel => exact ⟨j + 1, _, _, _, by omega, by go_num, HN'.out.drew, Hb'.out.drew, Hstep⟩
        | false =>
          rw [hsj] at c2
          obtain ⟨h1, h2, h3⟩ := hR1.no hsj
          have hstep : shiftF b us p1 (u1, v1, s.1) (j + 1) = (t1, t2, t3.set j (t3.getD j 0 - b)) := by rw [shiftF, Hj.out, shiftStep_free hsj]
          simp only at h1
          obtain ⟨x, hx⟩ : ∃ x, t3.getD j 0 = x := ⟨_, rfl⟩
          rw [hx] at h1 c1 hstep
          rw [← h1] at h2 h3
          have z1 : IntKind.i64.wrap (x - b) = x - b := IntWalk.i64_in _ (by omega)
          have HN' := Lib.hid (hN.setL HN7.out j (x - b))
          have Hb' := Lib.hid (hb.setCell (p := ⟨bl, j, none⟩) HN7.out.l5 (.int .i64 (x - b)))
          have Hstep := Lib.hid hstep
          clear hN hb hstep hsj h1 hx hR1 f1 f2 f3 f4 f5 f6 c4
          go_wp2_with fail
          go_roundg (gk - 1)
          case measure => omega
          case rel => exact ⟨j + 1, _, _, _, by omega, by go_num, HN'.out, Hb'.out, Hstep⟩
      · obtain rfl : j = m + 1 := by omega
        have htt : t = (t1, t2, t3) := by rw [← Ht.out, Hj.out]
        subst htt
        obtain ⟨hx0, dl', hSI⟩ := Hst.out
        have hnm2 : nx ≤ m := hSI.cm
        have hse := Hse.out
        obtain ⟨f1, f2, f3, f4, f5, f6⟩ := hN.sv.at_ (k := nx) hnm2
        obtain ⟨r', hr'⟩ : ∃ r', p1.getD nx 0 = r' := ⟨_, rfl⟩
        rw [hr'] at f2 hse
        have i5 : (nx : Int) < (m : Int) + 1 := by omega
        by_cases hz : r' = 0
        · rw [if_pos hz] at hse
          have g0 : ((r' : Int) == 0) = true := by simp [hz]
          have Hr' := Lib.hid hr'
          have HSI := Lib.hid hSI
          have HFe := Lib.hid hse
          have HNf := Lib.hid hN
          have Hbf := Lib.hid hb
          have hol2 : (col :: ord).length < m + 2 := by simp; omega
          obtain ⟨PF, hPF⟩ : ∃ PF, augF s.2.1 (m + 2) nx p1 = PF := ⟨_, rfl⟩
          have HPF := Lib.hid hPF
          clear hse hr' hSI hN hb f1 f3 f4 f5 f6 hz hPF
          go_wp2_with fail
          clear q0 q1 q2 q3 q4 f2
          go_loopg [4] ((col :: ord).length) (fun g3 s4 wr => ∃ (ord3 : List Nat) (c3 f : Nat) (p3 : List Nat), ord3.length = g3 ∧ s4 = .int .i64 ((c3 : Nat) : Int) ∧ c3 ≤ m ∧ Sv wr sp A n c m bu bv bp bw t1 t2 p3 s.2.1 ∧ Below w0.heap.size w0 wr ∧
            Hid (Path s.2.1 ord3 ∧ (∀ j ∈ ord3, j ≤ m) ∧ ((c3 = 0 ∧ ord3 = []) ∨ (c3 ≠ 0 ∧ s.2.1.getD c3 0 ∈ ord3)) ∧ ord3.length < f ∧ augF s.2.1 f c3 p3 = PF))
          case atStart =>
            refine ⟨col :: ord, nx, m + 2, p1, rfl, rfl, hnm2, HNf.out.sv, Hbf.out, Lib.hid ⟨HSI.out.path, HSI.out.om, ?_, hol2, HPF.out⟩⟩
            · rcases HSI.out.hd with ⟨h, _⟩ | ⟨_, h1, h2, _⟩
              · simp at h
              · exact .inr ⟨h1, h2⟩
          case round =>
            clear hol2
            obtain ⟨ord3, c3, f, p3, hlen, rfl, hc3, hS, hb, HQ⟩ := hrel
            obtain ⟨wk, rfl⟩ : ∃ wk : World, wk = wr := ⟨_, rfl⟩
            by_cases hc0 : c3 = 0
            · subst hc0
              have hp3 : p3 = PF := by
                obtain ⟨f', rfl⟩ : ∃ f', f = f' + 1 := ⟨f - 1, by have := HQ.out.2.2.2.1; omega⟩
                rw [← HQ.out.2.2.2.2, augF, if_pos rfl]
              subst hp3
              have Hend := Lib.hid (Hfin.out wk (by rw [HFe.out]; simp only; rw [HPF.out]; exact hS) hb)
              clear hS hb
              go_wp2
              go_end0
              exact Hend.out
            · have hin : s.2.1.getD c3 0 ∈ ord3 := by
                rcases HQ.out.2.2.1 with ⟨h, _⟩ | ⟨_, h⟩
                · exact absurd h hc0
                · exact h
              obtain ⟨w, hw⟩ : ∃ w, s.2.1.getD c3 0 = w := ⟨_, rfl⟩
              rw [hw] at hin
              have hwm : w ≤ m := HQ.out.2.1 w hin
              obtain ⟨r, hr1, hr2, hr3⟩ := path_split HQ.out.1 hin
              simp only [List.length_cons] at hr3
              obtain ⟨f', rfl⟩ : ∃ f', f = f' + 1 := ⟨f - 1, by have := HQ.out.2.2.2.1; omega⟩
              have hau : augF s.2.1 f' w (p3.set c3 (p3.getD w 0)) = PF := by
                have := HQ.out.2.2.2.2
                rw [augF, if_neg hc0, hw] at this
                exact this
              have hnext : (w = 0 ∧ r = []) ∨ (w ≠ 0 ∧ s.2.1.getD w 0 ∈ r) := hr1.1
              have HQ2 := Lib.hid (show Path s.2.1 r ∧ (∀ j ∈ r, j ≤ m) ∧ ((w = 0 ∧ r = []) ∨ (w ≠ 0 ∧ s.2.1.getD w 0 ∈ r)) ∧ r.length < f' ∧ augF s.2.1 f' w (p3.set c3 (p3.getD w 0)) = PF from
                ⟨hr1.2.2, fun j hj => HQ.out.2.1 j (hr2 j hj), hnext, by have := HQ.out.2.2.2.1; omega, hau⟩)
              obtain ⟨q0, q1, q2, q3, q4⟩ := hS.cells
              obtain ⟨f1, f2, f3, f4, f5, f6⟩ := hS.at_ (k := c3) hc3
              obtain ⟨o1, o2, o3, o4, o5, o6⟩ := hS.at_ (k := w) hwm
              rw [hw] at f3
              have g0 : ((c3 : Int) != 0) = true := by simp; omega
              have i6 : (c3 : Int) < (m : Int) + 1 := by omega
              have i7 : (w : Int) < (m : Int) + 1 := by omega
              obtain ⟨x, hx⟩ : ∃ x, p3.getD w 0 = x := ⟨_, rfl⟩
              rw [hx] at o2
              have HS3 := Lib.hid (hS.setP HNe.out c3 x)
              have HB3 := Lib.hid (hb.setCell (p := ⟨bp, c3, none⟩) HNe.out.l3 (.int .i64 ((x : Nat) : Int)))
              have Hx := Lib.hid hx
              clear hS hb hc0 hw hx hau hnext hin hr1 hr2 f1 f4 f6 o1 o3 o4 o5 o6
              go_wp2_with fail
              go_still_tail 19, (by kernel_rfl)
              go_wp2_with fail
              go_roundg r.length
              case measure => omega
              case rel => exact ⟨r, w, f', _, rfl, rfl, hwm, HS3.out.drewN 1, HB3.out.drew, Lib.hid (by have := HQ2.out; rw [Hx.out] at this; exact this)⟩
        · rw [if_neg hz] at hse
          have g0 : ((r' : Int) == 0) = false := by simp; omega
          have HI2 := Lib.hid (show SI (aF T) n m (k + 1) u v p1 (col :: ord) nx t1 t2 t3 s.2.1 us dl' ∧ p1.getD nx 0 ≠ 0 ∧ searchF (aF T) m p1 g1 nx t1 t2 t3 s.2.1 us = F from ⟨hSI, by rw [hr']; exact hz, hse.symm⟩)
          have HNf := Lib.hid hN
          have Hbf := Lib.hid hb
          clear hse hr' hSI hN hb f1 f3 f4 f5 f6 hz
          go_wp2_with fail
          go_roundg g1
          case measure => omega
          case rel => exact ⟨col :: ord, nx, t1, t2, t3, s.2.1, us, dl', by simp; omega, rfl, HNf.out, Hbf.out, HI2⟩
end Go.Proofs.Ytjdhcdoekfikpaa
