/-
  Contracts of temper's above and begin; each states its condition.
-/
import Derived.Test.YtojbldoekalbnaaGreatTFil
namespace Go.Proofs.YtojbldoekalbnaaGreat
open Go.RowKit
theorem fold_take (f : Nat → Int → Nat) (l : List Int) (k : Nat) (x : Int) (hx : l[k]? = some x) (z : Nat) : (l.take (k + 1)).foldl f z = f ((l.take k).foldl f z) x := by
  obtain ⟨hk, rfl⟩ := List.getElem?_eq_some_iff.1 hx
  rw [List.take_succ_eq_append_getElem hk, List.foldl_append]
  rfl
theorem sum0_take {r : Rg} {l : List Int} {k : Nat} {x : Int} (hx : l[k]? = some x) : r.sum0 (l.take (k + 1)) = r.sum0 (l.take k) + (x - r.low).toNat := fold_take _ l k x hx 0
theorem code0_take {r : Rg} {l : List Int} {k : Nat} {x : Int} (hx : l[k]? = some x) : r.code0 (l.take (k + 1)) = r.code0 (l.take k) * 4 + (x - r.low).toNat := fold_take _ l k x hx 0
set_option maxHeartbeats 2000000 in
theorem above_any (r : Rg) (hr : r.Ok) (A B D : Option Addr) (n c m d q e : Nat) (first : List Int) (w : World) (hS : SlE intE 1 w D q first) (hq : q ≤ 24) (hg : ∀ x ∈ first, r.low ≤ x ∧ x ≤ r.high) :
    Calls Tryz.prog 49 #[.agg #[.int .i64 r.N, .int .i64 r.S, .int .i64 r.low, .int .i64 r.high, .int .i64 r.total, .int .i64 r.pure, .int .i64 r.worst, .slice A n c, .slice B m d], .slice D q e] w fun en w' => en = .returned (.int .i64 (r.sum0 first : Nat)) ∧ Below w.heap.size w w' := by
  refine calls_cps ?_
  intro R hR
  have h2 := hr.h2
  have l1 := hr.l1
  have l2 := hr.l2
  have Hg := Lib.hid hg
  have Hl := Lib.hid hS.1
  have Hfin := Lib.hid (hR.out _ _ ⟨rfl, below_new w (.cells #[.int .i64 r.N, .int .i64 r.S, .int .i64 r.low, .int .i64 r.high, .int .i64 r.total, .int .i64 r.pure, .int .i64 r.worst, .slice A n c, .slice B m d] 50)⟩)
  clear hR hg hr
  go_enter Tryz.func49, Tryz.ntmps49
  go_wp2_with fail
  go_loop [5, 10] (fun s5 s10 => ∃ (k T : Nat), k ≤ q ∧ s10 = .int .i64 (k : Nat) ∧ s5 = .int .i64 (T : Nat) ∧ T ≤ 3 * k ∧ Hid (T = r.sum0 (first.take k))) (fun _ i => q - (intOf i).toNat)
  case atStart => exact ⟨0, 0, Nat.zero_le _, rfl, rfl, by omega, Lib.hid rfl⟩
  case round =>
    obtain ⟨k, T, hk, rfl, rfl, hT, HT⟩ := hrel
    by_cases hlt : k < q
    · obtain ⟨b, o, x, rfl, hbl, hs, c0⟩ := (hS.alloc (.cells #[.int .i64 r.N, .int .i64 r.S, .int .i64 r.low, .int .i64 r.high, .int .i64 r.total, .int .i64 r.pure, .int .i64 r.worst, .slice A n c, .slice B m d] 50)).at1 hlt
      obtain ⟨x1, x2⟩ := Hg.out x (List.mem_of_getElem? hs)
      have HT2 := Lib.hid (show T + (x - r.low).toNat = r.sum0 (first.take (k + 1)) by rw [sum0_take hs, HT.out])
      have hc : (T : Int) + (x - r.low) = ((T + (x - r.low).toNat : Nat) : Int) := by omega
      have Hc := Lib.hid hc
      clear hs hc
      go_wp2_with fail
      exact ⟨⟨k + 1, T + (x - r.low).toNat, by omega, by go_num, by rw [Hc.out], by omega, HT2⟩, by simp [intOf]; omega⟩
    · obtain rfl : k = q := by omega
      have Hf := Lib.hid (show R (.returned (.int .i64 (T : Nat))) _ from by
        have h := Hfin.out
        rw [show first = first.take k by rw [List.take_of_length_le (by rw [Hl.out]; exact Nat.le_refl _)], ← HT.out] at h
        exact h)
      clear Hfin
      go_wp2
      exact Hf.out
set_option maxRecDepth 8000 in
set_option maxHeartbeats 4000000 in
theorem begin_any (r : Rg) (hr : r.Ok) (A B D : Option Addr) (n c m d q e : Nat) (first : List Int) (w : World) (hF : SlE intE 1 w A n r.fi) (hT : SlE intE 1 w B m r.th) (hS : SlE intE 1 w D q first) (hq : q + 1 = r.S) (hg : ∀ x ∈ first, r.low ≤ x ∧ x ≤ r.high) :
    Calls Tryz.prog 48 #[.agg #[.int .i64 r.N, .int .i64 r.S, .int .i64 r.low, .int .i64 r.high, .int .i64 r.total, .int .i64 r.pure, .int .i64 r.worst, .slice A n c, .slice B m d], .slice D q e] w fun en w' => ∃ (b rb : Nat) (gs : Nat → Nat), en = .returned (.tuple #[.pointer (some ⟨b, 0, none⟩), .int .i64 (r.code0 first : Nat), .int .i64 (r.costB first)]) ∧
      Rst w' r first b rb (r.N + r.S) (r.codes * r.sums) gs #[.int .i64 r.N, .int .i64 r.S, .int .i64 r.low, .int .i64 r.high, .int .i64 r.total, .int .i64 r.pure, .int .i64 r.worst, .slice A n c, .slice B m d, .slice D q e, .int .i64 (r.codes : Nat), .int .i64 (r.sums : Nat), .slice (some ⟨rb, 0, none⟩) (r.N + r.S) (r.N + r.S)] (r.S - 1) ∧
      w.heap.size ≤ b ∧ Below w.heap.size w w' := by
  refine calls_cps ?_
  intro R hR
  have Hok := Lib.hid hr
  have Hg := Lib.hid hg
  have Hl := Lib.hid hS.1
  have Hq := Lib.hid hq
  have Hn := Lib.hid (hF.1.trans hr.fl)
  obtain ⟨n1, n2, s1, s2, s3, l1, l2, h1, h2, t1, t2, p1, p2, w1, w2, fl, tl, fw, tw⟩ := hr
  have hsums : (r.N : Int) * 3 + 1 = (r.sums : Int) := by unfold Rg.sums; simp
  have Hsums := Lib.hid hsums
  have hsm : r.sums ≤ 73 := by unfold Rg.sums; omega
  clear fl tl fw tw hg hq hsums
  go_enter Tryz.func48, Tryz.ntmps48
  go_wp2_with fail
  obtain ⟨W0, hW0⟩ : ∃ W0, (w.alloc (.cells #[.int .i64 r.N, .int .i64 r.S, .int .i64 r.low, .int .i64 r.high, .int .i64 r.total, .int .i64 r.pure, .int .i64 r.worst, .slice A n c, .slice B m d] 50)).alloc (.cells #[.int .i64 r.N, .int .i64 r.S, .int .i64 r.low, .int .i64 r.high, .int .i64 r.total, .int .i64 r.pure, .int .i64 r.worst, .slice A n c, .slice B m d, .slice D q e, .int .i64 1, .int .i64 ((r.N : Int) * 3 + 1), .slice none 0 0] 83) = W0 := ⟨_, rfl⟩
  have Hbel := Lib.hid (show Below w.heap.size w W0 from by rw [← hW0]; exact below_two w _ _)
  have Hbox := Lib.hid (show W0.heap[w.heap.size]? = some (.cells #[.int .i64 r.N, .int .i64 r.S, .int .i64 r.low, .int .i64 r.high, .int .i64 r.total, .int .i64 r.pure, .int .i64 r.worst, .slice A n c, .slice B m d] 50) from by rw [← hW0, Below.heap_alloc _ _ _ (by simp)]; exact heap_alloc_new w _)
  have Hcirc := Lib.hid (show W0.heap[w.heap.size + 1]? = some (.cells #[.int .i64 r.N, .int .i64 r.S, .int .i64 r.low, .int .i64 r.high, .int .i64 r.total, .int .i64 r.pure, .int .i64 r.worst, .slice A n c, .slice B m d, .slice D q e, .int .i64 (((1 : Nat) : Int)), .int .i64 (r.sums : Nat), .slice none 0 0] 83 (0, 0)) from by
    rw [← hW0, ← Hsums.out]
    have h := heap_alloc_new (w.alloc (.cells #[.int .i64 r.N, .int .i64 r.S, .int .i64 r.low, .int .i64 r.high, .int .i64 r.total, .int .i64 r.pure, .int .i64 r.worst, .slice A n c, .slice B m d] 50)) (.cells #[.int .i64 r.N, .int .i64 r.S, .int .i64 r.low, .int .i64 r.high, .int .i64 r.total, .int .i64 r.pure, .int .i64 r.worst, .slice A n c, .slice B m d, .slice D q e, .int .i64 1, .int .i64 ((r.N : Int) * 3 + 1), .slice none 0 0] 83)
    rw [World.size_alloc] at h
    exact h)
  rw [hW0]
  clear hW0
  obtain ⟨bx, hbx⟩ : ∃ bx, w.heap.size = bx := ⟨_, rfl⟩
  have Hbx := Lib.hid hbx
  rw [hbx] at Hbel Hbox Hcirc ⊢
  have hF0 := hF.below (show Below w.heap.size w W0 by rw [hbx]; exact Hbel.out)
  have hT0 := hT.below (show Below w.heap.size w W0 by rw [hbx]; exact Hbel.out)
  have hS0 := hS.below (show Below w.heap.size w W0 by rw [hbx]; exact Hbel.out)
  have HA := Lib.hid (show ∀ a, A = some a → a.block < bx from fun a ha => by
    obtain ⟨b', o', h1, h2, _⟩ := hF.2.2 (by rw [Hn.out]; omega)
    rw [ha] at h1
    injection h1 with h1
    subst h1
    rw [← hbx]; exact h2)
  have HB := Lib.hid (show ∀ a, B = some a → a.block < bx from fun a ha => by
    obtain ⟨b', o', h1, h2, _⟩ := hT.2.2 (by rw [hT.1, Hok.out.tl]; omega)
    rw [ha] at h1
    injection h1 with h1
    subst h1
    rw [← hbx]; exact h2)
  have HD := Lib.hid (show ∀ a, D = some a → a.block < bx from fun a ha => by
    obtain ⟨b', o', h1, h2, _⟩ := hS.2.2 (by have := Hq.out; omega)
    rw [ha] at h1
    injection h1 with h1
    subst h1
    rw [← hbx]; exact h2)
  have HFx := Lib.hid (show ∀ W', Kx (fun j => j = bx + 1) W0 W' → SlE intE 1 W' A n r.fi from fun W' h => slE_kx hF0 h (fun a ha => by have := HA.out a ha; omega))
  have HTx := Lib.hid (show ∀ W', Kx (fun j => j = bx + 1) W0 W' → SlE intE 1 W' B m r.th from fun W' h => slE_kx hT0 h (fun a ha => by have := HB.out a ha; omega))
  have HSx := Lib.hid (show ∀ W', Kx (fun j => j = bx + 1) W0 W' → SlE intE 1 W' D q first from fun W' h => slE_kx hS0 h (fun a ha => by have := HD.out a ha; omega))
  have hbxl : bx < W0.heap.size := (Array.getElem?_eq_some_iff.1 Hbox.out).1
  have Hboxx := Lib.hid (show ∀ W', Kx (fun j => j = bx + 1) W0 W' → W'.heap[bx]? = some (.cells #[.int .i64 r.N, .int .i64 r.S, .int .i64 r.low, .int .i64 r.high, .int .i64 r.total, .int .i64 r.pure, .int .i64 r.worst, .slice A n c, .slice B m d] 50) from fun W' h => (h.block bx hbxl (by omega)).trans Hbox.out)
  clear hF hT hS hF0 hT0 hS0 hbx
  have hq3 : q ≤ 3 := by have := Hq.out; omega
  go_loopw [8, 9, 22] (fun s8 s9 s22 wr => ∃ (k cc Cd : Nat) (T : Int), k ≤ q ∧ s22 = .int .i64 (k : Nat) ∧ s8 = .int .i64 (cc : Nat) ∧ cc < Cd ∧ Cd ≤ 64 ∧ s9 = .int .i64 T ∧ 0 ≤ T ∧ T ≤ 225000 * (k : Int) ∧
    Hid (Cd = 4 ^ k ∧ cc = r.code0 (first.take k) ∧ T = totF (fun i => r.fi.getD i 0 * first.getD i 0 * first.getD i 0) 0 k) ∧ wr.heap[bx + 1]? = some (.cells #[.int .i64 r.N, .int .i64 r.S, .int .i64 r.low, .int .i64 r.high, .int .i64 r.total, .int .i64 r.pure, .int .i64 r.worst, .slice A n c, .slice B m d, .slice D q e, .int .i64 ((Cd : Nat)), .int .i64 (r.sums : Nat), .slice none 0 0] 83 (0, 0)) ∧ Kx (fun j => j = bx + 1) W0 wr) (fun _ _ i _ => q - (intOf i).toNat)
  case atStart => exact ⟨0, 0, 1, 0, Nat.zero_le _, rfl, rfl, by omega, by omega, rfl, by omega, by omega, Lib.hid ⟨rfl, rfl, rfl⟩, Hcirc.out, Kx.refl _ _⟩
  case round =>
    obtain ⟨k, cc, Cd, T, hk, rfl, rfl, hcc, hCd, rfl, T0, T1, HT, hC, hkx⟩ := hrel
    obtain ⟨wo, rfl⟩ : ∃ wo : World, wo = wr := ⟨_, rfl⟩
    by_cases hlt : k < q
    · have hCd4 : Cd * 4 ≤ 64 := by
        have := HT.out.1
        obtain e | e | e : k = 0 ∨ k = 1 ∨ k = 2 := by omega
        all_goals subst e; simp at this; omega
      have q10 : wo.cell? ⟨bx + 1, 10, none⟩ = some (.int .i64 (Cd : Int)) := by rw [cell_of_row _ _ 10 _ _ (0, 0) hC]; rfl
      have qf : ∀ j, wo.frozen? ⟨bx + 1, j, none⟩ = false := fun j => by simp [World.frozen?, hC]
      obtain ⟨b3, o3, x, rfl, -, hx, x0⟩ := (HSx.out _ hkx).at1 hlt
      obtain ⟨x1, x2⟩ := Hg.out x (List.mem_of_getElem? hx)
      have HCs := Lib.hid (setCell_cells (i := 10) (v := .int .i64 ((Cd : Int) * 4)) hC)
      have Hkx := Lib.hid (hkx.trans (kx_setb wo (bx + 1) 10 (.int .i64 ((Cd : Int) * 4))) (fun j _ h => h))
      clear hC hkx
      go_upto_region 7 with fail
      obtain ⟨W6, hW6⟩ : ∃ W6, wo.setCell ⟨bx + 1, 10, none⟩ (.int .i64 ((Cd : Int) * 4)) = W6 := ⟨_, rfl⟩
      rw [hW6] at HCs Hkx ⊢
      clear hW6 q10 qf x0
      obtain ⟨c0, c1, c2, c3, c4, c5, c6, c7, c8, cf⟩ := ring9 (Hboxx.out _ Hkx.out)
      obtain ⟨b1, o1, y, rfl, -, hy, y0⟩ := (HFx.out _ Hkx.out).at1 (k := k) (by rw [Hn.out]; omega)
      have hyb := (wt_1000 Hok.out k).1
      rw [getD_some hy] at hyb
      obtain ⟨⟨m1, m2⟩, m3, m4⟩ := wss_bd (s := x) (S := 15) hyb (by omega) (by omega)
      have hkn : (k : Int) < (n : Int) := by have : k < n := (by rw [Hn.out]; omega)
                                             omega
      have HT2 := Lib.hid (show T + y * x * x = totF (fun i => r.fi.getD i 0 * first.getD i 0 * first.getD i 0) 0 (k + 1) by rw [totF_snoc, ← HT.out.2.2, getD_some hy, getD_some hx])
      have HT3 := Lib.hid (show cc * 4 + (x - r.low).toNat = r.code0 (first.take (k + 1)) by rw [code0_take hx, ← HT.out.2.1])
      have HT4 := Lib.hid (show Cd * 4 = 4 ^ (k + 1) by rw [HT.out.1, Nat.pow_succ])
      have Hc := Lib.hid (show (cc : Int) * 4 + x - r.low = ((cc * 4 + (x - r.low).toNat : Nat) : Int) by omega)
      clear hx hy
      have hT15 : T + y * x * x ≤ 225000 * ((k + 1 : Nat) : Int) := by omega
      have hT00 : 0 ≤ T + y * x * x := by omega
      go_wp2_with fail
      exact ⟨⟨k + 1, cc * 4 + (x - r.low).toNat, Cd * 4, _, by omega, by go_num, by rw [Hc.out], by omega, hCd4, rfl, hT00, hT15, Lib.hid ⟨HT4.out, HT3.out, HT2.out⟩, by exact HCs.out, by exact Hkx.out⟩, by simp [intOf]; omega⟩
    · obtain rfl : k = q := by omega
      have hcd : Cd = r.codes := by rw [HT.out.1, Rg.codes, ← Hq.out, Nat.add_sub_cancel]
      subst hcd
      have hcc2 : cc = r.code0 first := by rw [HT.out.2.1, List.take_of_length_le (by rw [Hl.out]; exact Nat.le_refl _)]
      have hTc : T = r.costB first := by rw [HT.out.2.2, Rg.costB, ← Hq.out, Nat.add_sub_cancel]
      subst hcc2 hTc
      go_wp2_with fail
      (with_reducible refine (fill_any r Hok.out A B D n c m d k e first Hg.out (bx + 1) _ hC (HFx.out _ hkx) (HTx.out _ hkx) (HSx.out _ hkx) Hq.out (fun a ha => by have := HA.out a ha; omega) (fun a ha => by have := HB.out a ha; omega) (fun a ha => by have := HD.out a ha; omega)).mono ?_)
      rintro en w7 ⟨rfl, rb, gs, hR7, hk7⟩
      have hbl7 := Kx.low Hbel.out (hkx.trans hk7 (fun j _ h => h)) (fun j h => by subst h; omega) (by omega)
      have Hf := Lib.hid (hR.out _ w7 ⟨bx + 1, rb, gs, rfl, hR7, by rw [Hbx.out]; omega, by rw [Hbx.out]; exact hbl7⟩)
      clear hR hR7 hk7 hbl7
      go_wp2_with fail
      go_ret3
      exact Hf.out
end Go.Proofs.YtojbldoekalbnaaGreat
