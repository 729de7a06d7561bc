/-
  Contracts of the panel's bounds: enters, fits, Ceiling, Sheets; no condition but those that each contract states.
-/
import Derived.Test.YtfkpioibinpfhaaPCeil
import Derived.Test.YtfkpioibinpfhaaMem3
import Derived.Test.YtfkpioibinpfhaaPLeaf2
namespace Go.Proofs.Ytfkpioibinpfhaa
open Go.RowKit


set_option maxHeartbeats 1000000 in
theorem enters_any (x y : Int) (s : Shp) (w : World) :
    Calls Try.prog 44 #[.int .i64 x, .int .i64 y, .agg #[.int .i64 s.W, .int .i64 s.H, .int .i64 s.V, .bool s.T]] w fun e w' => e = .returned (.bool (fitsB x y s)) ∧ Below w.heap.size w w' := by
  refine calls_cps ?_
  intro R hR
  have hb := Lib.hid (below_new w)
  obtain ⟨W, H, V, T⟩ := s
  dsimp only
  cases T
  all_goals
    go_enter Try.func44, Try.ntmps44
    go_wp2
    all_goals exact hR.out _ _ ⟨ret_bool (by simp_all [fitsB] <;> omega), hb.out _⟩
set_option maxHeartbeats 1000000 in
theorem refFits_any (x y : Int) (s : Shp) (w : World) :
    Calls Try.prog 45 #[.int .i64 x, .int .i64 y, .agg #[.int .i64 s.W, .int .i64 s.H, .int .i64 s.V, .bool s.T]] w fun e w' => e = .returned (.bool (fitsB x y s)) ∧ Below w.heap.size w w' := by
  refine calls_cps ?_
  intro R hR
  have hb := Lib.hid (below_new w)
  obtain ⟨W, H, V, T⟩ := s
  dsimp only
  cases T
  all_goals
    go_enter Try.func45, Try.ntmps45
    go_wp2
    all_goals exact hR.out _ _ ⟨ret_bool (by simp_all [fitsB] <;> omega), hb.out _⟩

theorem boxed4 {W W1 : World} {u0 u1 u2 u3 : Value} {t : TypeId} (hb : Below (W.heap.size + 1) (W.alloc (.cells #[u0, u1, u2, u3] t)) W1) :
    W1.cell? ⟨W.heap.size, 0, none⟩ = some u0 ∧ W1.cell? ⟨W.heap.size, 1, none⟩ = some u1 ∧ W1.cell? ⟨W.heap.size, 2, none⟩ = some u2 ∧ W1.cell? ⟨W.heap.size, 3, none⟩ = some u3 ∧ (∀ j, W1.frozen? ⟨W.heap.size, j, none⟩ = false) ∧ Below W.heap.size W W1 ∧ W.heap.size < W1.heap.size := by
  have h := (hb.block W.heap.size (by omega)).trans (heap_alloc_new W (.cells #[u0, u1, u2, u3] t))
  refine ⟨by rw [cell_of_row _ _ 0 _ _ (0, 0) h]; rfl, by rw [cell_of_row _ _ 1 _ _ (0, 0) h]; rfl, by rw [cell_of_row _ _ 2 _ _ (0, 0) h]; rfl, by rw [cell_of_row _ _ 3 _ _ (0, 0) h]; rfl, fun j => by simp [World.frozen?, h], (below_new W _).trans (hb.mono (by omega)), ?_⟩
  have := hb.size
  simp at this; omega
set_option maxHeartbeats 1000000 in
theorem ceiling_ok (W H k : Int) (B : Option Addr) (m d : Nat) (ss : List Shp) (w : World) (hS : SlE Shp.enc 4 w B m ss) (hp : panOk W H k ss = true) :
    Calls Try.prog 25 #[.int .i64 W, .int .i64 H, .int .i64 k, .slice B m d] w fun e w' => e = .returned (.tuple #[.int .i64 (ceilV W H ss), .int .i64 0]) ∧ Below w.heap.size w w' := by
  refine calls_cps ?_
  intro R hR
  obtain ⟨hW1, hW2, hH1, hH2, hk0, hk8, hss, hok⟩ := panOk_ok hp
  have Hok := Lib.hid hok
  have hm : m ≤ 16 := by rw [hS.1]; exact hss
  have Hm := Lib.hid hS.1
  have HP := Lib.hid hp
  clear hok hp
  go_enter Try.func25, Try.ntmps25
  go_wp2_with (go_at_call 22; refine (check_any _ _ _ _ _ _ ss _ hS (by omega)).mono ?_; rw [HP.out]; rintro e w1 ⟨rfl, hb1⟩)
  go_loopw [11, 24] (fun x i wr => ∃ (j : Nat) (q : Int), j ≤ m ∧ i = .int .i64 j ∧ x = .int .i64 q ∧ Hid (q = ceilV W H (ss.take j)) ∧ 0 ≤ q ∧ q ≤ 4096000000 ∧ Below w.heap.size w wr) (fun _ i _ => m - (intOf i).toNat)
  case atStart => exact ⟨0, 0, by omega, rfl, rfl, Lib.hid rfl, by omega, by omega, hb1⟩
  case round =>
    obtain ⟨j, q, hj, rfl, rfl, Hq, hq0, hq1, hb⟩ := hrel
    by_cases hlt : j < m
    · obtain ⟨b, o, s, rfl, hbl, hs, c0, c1, c2, c3⟩ := (hS.below hb).at4 hlt
      obtain ⟨⟨a1, a2⟩, ⟨b1, b2⟩, v1, v2⟩ := Hok.out s (List.mem_of_getElem? hs)
      obtain ⟨p1, p2⟩ := mul_bd (a := W) (b := H) (by omega) (by omega) hW2 hH2
      obtain ⟨p3, p4⟩ := mul_bd p1 v1 p2 v2
      obtain ⟨p5, p6⟩ := mul_bd (a := s.W) (b := s.H) (by omega) (by omega) a2 b2
      have p7 : 1 ≤ s.W * s.H := by have := Int.mul_le_mul a1 b1 (by omega) (by omega); simpa using this
      have HN := Lib.hid (ceil_take W H ss j s hs)
      have HD := Lib.hid (ceilS_bd (m := q) ⟨hW1, hW2⟩ ⟨hH1, hH2⟩ ⟨⟨a1, a2⟩, ⟨b1, b2⟩, v1, v2⟩ ⟨hq0, hq1⟩)
      have Hs := Lib.hid hs
      clear hs
      obtain ⟨fb, hfb⟩ : ∃ fb, fitsB W H s = fb := ⟨_, rfl⟩
      have HF := Lib.hid hfb
      clear hfb
      obtain ⟨wo, rfl⟩ : ∃ wo : World, wo = wr := ⟨_, rfl⟩
      cases fb
      all_goals
        go_wp2_with (go_at_call 44; refine (enters_any W H s _).mono ?_; rw [HF.out]; rintro e w2 ⟨rfl, hb2⟩; rw [World.size_alloc] at hb2; obtain ⟨d0, d1, d2, d3, _, hb3, hz3⟩ := boxed4 hb2; clear hb2)
        all_goals
          go_roundw
          case rel =>
            have hN := HN.out
            have hD := HD.out
            rw [← Hq.out] at hN
            unfold ceilS at hN hD
            rw [HF.out] at hN hD
            simp only [if_true, Bool.false_eq_true, if_false] at hN hD
            refine ⟨j + 1, _, by omega, by go_num, rfl, Lib.hid ?_, ?_, ?_, hb.trans (hb3.mono hb.size)⟩
            · rw [hN]
              try omega
            · omega
            · omega
          case measure => simp [intOf]; omega
    · obtain rfl : j = m := by omega
      have h := Hq.out
      rw [List.take_of_length_le (by rw [Hm.out]; exact Nat.le_refl _)] at h
      have Hfin := Lib.hid (hR.out (.returned (.tuple #[.int .i64 (ceilV W H ss), .int .i64 0])) wr ⟨rfl, hb⟩)
      rw [← h] at Hfin
      clear h Hq
      go_wp2
      exact Hfin.out
end Go.Proofs.Ytfkpioibinpfhaa
