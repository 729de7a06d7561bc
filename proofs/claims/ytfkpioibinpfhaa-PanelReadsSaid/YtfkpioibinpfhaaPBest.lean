/-
  The contract of panel.Best: the plan that the document names, and its value, or ErrArg; no condition but that the shapes read.
-/
import Derived.Test.YtfkpioibinpfhaaPPlan2
import Derived.Test.YtfkpioibinpfhaaPLeaf2
namespace Go.Proofs.Ytfkpioibinpfhaa
open Go.RowKit

set_option maxRecDepth 100000 in
set_option maxHeartbeats 4000000 in
theorem best_no (W H k : Int) (B : Option Addr) (m d : Nat) (ss : List Shp) (w : World) (hS : SlE Shp.enc 4 w B m ss) (hm : m ≤ 9223372036854775807) (hp : panOk W H k ss = false) :
    Calls Try.prog 16 #[.int .i64 W, .int .i64 H, .int .i64 k, .slice B m d] w fun e w' => e = .returned (.tuple #[.slice none 0 0, .int .i64 0, .int .i64 1]) ∧ Below w.heap.size w w' := by
  refine calls_cps ?_
  intro R hR
  go_enter Try.func16, Try.ntmps16
  go_wp2_with (go_at_call 22; refine (check_any _ _ _ _ _ _ ss _ hS hm).mono ?_; rw [hp]; rintro e w1 ⟨rfl, hb⟩)
  go_ret3
  exact hR.out _ _ ⟨rfl, hb⟩
set_option maxRecDepth 100000 in
set_option maxHeartbeats 4000000 in
theorem best_yes (W H : Nat) (k : Int) (B : Option Addr) (m d : Nat) (ss : List Shp) (w : World) (hS : SlE Shp.enc 4 w B m ss) (hp : panOk W H k ss = true) :
    Calls Try.prog 16 #[.int .i64 W, .int .i64 H, .int .i64 k, .slice B m d] w fun e w' => ∃ v, e = .returned (.tuple #[v, .int .i64 (val k ss W H), .int .i64 0]) ∧ PlanRet w' w.heap.size v (planL k ss W H) ∧ Below w.heap.size w w' := by
  refine calls_cps ?_
  intro R hR
  obtain ⟨hW1, hW2, hH1, hH2, hk0, hk8, hss, hok⟩ := panOk_ok hp
  have Hp := Lib.hid hp
  have Hok := Lib.hid hok
  have hm : m ≤ 9223372036854775807 := by rw [hS.1]; omega
  clear hok
  go_enter Try.func16, Try.ntmps16
  go_wp2_with (first
    | (go_at_call 22; refine (check_any _ _ _ _ _ _ ss _ hS hm).mono ?_; rw [hp]; rintro e w1 ⟨rfl, hb⟩; have hS1 := hS.below hb; clear hp)
    | (go_at_call 38; refine ((callsIn_wide (n := 3)).1 (fill_any 3 (Nat.le_refl _) W H k _ _ _ ss _ hS1 Hp.out)).mono ?_; rintro e w2 ⟨C, rfl, hblk, hsaw, hb2⟩))
  obtain ⟨vv, hvv⟩ : ∃ vv, val k ss W H = vv := ⟨_, rfl⟩
  have hcv : w2.cell? ⟨w1.heap.size, 2 + W * 65 + H, none⟩ = some (.int .i64 vv) := by
    rw [cell_of_row _ _ _ _ _ (0, 0) hblk, hsaw.cv W H (by omega) (by omega) (by omega), hvv]
  have Hvv := Lib.hid hvv
  clear hvv
  have hpl : w1.heap.size < w2.heap.size := (Array.getElem?_eq_some_iff.1 hblk).1
  have hS2 := hS1.below hb2
  have hsb : 0 < m → ∀ a, B = some a → a.block < w2.heap.size := fun h0 a ha => by
    obtain ⟨b, o, hB, hlt, _⟩ := hS2.2.2 h0
    rw [ha] at hB
    injection hB with hB
    subst hB
    exact hlt
  have hlen : 0 + 2 * (W * H) ≤ 100000 := by
    have := Nat.mul_le_mul (show W ≤ 64 by omega) (show H ≤ 64 by omega)
    omega
  go_upto_region 5 with fail
  go_cut [8, 9, 10] (fun s8 s9 s10 wx => ∃ v, s8 = v ∧ s9 = .int .i64 vv ∧ s10 = .int .i64 0 ∧ PlanRet wx w2.heap.size v (planL k ss W H) ∧ Below w2.heap.size w2 wx)
  case first =>
    have i1 : (W : Int) < 65 := by omega
    have i2 : (H : Int) < 65 := by omega
    have i3 : W < 65 := by omega
    have i4 : H < 65 := by omega
    go_region_held3 (fun w' => w'.cell? ⟨w1.heap.size, 2 + W * 65 + H, none⟩ = some (.int .i64 vv))
      (first | go_keep | exact ((hbp.cell (p := ⟨w1.heap.size, _, none⟩) hpl).trans hcv))
      (first | (go_at_call 39; refine (plan_any W H (by omega) (by omega) k ss hk0 hk8 hss (fun s hs => by have := Hok.out s hs; omega) B m d w1.heap.size w2.heap.size C hsaw hpl hsb (W + H) W H none 0 0 [] _ (Nat.le_refl _) (by omega) (Nat.le_refl _) (by omega) (Nat.le_refl _) (by exact hblk) (by exact hS2.drew) (by exact Nat.le_refl _) (by exact World.ownsRow_nil _ _ _ _) hlen).mono ?_; rintro e w' ⟨v, rfl, hpost⟩; have hbp : Below w2.heap.size w2.drew w' := ⟨hpost.g.os, hpost.g.tape, hpost.g.output, hpost.g.size, fun j hj => hpost.g.block j hj (by simp [Value.ownBlock])⟩))
    all_goals
      go_wp2_with fail
      go_meet
      exact ⟨_, rfl, rfl, rfl, (by have h := hpost.own; rw [Nat.zero_add] at h; exact h), ((Below.refl w2.heap.size w2).drew).trans hbp⟩
  case rest =>
    obtain ⟨v, hv8, hv9, hv10, hret, hbp⟩ := hcut
    subst hv8 hv9 hv10
    have hfin := hR.out (.returned (.tuple #[_, .int .i64 (val k ss W H), .int .i64 0])) wc ⟨_, rfl, own_base hret (Nat.le_trans hb.size hb2.size), (hb.trans (hb2.mono hb.size)).trans (hbp.mono (Nat.le_trans hb.size hb2.size))⟩
    rw [Hvv.out] at hfin
    have Hfin := Lib.hid hfin
    clear hfin
    go_wp2
    go_ret3
    exact Hfin.out
end Go.Proofs.Ytfkpioibinpfhaa
