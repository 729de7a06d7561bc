/-
  The contract of clavecinref08.Best: the plan that the document names and its value; condition: the panel is valid.
-/
import Derived.Test.YtfkpioibinpfhaaPRPlan
import Derived.Deep.RegionHeld3
namespace Go.Proofs.Ytfkpioibinpfhaa
open Go.RowKit

theorem SlR.drew {W : World} {A : Option Addr} {n : Nat} {rows : List (List Int)} (h : SlR W A n rows) : SlR W.drew A n rows := h
theorem SlE.drew {α : Type} {enc : α → List Value} {sz : Nat} {W : World} {A : Option Addr} {n : Nat} {l : List α} (h : SlE enc sz W A n l) : SlE enc sz W.drew A n l := h
set_option maxRecDepth 100000 in
set_option maxHeartbeats 4000000 in
theorem refBest_any (W H : Nat) (k : Int) (B : Option Addr) (m d : Nat) (ss : List Shp) (w : World) (hS : SlE Shp.enc 4 w B m ss) (hp : panOk W H k ss = true) :
    Calls Try.prog 19 #[.int .i64 W, .int .i64 H, .int .i64 k, .slice B m d] w fun e w' => ∃ v, e = .returned (.tuple #[v, .int .i64 (val k ss W H)]) ∧ PlanRet w' w.heap.size v (planL k ss W H) ∧ Below w.heap.size w w' := by
  refine calls_cps ?_
  intro R hR
  obtain ⟨hW1, hW2, hH1, hH2, hk0, hk8, hss, hok⟩ := panOk_ok hp
  obtain ⟨i1, rfl⟩ : ∃ i1 : Nat, W = i1 + 1 := ⟨W - 1, by omega⟩
  obtain ⟨j1, rfl⟩ : ∃ j1 : Nat, H = j1 + 1 := ⟨H - 1, by omega⟩
  have Hp := Lib.hid hp
  have Hok := Lib.hid hok
  clear hok hp
  go_enter Try.func19, Try.ntmps19
  go_wp2_with (go_at_call 23; refine (refTable_any _ _ _ _ _ _ ss _ hS Hp.out).mono ?_; rintro e w1 ⟨A, c, rfl, hT, hb⟩)
  obtain ⟨b, o, b2, o2, ci, rfl, hi1W, hj1r, q0, q1⟩ := slr_at hT (tabV_get k ss (i1 + 1) (j1 + 1) i1 (by omega)) (rowV_get k ss (j1 + 1) i1 j1 (by omega))
  rw [rowV_len] at q0 hj1r
  have hS1 := hS.below hb
  have hbl : b < w1.heap.size := World.block_lt_of_cell? w1 _ q0
  have hbl2 : b2 < w1.heap.size := World.block_lt_of_cell? w1 _ q1
  obtain ⟨vv, hvv⟩ : ∃ vv, val k ss ((i1 : Int) + 1) ((j1 : Int) + 1) = vv := ⟨_, rfl⟩
  rw [hvv] at q1
  have Hvv := Lib.hid hvv
  clear hvv
  go_upto_region 2 with fail
  go_cut [8, 9] (fun s8 s9 wx => ∃ v, s8 = v ∧ s9 = .int .i64 vv ∧ PlanRet wx w1.heap.size v (planL k ss ((i1 : Int) + 1) ((j1 : Int) + 1)) ∧ Below w1.heap.size w1 wx)
  case first =>
    have hwi : IntKind.i64.wrap (i1 : Int) = i1 := IntWalk.i64_in _ (by omega)
    have hwj : IntKind.i64.wrap (j1 : Int) = j1 := IntWalk.i64_in _ (by omega)
    have hx1 : (i1 : Int) < (i1 : Int) + 1 := by omega
    have hx2 : (j1 : Int) < (j1 : Int) + 1 := by omega
    go_region_held3 (fun w' => w'.cell? ⟨b, o + i1, none⟩ = some (.slice (some ⟨b2, o2, none⟩) (j1 + 1) ci) ∧ w'.cell? ⟨b2, o2 + j1, none⟩ = some (.int .i64 vv))
      (first | go_keep | exact ⟨(hbp.cell (p := ⟨b, _, none⟩) hbl).trans q0, (hbp.cell (p := ⟨b2, _, none⟩) hbl2).trans q1⟩)
      (first | (go_at_call 41; refine (refPlan_any (i1 + 1) (j1 + 1) (by omega) (by omega) k ss hk0 hk8 hss (fun s hs => by have := Hok.out s hs; omega) _ _ _ _ _ _ _ _ _ (Nat.le_refl _) (by exact hT.drew) (by exact hS1.drew) (by omega) (by omega) (by omega) (by omega)).mono ?_; rintro e w' ⟨v, rfl, hret, hbp⟩))
    all_goals
      go_wp2_with fail
      go_meet
      exact ⟨_, rfl, rfl, hret, ((Below.refl w1.heap.size w1).drew).trans hbp⟩
  case rest =>
    obtain ⟨v, hv8, hv9, hret, hbp⟩ := hcut
    subst hv8 hv9
    have hfin := hR.out (.returned (.tuple #[_, .int .i64 (val k ss ((i1 : Int) + 1) ((j1 : Int) + 1))])) wc ⟨_, rfl, own_base hret hb.size, hb.trans (hbp.mono hb.size)⟩
    rw [Hvv.out] at hfin
    have Hfin := Lib.hid hfin
    clear hfin
    go_wp2
    exact Hfin.out
end Go.Proofs.Ytfkpioibinpfhaa
