/-
  The contract of clavecinlaw08.PanelOptimal: true at every input.
-/
import Derived.Test.YtfkpioibinpfhaaPKit
import Derived.Test.YtfkpioibinpfhaaPCounts
import Derived.Test.YtfkpioibinpfhaaPBrief
namespace Go.Proofs.Ytfkpioibinpfhaa
open Go.RowKit

theorem fewV_20 {x : Int} (h : fewV x ≤ 64) : fewV x ≤ 20 := by
  unfold fewV at *
  split at h <;> split <;> omega
theorem plan_1000 {W H k : Int} {ss : List Shp} (hk : 0 ≤ k) (hw : 1 ≤ W ∧ W ≤ 20) (hh : 1 ≤ H ∧ H ≤ 20) : (planL k ss W H).length ≤ 1000 := by
  have h1 := planL_len k ss hk _ W H (Nat.le_refl _) hw.1 hh.1
  have h2 : W * H ≤ 20 * 20 := Int.mul_le_mul hw.2 hh.2 (by omega) (by omega)
  omega
set_option maxRecDepth 100000 in
set_option maxHeartbeats 4000000 in
theorem optimal_any (W H K : Int) (A : Option Addr) (n c : Nat) (ss : List Shp) (Ay : Option Addr) (ny cy : Nat) (ly : Cuts) (w : World) (hS : SlE Shp.enc 4 w A n ss) (hnc : n ≤ c) (hc : c ≤ 9223372036854775807) (hY : SlE cutE 2 w Ay ny ly) (hny : ny ≤ cy) (hcy : cy ≤ 9223372036854775807) :
    Calls Try.prog 11 #[.agg #[.int .i64 W, .int .i64 H, .int .i64 K, .slice A n c], .slice Ay ny cy] w fun e w' => e = .returned (.bool true) ∧ Below w.heap.size w w' := by
  refine calls_cps ?_
  intro R hR
  obtain ⟨s1, es⟩ : ∃ s, ss.take 17 = s := ⟨_, rfl⟩
  obtain ⟨L, hL⟩ : ∃ L, s1.length = L := ⟨_, rfl⟩
  have hLm : L ≤ 17 := by rw [← hL, ← es, List.length_take]; omega
  obtain ⟨W1, eW⟩ : ∃ x, fewV W = x := ⟨_, rfl⟩
  obtain ⟨H1, eH⟩ : ∃ x, fewV H = x := ⟨_, rfl⟩
  have HL := Lib.hid hL
  have Hes := Lib.hid es
  have HW := Lib.hid eW
  have HH := Lib.hid eH
  clear hL es eW eH
  obtain ⟨l2, hl2⟩ : ∃ l, ly.take 300 = l := ⟨_, rfl⟩
  obtain ⟨Ly, hLy⟩ : ∃ L, l2.length = L := ⟨_, rfl⟩
  have hLy3 : Ly ≤ 300 := by rw [← hLy, ← hl2, List.length_take]; omega
  have Hl2 := Lib.hid hl2
  have HLy := Lib.hid hLy
  clear hl2 hLy
  by_cases hp : panOk W1 H1 K s1 = true
  · have Hp := Lib.hid hp
    obtain ⟨hW1, hW2, hH1, hH2, hk0, hk8, hss, hok⟩ := panOk_ok hp
    have hW20 : W1 ≤ 20 := by rw [← HW.out] at hW2 ⊢; exact fewV_20 hW2
    have hH20 : H1 ≤ 20 := by rw [← HH.out] at hH2 ⊢; exact fewV_20 hH2
    obtain ⟨v, hv⟩ : ∃ v, val K s1 W1 H1 = v := ⟨_, rfl⟩
    obtain ⟨pl, hpl⟩ : ∃ l, planL K s1 W1 H1 = l := ⟨_, rfl⟩
    obtain ⟨Lp, hLp⟩ : ∃ L, pl.length = L := ⟨_, rfl⟩
    have hLp3 : Lp ≤ 1000 := by rw [← hLp, ← hpl]; exact plan_1000 hk0 ⟨hW1, hW20⟩ ⟨hH1, hH20⟩
    have hb0 : worthO s1 (planOut K s1 W1 H1 pl) = v ∧ outE (planOut K s1 W1 H1 pl) = 0 := by
      obtain ⟨p, h1, h2⟩ := planOut_best K s1 hk0 W1 H1 hW1 hH1
      rw [hpl] at h1
      rw [h1, ← hv]
      exact ⟨h2, rfl⟩
    obtain ⟨u, hu⟩ : ∃ v, worthO s1 (planOut K s1 W1 H1 l2) = v := ⟨_, rfl⟩
    obtain ⟨x, hx⟩ : ∃ v, outE (planOut K s1 W1 H1 l2) = v := ⟨_, rfl⟩
    have hux : x = 2 ∨ (x = 0 ∧ u ≤ v) := by
      cases hq : planOut K s1 W1 H1 l2 with
      | none => left; rw [← hx, hq]; rfl
      | some p =>
        right
        rw [← hx, ← hu, hq, ← hv]
        exact ⟨rfl, (planOut_Rd hq).worth hk0 hW1 hH1⟩
    have HB1 := Lib.hid hb0.1
    have HB2 := Lib.hid hb0.2
    have HV := Lib.hid hv
    have HPL := Lib.hid hpl
    have HLP := Lib.hid hLp
    have HU := Lib.hid hu
    have HX := Lib.hid hx
    clear hp hok hv hpl hLp hb0 hu hx
    go_enter Try.func11, Try.ntmps11
    go_wp2_with fail
    refine (few_any _ _ _ _ _ _ ss _ (hS.alloc _) hnc hc).mono ?_
    rw [Hes.out, HL.out, HW.out, HH.out]
    rintro e w1 ⟨A1, c1, rfl, ho1, hb1⟩
    have hf1 : Below w.heap.size w w1 := (below_new w _).trans (hb1.mono (by simp))
    have hs1 := SlE.of_own ho1 HL.out.symm
    have hY1 := hY.below hf1
    clear ho1 hb1
    go_wp2_with fail
    refine (brief_any Ay ny cy ly _ hY1 hny hcy).mono ?_
    rw [Hl2.out, HLy.out]
    rintro e w2 ⟨A2, c2, rfl, hn2, hc2, ho2, hb⟩
    have hP : Pn w (w2.alloc (.cells #[.int .i64 W1, .int .i64 H1, .int .i64 K, .slice A1 L c1] 24)) w2.heap.size W1 H1 K A1 c1 L s1 :=
      ⟨(hs1.below hb).alloc _, heap_alloc_new w2 _, (hf1.trans (hb.mono hf1.size)).alloc (Nat.le_trans hf1.size hb.size) _⟩
    have hs2 := (SlE.of_own ho2 HLy.out.symm).alloc (.cells #[.int .i64 W1, .int .i64 H1, .int .i64 K, .slice A1 L c1] 24)
    clear hb ho2 hf1 hs1 hY1
    go_wp2_with fail
    try clear q0 q1 q2 q3 q4
    refine (best_ok W1 H1 K A1 L c1 s1 _ hP.sl Hp.out).mono ?_
    rw [HV.out, HPL.out]
    rintro e w3 ⟨vp, rfl, hret, hb⟩
    obtain ⟨A3, c3, rfl, hn3, hc3, ho3⟩ := own_slice hret
    rw [HLP.out] at hn3 ho3 ⊢
    have hP3 := hP.below hb
    have hs3 := hs2.below hb
    have hs4 := SlE.of_own ho3 HLP.out.symm
    obtain ⟨q0, q1, q2, q3, q4⟩ := cells4 hP3.box
    clear hb ho3 hret hP hs2
    go_wp2_with fail
    try clear q0 q1 q2 q3 q4
    refine (refCheck_any W1 H1 K A1 L c1 s1 _ hP3.sl (by omega)).mono ?_
    rw [Hp.out]
    rintro e w4 ⟨rfl, hb⟩
    have hP4 := hP3.below hb
    have hs5 := hs3.below hb
    have hs6 := hs4.below hb
    obtain ⟨q0, q1, q2, q3, q4⟩ := cells4 hP4.box
    clear hb hP3 hs3 hs4
    go_wp2_with fail
    try clear q0 q1 q2 q3 q4
    refine (worth_ok W1 H1 K A1 A3 L c1 Lp c3 s1 pl _ hP4.sl hs6 hn3 (by unfold maxLen at hc3; omega) hLp3 Hp.out).mono ?_
    rw [HB1.out, HB2.out]
    rintro e w5 ⟨rfl, hb⟩
    have hP5 := hP4.below hb
    have hs7 := hs5.below hb
    obtain ⟨q0, q1, q2, q3, q4⟩ := cells4 hP5.box
    clear hb hP4 hs5 hs6
    go_wp2_with fail
    try clear q0 q1 q2 q3 q4
    refine (worth_ok W1 H1 K A1 A2 L c1 Ly c2 s1 l2 _ hP5.sl hs7 hn2 (by unfold maxLen at hc2; omega) (by omega) Hp.out).mono ?_
    rw [HU.out, HX.out]
    rintro e w6 ⟨rfl, hb⟩
    have hP6 := hP5.below hb
    clear hb hP5 hs7
    rcases hux with rfl | ⟨rfl, huv⟩
    all_goals
      go_wp2_with fail
      refine (lives_any _).mono ?_
      rintro e w7 ⟨rfl, hb6⟩
      have hf6 := (hP6.below hb6).bel
      clear hb6
      go_wp2
      exact hR.out _ _ ⟨rfl, hf6⟩
  · have Hp := Lib.hid (show panOk W1 H1 K s1 = false from by simpa using hp)
    clear hp
    go_enter Try.func11, Try.ntmps11
    go_wp2_with fail
    refine (few_any _ _ _ _ _ _ ss _ (hS.alloc _) hnc hc).mono ?_
    rw [Hes.out, HL.out, HW.out, HH.out]
    rintro e w1 ⟨A1, c1, rfl, ho1, hb1⟩
    have hf1 : Below w.heap.size w w1 := (below_new w _).trans (hb1.mono (by simp))
    have hs1 := SlE.of_own ho1 HL.out.symm
    have hY1 := hY.below hf1
    clear ho1 hb1
    go_wp2_with fail
    refine (brief_any Ay ny cy ly _ hY1 hny hcy).mono ?_
    rw [Hl2.out, HLy.out]
    rintro e w2 ⟨A2, c2, rfl, hn2, hc2, ho2, hb⟩
    have hP : Pn w (w2.alloc (.cells #[.int .i64 W1, .int .i64 H1, .int .i64 K, .slice A1 L c1] 24)) w2.heap.size W1 H1 K A1 c1 L s1 :=
      ⟨(hs1.below hb).alloc _, heap_alloc_new w2 _, (hf1.trans (hb.mono hf1.size)).alloc (Nat.le_trans hf1.size hb.size) _⟩
    have hs2 := (SlE.of_own ho2 HLy.out.symm).alloc (.cells #[.int .i64 W1, .int .i64 H1, .int .i64 K, .slice A1 L c1] 24)
    clear hb ho2 hf1 hs1 hY1
    go_wp2_with fail
    try clear q0 q1 q2 q3 q4
    refine (best_no W1 H1 K A1 L c1 s1 _ hP.sl (by omega) Hp.out).mono ?_
    rintro e wq2 ⟨rfl, hb⟩
    have hP2 := hP.below hb
    obtain ⟨q0, q1, q2, q3, q4⟩ := cells4 hP2.box
    clear hb
    go_wp2_with fail
    try clear q0 q1 q2 q3 q4
    refine (refCheck_any W1 H1 K A1 L c1 s1 _ hP2.sl (by omega)).mono ?_
    rw [Hp.out]
    rintro e wq3 ⟨rfl, hb⟩
    have hP3 := hP2.below hb
    obtain ⟨q0, q1, q2, q3, q4⟩ := cells4 hP3.box
    clear hb
    go_wp2_with fail
    refine (lives_any _).mono ?_
    rintro e w6 ⟨rfl, hb6⟩
    have hf6 := (hP3.below hb6).bel
    clear hb6
    go_wp2
    exact hR.out _ _ ⟨rfl, hf6⟩
end Go.Proofs.Ytfkpioibinpfhaa
