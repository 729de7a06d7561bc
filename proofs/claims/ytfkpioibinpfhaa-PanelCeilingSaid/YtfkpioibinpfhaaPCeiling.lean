/-
  The contracts of clavecinlaw08.PanelCeiling and PanelBounds: true at every input.
-/
import Derived.Test.YtfkpioibinpfhaaPKit
import Derived.Test.YtfkpioibinpfhaaPSheetW
namespace Go.Proofs.Ytfkpioibinpfhaa
open Go.RowKit

set_option maxRecDepth 100000 in
set_option maxHeartbeats 4000000 in
theorem ceilLaw_any (W H K : Int) (A : Option Addr) (n c : Nat) (ss : List Shp) (w : World) (hS : SlE Shp.enc 4 w A n ss) (hnc : n ≤ c) (hc : c ≤ 9223372036854775807) :
    Calls Try.prog 8 #[.agg #[.int .i64 W, .int .i64 H, .int .i64 K, .slice A n c]] w fun e w' => e = .returned (.bool true) ∧ Below w.heap.size w w' := by
  refine calls_cps ?_
  intro R hR
  obtain ⟨s1, es⟩ : ∃ s, ss.take 17 = s := ⟨_, rfl⟩
  obtain ⟨L, hL⟩ : ∃ L, s1.length = L := ⟨_, rfl⟩
  have hLm : L ≤ 17 := by rw [← hL, ← es, List.length_take]; omega
  obtain ⟨W1, eW⟩ : ∃ x, fewV W = x := ⟨_, rfl⟩
  obtain ⟨H1, eH⟩ : ∃ x, fewV H = x := ⟨_, rfl⟩
  have HL := Lib.hid hL
  have Hes := Lib.hid es
  have HW := Lib.hid eW
  have HH := Lib.hid eH
  clear hL es eW eH
  by_cases hp : panOk W1 H1 K s1 = true
  · have Hp := Lib.hid hp
    have hok := panOk_ok hp
    have Hok := Lib.hid hok
    obtain ⟨v, hv⟩ : ∃ v, val K s1 W1 H1 = v := ⟨_, rfl⟩
    obtain ⟨u, hu⟩ : ∃ u, ceilV W1 H1 s1 = u := ⟨_, rfl⟩
    have hv0 : 0 ≤ v := by rw [← hv]; exact val_nonneg _ _ _ _
    have huv : v ≤ u := by rw [← hv, ← hu]; exact val_ceil K s1 hok.2.2.2.2.1 ⟨hok.1, hok.2.1⟩ ⟨hok.2.2.1, hok.2.2.2.1⟩ hok.2.2.2.2.2.2.2
    have HV := Lib.hid hv
    have HU := Lib.hid hu
    clear hp hok hv hu
    go_enter Try.func8, Try.ntmps8
    go_wp2_with fail
    refine (few_any _ _ _ _ _ _ ss _ (hS.alloc _) hnc hc).mono ?_
    rw [Hes.out, HL.out, HW.out, HH.out]
    rintro e w1 ⟨A1, c1, rfl, ho1, hb1⟩
    have hP := Pn.start (X := W1) (Y := H1) (K := K) ho1 HL.out hb1
    clear ho1 hb1
    go_wp2_with fail
    refine (best_ok W1 H1 K A1 L c1 s1 _ hP.sl Hp.out).mono ?_
    rw [HV.out]
    rintro e w2 ⟨vp, rfl, _, hb2⟩
    have hP2 := hP.below hb2
    obtain ⟨q0, q1, q2, q3, q4⟩ := cells4 hP2.box
    clear hb2
    go_wp2_with fail
    refine (ceiling_ok W1 H1 K A1 L c1 s1 _ hP2.sl Hp.out).mono ?_
    rw [HU.out]
    rintro e w3 ⟨rfl, hb3⟩
    have hP3 := hP2.below hb3
    obtain ⟨q0, q1, q2, q3, q4⟩ := cells4 hP3.box
    clear hb3
    go_wp2_with fail
    refine (refCheck_any W1 H1 K A1 L c1 s1 _ hP3.sl (by omega)).mono ?_
    rw [Hp.out]
    rintro e w4 ⟨rfl, hb4⟩
    have hP4 := hP3.below hb4
    clear hb4
    go_wp2_with fail
    go_loopw [9] (fun i wr => ∃ (j : Nat), j ≤ L ∧ i = .int .i64 j ∧ Pn w wr w1.heap.size W1 H1 K A1 c1 L s1) (fun i _ => L - (intOf i).toNat)
    case atStart => exact ⟨0, by omega, rfl, hP4⟩
    case round =>
      clear hP hP2 hP3 hP4 q0 q1 q2 q3 q4
      obtain ⟨j, hj, rfl, hP⟩ := hrel
      obtain ⟨q0, q1, q2, q3, q4⟩ := cells4 hP.box
      by_cases hlt : j < L
      · obtain ⟨b, o, s, rfl, hbl, hs, c0, c1, c2, c3⟩ := hP.sl.at4 hlt
        have hsm := List.mem_of_getElem? hs
        obtain ⟨⟨a1, a2⟩, ⟨b1, b2⟩, v1, v2⟩ := Hok.out.2.2.2.2.2.2.2 s hsm
        have hfit := Lib.hid (fun h1 h2 => val_fit (k := K) Hok.out.2.2.2.2.1 hsm a1 b1 (W := W1) (H := H1) h1 h2)
        rw [HV.out] at hfit
        have Hs := Lib.hid hs
        have hlt4 := hP.lt
        clear hs hsm
        by_cases f1 : s.W ≤ W1
        · by_cases f2 : s.H ≤ H1
          · have f3 : s.V ≤ v := hfit.out f1 f2
            go_wp2
            exact ⟨⟨j + 1, by omega, by go_num, hP.alloc _⟩, by simp [intOf]; omega⟩
          · go_wp2
            exact ⟨⟨j + 1, by omega, by go_num, hP.alloc _⟩, by simp [intOf]; omega⟩
        · go_wp2
          exact ⟨⟨j + 1, by omega, by go_num, hP.alloc _⟩, by simp [intOf]; omega⟩
      · go_wp2_with fail
        refine (lives_any _).mono ?_
        rintro e w6 ⟨rfl, hb6⟩
        have hf6 := (hP.below hb6).bel
        clear hb6
        go_wp2
        exact hR.out _ _ ⟨rfl, hf6⟩
  · have Hp := Lib.hid (show panOk W1 H1 K s1 = false from by simpa using hp)
    clear hp
    go_enter Try.func8, Try.ntmps8
    go_wp2_with fail
    refine (few_any _ _ _ _ _ _ ss _ (hS.alloc _) hnc hc).mono ?_
    rw [Hes.out, HL.out, HW.out, HH.out]
    rintro e w1 ⟨A1, c1, rfl, ho1, hb1⟩
    have hP := Pn.start (X := W1) (Y := H1) (K := K) ho1 HL.out hb1
    clear ho1 hb1
    go_wp2_with fail
    refine (best_no W1 H1 K A1 L c1 s1 _ hP.sl (by omega) Hp.out).mono ?_
    rintro e w2 ⟨rfl, hb2⟩
    have hP2 := hP.below hb2
    obtain ⟨q0, q1, q2, q3, q4⟩ := cells4 hP2.box
    clear hb2
    go_wp2_with fail
    refine (ceiling_no W1 H1 K A1 L c1 s1 _ hP2.sl (by omega) Hp.out).mono ?_
    rintro e w3 ⟨rfl, hb3⟩
    have hP3 := hP2.below hb3
    obtain ⟨q0, q1, q2, q3, q4⟩ := cells4 hP3.box
    clear hb3
    go_wp2_with fail
    refine (refCheck_any W1 H1 K A1 L c1 s1 _ hP3.sl (by omega)).mono ?_
    rw [Hp.out]
    rintro e w4 ⟨rfl, hb4⟩
    have hP4 := hP3.below hb4
    clear hb4
    go_wp2_with fail
    refine (lives_any _).mono ?_
    rintro e w6 ⟨rfl, hb6⟩
    have hf6 := (hP4.below hb6).bel
    clear hb6
    go_wp2
    exact hR.out _ _ ⟨rfl, hf6⟩
end Go.Proofs.Ytfkpioibinpfhaa
