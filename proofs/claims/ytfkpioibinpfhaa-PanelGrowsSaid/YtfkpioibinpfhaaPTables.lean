/-
  The contract of clavecinlaw08.PanelTables: true at every input.
-/
import Derived.Test.YtfkpioibinpfhaaPKit
import Derived.Test.YtfkpioibinpfhaaPTab
import Derived.Test.YtfkpioibinpfhaaSame
namespace Go.Proofs.Ytfkpioibinpfhaa
open Go.RowKit

theorem refTable_ok (W H k : Int) (B : Option Addr) (m d : Nat) (ss : List Shp) (w : World) (hS : SlE Shp.enc 4 w B m ss) (hp : panOk W H k ss = true) :
    Calls Try.prog 23 #[.int .i64 W, .int .i64 H, .int .i64 k, .slice B m d] w fun e w' => ∃ A c, e = .returned (.slice A W.toNat c) ∧ SlR w' A W.toNat (tabV k ss W.toNat H.toNat) ∧ Below w.heap.size w w' := by
  obtain ⟨h1, _, h3, _⟩ := panOk_ok hp
  obtain ⟨W', rfl⟩ : ∃ n : Nat, W = n := ⟨W.toNat, by omega⟩
  obtain ⟨H', rfl⟩ : ∃ n : Nat, H = n := ⟨H.toNat, by omega⟩
  exact refTable_any W' H' k B m d ss w hS hp
theorem SlR.drewN {w : World} {A : Option Addr} {n : Nat} {rows : List (List Int)} (h : SlR w A n rows) (q : Nat) : SlR (w.drewN q) A n rows := h
set_option maxRecDepth 100000 in
set_option maxHeartbeats 4000000 in
theorem tables_any (W H K : Int) (A : Option Addr) (n c : Nat) (ss : List Shp) (w : World) (hS : SlE Shp.enc 4 w A n ss) (hnc : n ≤ c) (hc : c ≤ 9223372036854775807) :
    Calls Try.prog 6 #[.agg #[.int .i64 W, .int .i64 H, .int .i64 K, .slice A n c]] w fun e w' => e = .returned (.bool true) ∧ Below w.heap.size w w' := by
  refine calls_cps ?_
  intro R hR
  obtain ⟨s1, es⟩ : ∃ s, ss.take 17 = s := ⟨_, rfl⟩
  obtain ⟨L, hL⟩ : ∃ L, s1.length = L := ⟨_, rfl⟩
  have hLm : L ≤ 17 := by rw [← hL, ← es, List.length_take]; omega
  obtain ⟨W1, eW⟩ : ∃ x, fewV W = x := ⟨_, rfl⟩
  obtain ⟨H1, eH⟩ : ∃ x, fewV H = x := ⟨_, rfl⟩
  have HL := Lib.hid hL
  have Hes := Lib.hid es
  have HW := Lib.hid eW
  have HH := Lib.hid eH
  clear hL es eW eH
  by_cases hp : panOk W1 H1 K s1 = true
  · have Hp := Lib.hid hp
    obtain ⟨hW1, hW2, hH1, hH2, hk0, hk8, hss, hok⟩ := panOk_ok hp
    have hWn : W1.toNat ≤ 64 := by omega
    have hHn : H1.toNat ≤ 64 := by omega
    obtain ⟨T, hT⟩ : ∃ T, tabV K s1 W1.toNat H1.toNat = T := ⟨_, rfl⟩
    obtain ⟨M, hM⟩ : ∃ M, W1.toNat = M := ⟨_, rfl⟩
    have hrl : ∀ r ∈ T, r.length ≤ 64 := by
      intro r hr
      rw [← hT] at hr
      simp only [tabV, List.mem_map, List.mem_range] at hr
      obtain ⟨a, _, rfl⟩ := hr
      rw [rowV_len]; exact hHn
    rw [hM] at hWn hT
    have Hrl := Lib.hid hrl
    have HT := Lib.hid hT
    have HM := Lib.hid hM
    clear hp hok hT hM hrl
    go_enter Try.func6, Try.ntmps6
    go_wp2_with fail
    refine (few_any _ _ _ _ _ _ ss _ (hS.alloc _) hnc hc).mono ?_
    rw [Hes.out, HL.out, HW.out, HH.out]
    rintro e w1 ⟨A1, c1, rfl, ho1, hb1⟩
    have hP := Pn.start (X := W1) (Y := H1) (K := K) ho1 HL.out hb1
    clear ho1 hb1
    go_wp2_with fail
    try clear q0 q1 q2 q3 q4
    refine (refCheck_any W1 H1 K A1 L c1 s1 _ hP.sl (by omega)).mono ?_
    rw [Hp.out]
    rintro e wq2 ⟨rfl, hb⟩
    have hP2 := hP.below hb
    obtain ⟨q0, q1, q2, q3, q4⟩ := cells4 hP2.box
    clear hb
    go_wp2_with fail
    refine (table_ok W1 H1 K A1 L c1 s1 _ hP2.sl Hp.out).mono ?_
    rw [HM.out, HT.out]
    rintro e w3 ⟨A3, c3, rfl, hs3, hb⟩
    have hP3 := hP2.below hb
    obtain ⟨q0, q1, q2, q3, q4⟩ := cells4 hP3.box
    clear hb
    go_wp2_with fail
    refine (check_any W1 H1 K A1 L c1 s1 _ hP3.sl (by omega)).mono ?_
    rw [Hp.out]
    rintro e w4 ⟨rfl, hb⟩
    have hs4 := hs3.below hb
    have hP4 := hP3.below hb
    obtain ⟨q0, q1, q2, q3, q4⟩ := cells4 hP4.box
    clear hb
    go_wp2_with fail
    refine (lives_any _).mono ?_
    rintro e w5 ⟨rfl, hb⟩
    have hs5 := hs4.below hb
    have hP5 := hP4.below hb
    obtain ⟨q0, q1, q2, q3, q4⟩ := cells4 hP5.box
    clear hb
    go_wp2_with fail
    refine (refTable_ok W1 H1 K A1 L c1 s1 _ hP5.sl Hp.out).mono ?_
    rw [HM.out, HT.out]
    rintro e w6 ⟨A6, c6, rfl, hs6, hb⟩
    have hs7 := hs5.below hb
    have hf7 := (hP5.below hb).bel
    clear hb hs3 hs4 hs5 hP hP2 hP3 hP4 hP5 q0 q1 q2 q3 q4
    go_wp2_with fail
    go_loopw [8] (fun i wr => ∃ (j : Nat), j ≤ M ∧ i = .int .i64 j ∧ Qt w6 wr) (fun i _ => M - (intOf i).toNat)
    case atStart => exact ⟨0, by omega, rfl, Qt.refl _⟩
    case round =>
      obtain ⟨j, hj, rfl, hq⟩ := hrel
      by_cases hlt : j < M
      · obtain ⟨b, o, r, Ai, ci, rfl, hbl, hr, e0, e1⟩ := (hq.slr hs7).at_ hlt
        obtain ⟨b', o', r', Ai', ci', rfl, hbl', hr', e0', e1'⟩ := (hq.slr hs6).at_ hlt
        obtain rfl : r = r' := by
          rw [hr] at hr'
          injection hr'
        have hl := Hrl.out r (List.mem_of_getElem? hr)
        clear hr hr'
        have i1 : (j : Int) < (M : Int) := by omega
        go_wp2_with fail
        go_quiet ((go_at_call 24; exact same_quietT _ _ _ _ _ _ _ _ e1 e1' (by omega)))
        go_wp2
        exact ⟨⟨j + 1, by omega, by go_num, hq.step _⟩, by simp [intOf]; omega⟩
      · go_wp2
        exact hR.out _ _ ⟨rfl, hf7.trans (hq.below.mono hf7.size)⟩
  · have Hp := Lib.hid (show panOk W1 H1 K s1 = false from by simpa using hp)
    clear hp
    go_enter Try.func6, Try.ntmps6
    go_wp2_with fail
    refine (few_any _ _ _ _ _ _ ss _ (hS.alloc _) hnc hc).mono ?_
    rw [Hes.out, HL.out, HW.out, HH.out]
    rintro e w1 ⟨A1, c1, rfl, ho1, hb1⟩
    have hP := Pn.start (X := W1) (Y := H1) (K := K) ho1 HL.out hb1
    clear ho1 hb1
    go_wp2_with fail
    try clear q0 q1 q2 q3 q4
    refine (refCheck_any W1 H1 K A1 L c1 s1 _ hP.sl (by omega)).mono ?_
    rw [Hp.out]
    rintro e wq2 ⟨rfl, hb⟩
    have hP2 := hP.below hb
    obtain ⟨q0, q1, q2, q3, q4⟩ := cells4 hP2.box
    clear hb
    go_wp2_with fail
    try clear q0 q1 q2 q3 q4
    refine (table_no W1 H1 K A1 L c1 s1 _ hP2.sl (by omega) Hp.out).mono ?_
    rintro e wq3 ⟨rfl, hb⟩
    have hP3 := hP2.below hb
    obtain ⟨q0, q1, q2, q3, q4⟩ := cells4 hP3.box
    clear hb
    go_wp2_with fail
    try clear q0 q1 q2 q3 q4
    refine (check_any W1 H1 K A1 L c1 s1 _ hP3.sl (by omega)).mono ?_
    rw [Hp.out]
    rintro e wq4 ⟨rfl, hb⟩
    have hP4 := hP3.below hb
    obtain ⟨q0, q1, q2, q3, q4⟩ := cells4 hP4.box
    clear hb
    go_wp2_with fail
    refine (lives_any _).mono ?_
    rintro e w6 ⟨rfl, hb6⟩
    have hf6 := (hP4.below hb6).bel
    clear hb6
    go_wp2
    exact hR.out _ _ ⟨rfl, hf6⟩
end Go.Proofs.Ytfkpioibinpfhaa
