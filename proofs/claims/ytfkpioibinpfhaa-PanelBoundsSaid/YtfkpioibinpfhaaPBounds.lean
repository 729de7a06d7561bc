/-
  The contract of clavecinlaw08.PanelBounds: true at every input.
-/
import Derived.Test.YtfkpioibinpfhaaPCeiling
import Derived.Test.YtfkpioibinpfhaaPSheetR
namespace Go.Proofs.Ytfkpioibinpfhaa
open Go.RowKit

theorem app_below {wc w3 : World} {o : Obj} {b : Nat} (hb : b = wc.heap.size) (hg : (wc.alloc o).grownBy w3 (some b)) : Below wc.heap.size wc w3 :=
  (below_new wc o).grown hg (by simp) (fun k hk => by injection hk with hk; omega)
set_option maxRecDepth 100000 in
set_option maxHeartbeats 4000000 in
theorem bounds_any (W H K : Int) (A B : Option Addr) (n c m d : Nat) (ss : List Shp) (ns : List Int) (w : World) (hS : SlE Shp.enc 4 w A n ss) (hN : SlE intE 1 w B m ns) (hnc : n ≤ c) (hc : c ≤ 9223372036854775807) (hmd : m ≤ d) (hd : d ≤ 9223372036854775807) :
    Calls Try.prog 9 #[.agg #[.int .i64 W, .int .i64 H, .int .i64 K, .slice A n c], .slice B m d] w fun e w' => e = .returned (.bool true) ∧ Below w.heap.size w w' := by
  refine calls_cps ?_
  intro R hR
  obtain ⟨s1, es⟩ : ∃ s, ss.take 17 = s := ⟨_, rfl⟩
  obtain ⟨L, hL⟩ : ∃ L, s1.length = L := ⟨_, rfl⟩
  have hLm : L ≤ 17 := by rw [← hL, ← es, List.length_take]; omega
  obtain ⟨W1, eW⟩ : ∃ x, fewV W = x := ⟨_, rfl⟩
  obtain ⟨H1, eH⟩ : ∃ x, fewV H = x := ⟨_, rfl⟩
  have HL := Lib.hid hL
  have Hes := Lib.hid es
  have HW := Lib.hid eW
  have HH := Lib.hid eH
  clear hL es eW eH
  go_enter Try.func9, Try.ntmps9
  go_wp2_with fail
  refine (few_any _ _ _ _ _ _ ss _ (hS.alloc _) hnc hc).mono ?_
  rw [Hes.out, HL.out, HW.out, HH.out]
  rintro e w1 ⟨A1, c1, rfl, ho1, hb1⟩
  have hP := Pn.start (X := W1) (Y := H1) (K := K) ho1 HL.out hb1
  clear ho1 hb1
  have hN1 := (hN.below hP.bel)
  obtain ⟨ns2, hns2⟩ : ∃ l, ns.take 20 = l := ⟨_, rfl⟩
  have Hns2 := Lib.hid hns2
  clear hns2
  go_upto_if 18 with fail
  go_cut [1] (fun sx wx => ∃ m' d', sx = .slice B m' d' ∧ m' ≤ 20 ∧ m' ≤ d' ∧ d' ≤ 9223372036854775807 ∧ SlE intE 1 wx B m' ns2 ∧ Pn w wx w1.heap.size W1 H1 K A1 c1 L s1)
  case first =>
    by_cases hm : 20 < m
    · have hq := Lib.hid (SlE.cut intE_len hN1 (k := 20) (by omega))
      rw [Hns2.out] at hq
      go_wp2
      go_meet
      exact ⟨_, _, rfl, by omega, by omega, by omega, hq.out, hP⟩
    · have hq := Lib.hid hN1
      rw [show ns = ns2 by rw [← Hns2.out, List.take_of_length_le (by rw [← hN.1]; omega)]] at hq
      go_wp2
      go_meet
      exact ⟨_, _, rfl, by omega, by omega, by omega, hq.out, hP⟩
  case rest =>
    clear hP hN1
    obtain ⟨m', d', hc1, hm', hmd', hd', hN2, hP⟩ := hcut
    subst hc1
    go_wp2_with (at_builtin; refine wpList_app rfl (.tmp 21) (.tmp 22) _ rfl elemInt wc.heap.size _ _ _ rfl (own_new _ _ _ 1 0 _ (by simp) (Nat.le_refl _) (by unfold maxLen; omega)) _ _ _ _ rfl (hN2.2.alloc _) (int_one _) (by unfold maxLen; omega) (by omega) (by simp) ?_; intro A3 c3 w3 ho3 hg3 _; rw [Nat.zero_add, List.nil_append] at ho3; have hP3 := hP.below (app_below rfl hg3); obtain ⟨q0, q1, q2, q3, q4⟩ := cells4 hP3.box; have hl3 := SlE.of_own ho3 hN2.1; clear hg3 ho3)
    have hm3 : m' ≤ 9223372036854775807 := by omega
    have hpE : ∀ p, sheetE p W1 H1 s1 ns2 = sheetE p W1 H1 s1 ns2 := fun _ => rfl
    by_cases hp : panOk W1 H1 K s1 = true
    · have Hp := Lib.hid hp
      obtain ⟨u, hu⟩ : ∃ u, ceilV W1 H1 s1 = u := ⟨_, rfl⟩
      obtain ⟨v, hv⟩ : ∃ v, sheetV true W1 H1 s1 ns2 = v := ⟨_, rfl⟩
      obtain ⟨x, hx⟩ : ∃ x, sheetE true W1 H1 s1 ns2 = x := ⟨_, rfl⟩
      have HU := Lib.hid hu
      have HV := Lib.hid hv
      have HX := Lib.hid hx
      clear hp hpE hu hv hx
      refine (ceiling_ok W1 H1 K A1 L c1 s1 _ hP3.sl Hp.out).mono ?_
      rw [HU.out]
      rintro e w4 ⟨rfl, hb4⟩
      have hP4 := hP3.below hb4
      have hl4 := hl3.below hb4
      obtain ⟨q0, q1, q2, q3, q4⟩ := cells4 hP4.box
      go_wp2_with fail
      refine (sheets_any W1 H1 K A1 A3 L c1 m' c3 s1 ns2 _ hP4.sl hl4 (by omega) (by omega)).mono ?_
      rw [Hp.out, HV.out, HX.out]
      rintro e w5 ⟨rfl, hb5⟩
      have hP5 := hP4.below hb5
      have hl5 := hl4.below hb5
      obtain ⟨q0, q1, q2, q3, q4⟩ := cells4 hP5.box
      go_wp2_with fail
      refine (refCheck_any W1 H1 K A1 L c1 s1 _ hP5.sl (by omega)).mono ?_
      rw [Hp.out]
      rintro e w6 ⟨rfl, hb6⟩
      have hP6 := hP5.below hb6
      have hl6 := hl5.below hb6
      obtain ⟨q0, q1, q2, q3, q4⟩ := cells4 hP6.box
      go_wp2_with fail
      refine (refSheets_any W1 H1 K A1 A3 L c1 m' c3 s1 ns2 _ hP6.sl hl6 Hp.out (by omega)).mono ?_
      rw [HV.out, HX.out]
      rintro e w7 ⟨rfl, hb7⟩
      have hP7 := hP6.below hb7
      obtain ⟨q0, q1, q2, q3, q4⟩ := cells4 hP7.box
      go_wp2_with fail
      refine (refCeiling_any W1 H1 K A1 L c1 s1 _ hP7.sl Hp.out).mono ?_
      rw [HU.out]
      rintro e w8 ⟨rfl, hb8⟩
      have hP8 := hP7.below hb8
      go_wp2_with fail
      refine (lives_any _).mono ?_
      rintro e w6 ⟨rfl, hb6⟩
      have hf6 := (hP8.below hb6).bel
      clear hb6
      go_wp2
      exact hR.out _ _ ⟨rfl, hf6⟩
    · have Hp := Lib.hid (show panOk W1 H1 K s1 = false from by simpa using hp)
      clear hp hpE
      refine (ceiling_no W1 H1 K A1 L c1 s1 _ hP3.sl (by omega) Hp.out).mono ?_
      rintro e w4 ⟨rfl, hb4⟩
      have hP4 := hP3.below hb4
      have hl4 := hl3.below hb4
      obtain ⟨q0, q1, q2, q3, q4⟩ := cells4 hP4.box
      go_wp2_with fail
      refine (sheets_any W1 H1 K A1 A3 L c1 m' c3 s1 ns2 _ hP4.sl hl4 (by omega) (by omega)).mono ?_
      rw [Hp.out, show sheetV false W1 H1 s1 ns2 = 0 from rfl, show sheetE false W1 H1 s1 ns2 = 1 from rfl]
      rintro e w5 ⟨rfl, hb5⟩
      have hP5 := hP4.below hb5
      obtain ⟨q0, q1, q2, q3, q4⟩ := cells4 hP5.box
      go_wp2_with fail
      refine (refCheck_any W1 H1 K A1 L c1 s1 _ hP5.sl (by omega)).mono ?_
      rw [Hp.out]
      rintro e w6 ⟨rfl, hb6⟩
      have hP6 := hP5.below hb6
      go_wp2_with fail
      refine (lives_any _).mono ?_
      rintro e w6 ⟨rfl, hb6⟩
      have hf6 := (hP6.below hb6).bel
      clear hb6
      go_wp2
      exact hR.out _ _ ⟨rfl, hf6⟩
end Go.Proofs.Ytfkpioibinpfhaa
