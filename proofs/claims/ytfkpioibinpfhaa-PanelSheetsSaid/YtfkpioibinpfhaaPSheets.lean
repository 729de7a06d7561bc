/-
  The contract of clavecinlaw08.PanelSheets: true at every input.
-/
import Derived.Test.YtfkpioibinpfhaaPOptimal
import Derived.Test.YtfkpioibinpfhaaPSheetL
import Derived.Laws.OwnMore
namespace Go.Proofs.Ytfkpioibinpfhaa
open Go.RowKit

set_option maxRecDepth 100000 in
set_option maxHeartbeats 4000000 in
theorem sheets_holds (W H K : Int) (A : Option Addr) (n c : Nat) (ss : List Shp) (Ay : Option Addr) (ny cy : Nat) (ly : Cuts) (times : Int) (w : World) (hS : SlE Shp.enc 4 w A n ss) (hnc : n ≤ c) (hc : c ≤ 9223372036854775807) (hY : SlE cutE 2 w Ay ny ly) (hny : ny ≤ cy) (hcy : cy ≤ 9223372036854775807) :
    Calls Try.prog 12 #[.agg #[.int .i64 W, .int .i64 H, .int .i64 K, .slice A n c], .slice Ay ny cy, .int .i64 times] w fun e w' => e = .returned (.bool true) ∧ Below w.heap.size w w' := by
  refine calls_cps ?_
  intro R hR
  obtain ⟨s1, es⟩ : ∃ s, ss.take 17 = s := ⟨_, rfl⟩
  obtain ⟨L, hL⟩ : ∃ L, s1.length = L := ⟨_, rfl⟩
  have hLm : L ≤ 17 := by rw [← hL, ← es, List.length_take]; omega
  obtain ⟨W1, eW⟩ : ∃ x, fewV W = x := ⟨_, rfl⟩
  obtain ⟨H1, eH⟩ : ∃ x, fewV H = x := ⟨_, rfl⟩
  have HL := Lib.hid hL
  have Hes := Lib.hid es
  have HW := Lib.hid eW
  have HH := Lib.hid eH
  clear hL es eW eH
  obtain ⟨l2, hl2⟩ : ∃ l, ly.take 300 = l := ⟨_, rfl⟩
  obtain ⟨Ly, hLy⟩ : ∃ L, l2.length = L := ⟨_, rfl⟩
  have hLy3 : Ly ≤ 300 := by rw [← hLy, ← hl2, List.length_take]; omega
  have Hl2 := Lib.hid hl2
  have HLy := Lib.hid hLy
  clear hl2 hLy
  by_cases hp : panOk W1 H1 K s1 = true
  · have Hp := Lib.hid hp
    obtain ⟨res, hres⟩ : ∃ r, planOut K s1 W1 H1 l2 = r := ⟨_, rfl⟩
    have HR := Lib.hid hres
    clear hp hres
    go_enter Try.func12, Try.ntmps12
    go_wp2_with fail
    refine (few_any _ _ _ _ _ _ ss _ (hS.alloc _) hnc hc).mono ?_
    rw [Hes.out, HL.out, HW.out, HH.out]
    rintro e w1 ⟨A1, c1, rfl, ho1, hb1⟩
    have hf1 : Below w.heap.size w w1 := (below_new w _).trans (hb1.mono (by simp))
    have hs1 := SlE.of_own ho1 HL.out.symm
    have hY1 := hY.below hf1
    clear ho1 hb1
    go_wp2_with fail
    refine (brief_any Ay ny cy ly _ hY1 hny hcy).mono ?_
    rw [Hl2.out, HLy.out]
    rintro e w2 ⟨A2, c2, rfl, hn2, hc2, ho2, hb⟩
    have hP : Pn w (w2.alloc (.cells #[.int .i64 W1, .int .i64 H1, .int .i64 K, .slice A1 L c1] 24)) w2.heap.size W1 H1 K A1 c1 L s1 :=
      ⟨(hs1.below hb).alloc _, heap_alloc_new w2 _, (hf1.trans (hb.mono hf1.size)).alloc (Nat.le_trans hf1.size hb.size) _⟩
    have hs2 := (SlE.of_own ho2 HLy.out.symm).alloc (.cells #[.int .i64 W1, .int .i64 H1, .int .i64 K, .slice A1 L c1] 24)
    clear hb ho2 hf1 hs1 hY1
    obtain ⟨q0, q1, q2, q3, q4⟩ := cells4 hP.box
    obtain ⟨wA, hwA⟩ : ∃ wA : World, wA = w2.alloc (.cells #[.int .i64 W1, .int .i64 H1, .int .i64 K, .slice A1 L c1] 24) := ⟨_, rfl⟩
    have HwA := Lib.hid hwA
    clear hwA
    go_wp2_with fail
    clear q0 q1 q2 q3 q4
    rw [← HwA.out] at hP hs2 ⊢
    refine (counts_ok W1 H1 K A1 A2 L c1 Ly c2 s1 l2 _ hP.sl hs2 hn2 (by unfold maxLen at hc2; omega) (by omega) Hp.out).mono ?_
    rw [HR.out]
    rintro e w3 ⟨hb, A5, n5, c5, rfl, hn5, hn5c, hc5, ho5⟩
    have HN5 := Lib.hid hn5
    clear hn5 hs2 HwA
    cases res with
    | none =>
      obtain rfl : n5 = 0 := HN5.out
      rw [show outE none = 2 from rfl]
      have hP3 := hP.below hb
      clear hb ho5 hP
      go_wp2_with fail
      refine (lives_any _).mono ?_
      rintro e w6 ⟨rfl, hb6⟩
      have hf6 := (hP3.below hb6).bel
      clear hb6
      go_wp2
      exact hR.out _ _ ⟨rfl, hf6⟩
    | some p =>
      obtain rfl : n5 = L := by rw [HN5.out]; exact cntP_len L p
      have hpo := planOut_ok Hp.out HR.out
      have hpl4 : p.length ≤ 400 := by have := hpo.2.2.1; rw [HLy.out] at this; omega
      have hcn : ∀ i, 0 ≤ cntI p i ∧ cntI p i ≤ 400 := fun i => by have := cntI_bd p i; omega
      obtain ⟨t, ht⟩ : ∃ t, bits .and .i64 times 15 = t := ⟨_, rfl⟩
      have ht15 := and15 times
      rw [ht] at ht15
      obtain ⟨t0, t15⟩ := ht15
      have hlaw := sheets_law Hp.out HR.out hpl4 t0 t15
      rw [HL.out] at hlaw
      have Hlaw := Lib.hid hlaw
      have Hcn := Lib.hid hcn
      have hoA : w3.ownsRow wA.heap.size 3 1 (.slice A5 n5 c5) n5 ((mixL p t n5 0).flatMap intE) := by rw [mixL_zero]; exact ho5
      rw [show outE (some p) = 0 from rfl]
      clear hpo hlaw hcn ho5 hpl4 HN5
      go_wp2_with fail
      clear ht
      go_loopw [11, 12] (fun s11 s12 wr => ∃ (j : Nat) (b : Bool), j ≤ n5 ∧ s12 = .int .i64 j ∧ s11 = .bool b ∧ Hid (b = anyTo p t j) ∧ Below wA.heap.size wA wr ∧ wr.ownsRow wA.heap.size 3 1 (.slice A5 n5 c5) n5 ((mixL p t n5 j).flatMap intE)) (fun _ s12 _ => n5 - (intOf s12).toNat)
      case atStart => exact ⟨0, false, by omega, rfl, rfl, Lib.hid rfl, hb, hoA⟩
      case round =>
        clear hb hoA
        obtain ⟨j, sb, hj, rfl, rfl, Hsb, hb, ho⟩ := hrel
        obtain ⟨wo, rfl⟩ : ∃ wo : World, wo = wr := ⟨_, rfl⟩
        by_cases hlt : j < n5
        · obtain ⟨g, cc, hv, hg, hgl⟩ := ho.form (by omega)
          simp only [Value.slice.injEq, true_and] at hv
          obtain ⟨rfl, rfl⟩ := hv
          obtain ⟨x, hx⟩ : ∃ x, cntI p j = x := ⟨_, rfl⟩
          have hxb := Hcn.out j
          rw [hx] at hxb
          obtain ⟨x0, x1⟩ := hxb
          obtain ⟨m0, m1⟩ := mul_bd (a := x) (b := t) x0 t0 x1 t15
          have y0 : wo.cell? ⟨g, j, none⟩ = some (.int .i64 x) := by
            rw [ho.cellAt j (by omega), flat_int]
            simp [mixL_get hlt, hx]
          have y1 : wo.frozen? ⟨g, j, none⟩ = false := ho.frozenAt j
          obtain ⟨ho', hg'⟩ := ho.stored j (.int .i64 (x * t))
          have HO := Lib.hid (show (wo.setCell ⟨g, j, none⟩ (.int .i64 (x * t))).ownsRow wA.heap.size 3 1 (.slice (some ⟨g, 0, none⟩) n5 c5) n5 ((mixL p t n5 (j + 1)).flatMap intE) by
            rw [mixL_set, flat_int, List.map_set, hx]; rw [flat_int] at ho'; exact ho')
          have HB := Lib.hid (hb.grown hg' hb.size (fun k hk => by injection hk with hk; omega))
          have i1 : (j : Int) < (n5 : Int) := by omega
          obtain ⟨pb, hpb⟩ : ∃ b, decide (0 < x * t) = b := ⟨_, rfl⟩
          have Hsn := Lib.hid (show (sb || pb) = anyTo p t (j + 1) by rw [anyTo, hx, hpb, Hsb.out])
          clear hx ho ho' hg' hb Hsb
          cases sb
          · cases pb
            all_goals
              go_wp2
              exact ⟨⟨j + 1, _, by omega, by go_num, rfl, Lib.hid Hsn.out, HB.out, HO.out⟩, by simp [intOf]; omega⟩
          · clear hpb
            go_wp2
            exact ⟨⟨j + 1, _, by omega, by go_num, rfl, Lib.hid (by simpa using Hsn.out), HB.out, HO.out⟩, by simp [intOf]; omega⟩
        · obtain rfl : n5 = j := by omega
          have hPn := hP.below hb
          have hs5 := SlE.of_own ho (mixL_len p t n5 n5).symm
          obtain ⟨h1, h2, h3, h4⟩ := Hlaw.out
          rw [← Hsb.out] at h4
          obtain ⟨nv, hnv⟩ : ∃ v, sheetV true W1 H1 s1 (mixL p t n5 n5) = v := ⟨_, rfl⟩
          rw [hnv] at h2 h3 h4
          have H1' := Lib.hid h1
          have HV := Lib.hid hnv
          clear h1 hnv ho hb Hsb
          obtain ⟨q0, q1, q2, q3, q4⟩ := cells4 hPn.box
          go_wp2_with fail
          clear q0 q1 q2 q3 q4
          refine (sheets_any W1 H1 K A1 A5 n5 c1 n5 c5 s1 (mixL p t n5 n5) _ hPn.sl hs5 (by omega) (by omega)).mono ?_
          rw [Hp.out, H1'.out, HV.out]
          rintro e w6 ⟨rfl, hb⟩
          have hPl := hPn.below hb
          clear hb hPn hs5
          cases sb
          all_goals
            go_wp2_with fail
            refine (lives_any _).mono ?_
            rintro e w6 ⟨rfl, hb6⟩
            have hf6 := (hPl.below hb6).bel
            clear hb6
            go_wp2
            exact hR.out _ _ ⟨rfl, hf6⟩
  · have Hp := Lib.hid (show panOk W1 H1 K s1 = false from by simpa using hp)
    clear hp
    go_enter Try.func12, Try.ntmps12
    go_wp2_with fail
    refine (few_any _ _ _ _ _ _ ss _ (hS.alloc _) hnc hc).mono ?_
    rw [Hes.out, HL.out, HW.out, HH.out]
    rintro e w1 ⟨A1, c1, rfl, ho1, hb1⟩
    have hf1 : Below w.heap.size w w1 := (below_new w _).trans (hb1.mono (by simp))
    have hs1 := SlE.of_own ho1 HL.out.symm
    have hY1 := hY.below hf1
    clear ho1 hb1
    go_wp2_with fail
    refine (brief_any Ay ny cy ly _ hY1 hny hcy).mono ?_
    rw [Hl2.out, HLy.out]
    rintro e w2 ⟨A2, c2, rfl, hn2, hc2, ho2, hb⟩
    have hP : Pn w (w2.alloc (.cells #[.int .i64 W1, .int .i64 H1, .int .i64 K, .slice A1 L c1] 24)) w2.heap.size W1 H1 K A1 c1 L s1 :=
      ⟨(hs1.below hb).alloc _, heap_alloc_new w2 _, (hf1.trans (hb.mono hf1.size)).alloc (Nat.le_trans hf1.size hb.size) _⟩
    have hs2 := (SlE.of_own ho2 HLy.out.symm).alloc (.cells #[.int .i64 W1, .int .i64 H1, .int .i64 K, .slice A1 L c1] 24)
    clear hb ho2 hf1 hs1 hY1
    obtain ⟨q0, q1, q2, q3, q4⟩ := cells4 hP.box
    go_wp2_with fail
    try clear q0 q1 q2 q3 q4
    refine (counts_no W1 H1 K A1 A2 L c1 Ly c2 s1 _ hP.sl (by omega) Hp.out).mono ?_
    rintro e wq9 ⟨rfl, hb⟩
    have hP9 := hP.below hb
    obtain ⟨q0, q1, q2, q3, q4⟩ := cells4 hP9.box
    clear hb
    go_wp2_with fail
    refine (lives_any _).mono ?_
    rintro e w6 ⟨rfl, hb6⟩
    have hf6 := (hP9.below hb6).bel
    clear hb6
    go_wp2
    exact hR.out _ _ ⟨rfl, hf6⟩
end Go.Proofs.Ytfkpioibinpfhaa
