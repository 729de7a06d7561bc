/-
  The contract of clavecinlaw08.PanelArea: true at every input.
-/
import Derived.Test.YtfkpioibinpfhaaPApart
import Derived.Test.YtfkpioibinpfhaaPSums
namespace Go.Proofs.Ytfkpioibinpfhaa
open Go.RowKit

/-- The panel and the counts behind it. -/
structure Pk (w wr : World) (b : Nat) (X Y K : Int) (A1 : Option Addr) (c1 L : Nat) (s1 : List Shp) (A5 : Option Addr) (n5 : Nat) (l : List Int) : Prop where
  pn : Pn w wr b X Y K A1 c1 L s1
  ct : SlE intE 1 wr A5 n5 l
theorem Pk.below {w wr W1 : World} {b : Nat} {X Y K : Int} {A1 : Option Addr} {c1 L : Nat} {s1 : List Shp} {A5 : Option Addr} {n5 : Nat} {l : List Int} (t : Pk w wr b X Y K A1 c1 L s1 A5 n5 l) (hb : Below wr.heap.size wr W1) : Pk w W1 b X Y K A1 c1 L s1 A5 n5 l := ⟨t.pn.below hb, t.ct.below hb⟩
/-- What the sums of a plan's counts are bound by. -/
theorem sums_bd {s1 : List Shp} {p : List Pc} (hv : ∀ s ∈ s1, (1 ≤ s.W ∧ s.W ≤ 64) ∧ (1 ≤ s.H ∧ s.H ≤ 64) ∧ 0 ≤ s.V ∧ s.V ≤ 1000000) (hss : s1.length ≤ 16) (hp : p.length ≤ 400) (j : Nat) (hj : j ≤ s1.length) :
    (0 ≤ sumTo (fun i => cntI p i * arI s1 i) j ∧ sumTo (fun i => cntI p i * arI s1 i) j ≤ 26214400) ∧ (0 ≤ sumTo (fun i => cntI p i * vaI s1 i) j ∧ sumTo (fun i => cntI p i * vaI s1 i) j ≤ 6400000000) := by
  have key : ∀ i, i < j → (0 ≤ arI s1 i ∧ arI s1 i ≤ 4096) ∧ (0 ≤ vaI s1 i ∧ vaI s1 i ≤ 1000000) := fun i hi => by
    have hs : s1[i]? = some (s1[i]'(by omega)) := List.getElem?_eq_getElem (by omega)
    obtain ⟨⟨a1, a2⟩, ⟨b1, b2⟩, c⟩ := hv _ (List.mem_of_getElem? hs)
    have := mul_bd (a := (s1[i]'(by omega)).W) (b := (s1[i]'(by omega)).H) (by omega) (by omega) a2 b2
    unfold arI vaI
    rw [hs]
    dsimp only
    exact ⟨by omega, c⟩
  have h1 := sumTo_bd (f := fun i => cntI p i * arI s1 i) (M := 400 * 4096) j (fun i hi => by
    have h := cntI_bd p i
    exact mul_bd h.1 (key i hi).1.1 (by omega) (key i hi).1.2)
  have h2 := sumTo_bd (f := fun i => cntI p i * vaI s1 i) (M := 400 * 1000000) j (fun i hi => by
    have h := cntI_bd p i
    exact mul_bd h.1 (key i hi).2.1 (by omega) (key i hi).2.2)
  omega
set_option maxRecDepth 100000 in
set_option maxHeartbeats 4000000 in
theorem area_any (W H K : Int) (A : Option Addr) (n c : Nat) (ss : List Shp) (Ay : Option Addr) (ny cy : Nat) (ly : Cuts) (best : Bool) (w : World) (hS : SlE Shp.enc 4 w A n ss) (hnc : n ≤ c) (hc : c ≤ 9223372036854775807) (hY : SlE cutE 2 w Ay ny ly) (hny : ny ≤ cy) (hcy : cy ≤ 9223372036854775807) :
    Calls Try.prog 14 #[.agg #[.int .i64 W, .int .i64 H, .int .i64 K, .slice A n c], .slice Ay ny cy, .bool best] w fun e w' => e = .returned (.bool true) ∧ Below w.heap.size w w' := by
  refine calls_cps ?_
  intro R hR
  obtain ⟨s1, es⟩ : ∃ s, ss.take 17 = s := ⟨_, rfl⟩
  obtain ⟨L, hL⟩ : ∃ L, s1.length = L := ⟨_, rfl⟩
  have hLm : L ≤ 17 := by rw [← hL, ← es, List.length_take]; omega
  obtain ⟨W1, eW⟩ : ∃ x, fewV W = x := ⟨_, rfl⟩
  obtain ⟨H1, eH⟩ : ∃ x, fewV H = x := ⟨_, rfl⟩
  have HL := Lib.hid hL
  have Hes := Lib.hid es
  have HW := Lib.hid eW
  have HH := Lib.hid eH
  clear hL es eW eH
  obtain ⟨l2, hl2⟩ : ∃ l, ly.take 300 = l := ⟨_, rfl⟩
  obtain ⟨Ly, hLy⟩ : ∃ L, l2.length = L := ⟨_, rfl⟩
  have hLy3 : Ly ≤ 300 := by rw [← hLy, ← hl2, List.length_take]; omega
  have Hl2 := Lib.hid hl2
  have HLy := Lib.hid hLy
  clear hl2 hLy
  by_cases hp : panOk W1 H1 K s1 = true
  · have Hp := Lib.hid hp
    obtain ⟨hW1, hW2, hH1, hH2, hk0, hk8, hss, hok⟩ := panOk_ok hp
    have hW20 : W1 ≤ 20 := by rw [← HW.out] at hW2 ⊢; exact fewV_20 hW2
    have hH20 : H1 ≤ 20 := by rw [← HH.out] at hH2 ⊢; exact fewV_20 hH2
    obtain ⟨pl, hpl⟩ : ∃ l, planL K s1 W1 H1 = l := ⟨_, rfl⟩
    obtain ⟨Lp, hLp⟩ : ∃ L, pl.length = L := ⟨_, rfl⟩
    have hLp3 : Lp ≤ 1000 := by rw [← hLp, ← hpl]; exact plan_1000 hk0 ⟨hW1, hW20⟩ ⟨hH1, hH20⟩
    obtain ⟨lx, hlx⟩ : ∃ l, (if best = true then pl else l2) = l := ⟨_, rfl⟩
    obtain ⟨res, hres⟩ : ∃ r, planOut K s1 W1 H1 lx = r := ⟨_, rfl⟩
    have hbr : best = true → res ≠ none := fun h => by
      obtain ⟨p, h1, h2⟩ := planOut_best K s1 hk0 W1 H1 hW1 hH1
      rw [if_pos h] at hlx
      rw [hpl, hlx, hres] at h1
      rw [h1]; simp
    obtain ⟨wh1, wh2⟩ := mul_bd (a := W1) (b := H1) (by omega) (by omega) hW20 hH20
    have HPL := Lib.hid hpl
    have HLP := Lib.hid hLp
    have HLX := Lib.hid hlx
    have HR := Lib.hid hres
    have Hbr := Lib.hid hbr
    clear hp hok hpl hLp hlx hres hbr
    go_enter Try.func14, Try.ntmps14
    go_wp2_with fail
    refine (few_any _ _ _ _ _ _ ss _ (hS.alloc _) hnc hc).mono ?_
    rw [Hes.out, HL.out, HW.out, HH.out]
    rintro e w1 ⟨A1, c1, rfl, ho1, hb1⟩
    have hf1 : Below w.heap.size w w1 := (below_new w _).trans (hb1.mono (by simp))
    have hs1 := SlE.of_own ho1 HL.out.symm
    have hY1 := hY.below hf1
    clear ho1 hb1
    go_wp2_with fail
    refine (brief_any Ay ny cy ly _ hY1 hny hcy).mono ?_
    rw [Hl2.out, HLy.out]
    rintro e w2 ⟨A2, c2, rfl, hn2, hc2, ho2, hb⟩
    have hP : Pn w (w2.alloc (.cells #[.int .i64 W1, .int .i64 H1, .int .i64 K, .slice A1 L c1] 24)) w2.heap.size W1 H1 K A1 c1 L s1 :=
      ⟨(hs1.below hb).alloc _, heap_alloc_new w2 _, (hf1.trans (hb.mono hf1.size)).alloc (Nat.le_trans hf1.size hb.size) _⟩
    have hs2 := (SlE.of_own ho2 HLy.out.symm).alloc (.cells #[.int .i64 W1, .int .i64 H1, .int .i64 K, .slice A1 L c1] 24)
    clear hb ho2 hf1 hs1 hY1
    go_upto_if 20 with fail
    go_cut [8] (fun s8 wx => ∃ A n c, s8 = .slice A n c ∧ n ≤ 1000 ∧ n ≤ c ∧ c ≤ 9223372036854775807 ∧ SlE cutE 2 wx A n lx ∧ Pn w wx w2.heap.size W1 H1 K A1 c1 L s1)
    case first =>
      cases best
      · have hlx : lx = l2 := by simpa using HLX.out.symm
        have hs3 := hs2
        rw [← hlx] at hs3
        clear hlx hs2
        go_wp2_with fail
        go_meet
        exact ⟨_, _, _, rfl, by omega, hn2, by unfold maxLen at hc2; omega, hs3, hP⟩
      · have hlx : pl = lx := by simpa using HLX.out
        have HLX2 := Lib.hid hlx
        obtain ⟨q0, q1, q2, q3, q4⟩ := cells4 hP.box
        clear hlx
        go_wp2_with fail
        clear q0 q1 q2 q3 q4
        refine (best_ok W1 H1 K A1 L c1 s1 _ hP.sl Hp.out).mono ?_
        rw [HPL.out]
        rintro e w3 ⟨vp, rfl, hret, hb⟩
        obtain ⟨A3, c3, rfl, hn3, hc3, ho3⟩ := own_slice hret
        rw [HLP.out] at hn3 ho3 ⊢
        have hP3 := hP.below hb
        have hs4 := SlE.of_own ho3 HLP.out.symm
        rw [HLX2.out] at hs4
        clear hb ho3 hret hP hs2
        go_wp2_with fail
        go_meet
        exact ⟨_, _, _, rfl, hLp3, hn3, by unfold maxLen at hc3; omega, hs4, hP3⟩
    case rest =>
      obtain ⟨A8, n8, c8, e8, hn8, hn8c, hc8, hs8, hP8⟩ := hcut
      subst e8
      obtain ⟨wx, rfl⟩ : ∃ wx : World, wx = wc := ⟨_, rfl⟩
      clear hP hs2
      obtain ⟨q0, q1, q2, q3, q4⟩ := cells4 hP8.box
      go_wp2_with fail
      clear q0 q1 q2 q3 q4
      refine (waste_ok W1 H1 K A1 A8 L c1 n8 c8 s1 lx _ hP8.sl hs8 hn8c hc8 hn8 Hp.out).mono ?_
      rw [HR.out]
      rintro e w9 ⟨rfl, hb⟩
      have hP9 := hP8.below hb
      have hs9 := hs8.below hb
      clear hb hP8 hs8
      obtain ⟨q0, q1, q2, q3, q4⟩ := cells4 hP9.box
      go_wp2_with fail
      clear q0 q1 q2 q3 q4
      refine (counts_ok W1 H1 K A1 A8 L c1 n8 c8 s1 lx _ hP9.sl hs9 hn8c hc8 hn8 Hp.out).mono ?_
      rw [HR.out]
      rintro e w10 ⟨hb, A5, n5, c5, rfl, hn5, hn5c, hc5, ho5⟩
      have hP10 := hP9.below hb
      have hs10 := hs9.below hb
      have hk := SlE.of_own ho5 hn5
      have HN5 := Lib.hid hn5
      clear hb hP9 hs9 ho5 hn5
      obtain ⟨q0, q1, q2, q3, q4⟩ := cells4 hP10.box
      go_wp2_with fail
      clear q0 q1 q2 q3 q4
      refine (worth_ok W1 H1 K A1 A8 L c1 n8 c8 s1 lx _ hP10.sl hs10 hn8c hc8 hn8 Hp.out).mono ?_
      rw [HR.out]
      rintro e w11 ⟨rfl, hb⟩
      have hP11 := hP10.below hb
      have hs11 := hs10.below hb
      have hk1 : Pk w w11 w2.heap.size W1 H1 K A1 c1 L s1 A5 n5 (cntO L res) := ⟨hP11, hk.below hb⟩
      clear hb hP10 hs10 hP11 hs11 hk
      cases res with
      | none =>
        obtain rfl : n5 = 0 := HN5.out
        rw [show wasteO W1 H1 none = 0 from rfl, show worthO s1 none = 0 from rfl, show outE none = 2 from rfl]
        obtain ⟨q0, q1, q2, q3, q4⟩ := cells4 hk1.pn.box
        go_wp2_with fail
        refine (lives_any _).mono ?_
        rintro e w12 ⟨rfl, hb6⟩
        have hf6 := (hk1.pn.below hb6).bel
        clear hb6
        go_wp2
        exact hR.out _ _ ⟨rfl, hf6⟩
      | some p =>
        have hpo := planOut_ok Hp.out HR.out
        have hrd := planOut_Rd HR.out
        obtain ⟨-, -, har⟩ := hrd.area hk0 hW1 hH1
        have hpl4 : p.length ≤ 400 := by omega
        have hLs := HL.out
        have hss2 := (panOk_ok Hp.out).2.2.2.2.2.2.1
        have hvv := (panOk_ok Hp.out).2.2.2.2.2.2.2
        have hac : sumTo (fun i => cntI p i * arI s1 i) L = areaP p := by rw [← hLs]; exact area_cnt hpo.1
        have hwc : sumTo (fun i => cntI p i * vaI s1 i) L = worthP s1 p := by rw [← hLs]; exact worth_cnt hpo.1
        have hbd : ∀ j, j ≤ L → _ := fun j hj => sums_bd hvv hss2 hpl4 j (by rw [hLs]; exact hj)
        obtain rfl : n5 = L := by rw [HN5.out]; exact cntP_len L p
        obtain ⟨a0, ha0⟩ : ∃ a, W1 * H1 - areaP p = a := ⟨_, rfl⟩
        obtain ⟨v0, hv0⟩ : ∃ v, worthP s1 p = v := ⟨_, rfl⟩
        have ha1 : 0 ≤ a0 ∧ a0 ≤ 400 := by have := hpo.2.2.2; omega
        obtain ⟨ha1, ha2⟩ := ha1
        have hv1 := hbd n5 (Nat.le_refl _)
        rw [hwc, hv0] at hv1
        obtain ⟨-, hv1, hv2⟩ := hv1
        rw [show wasteO W1 H1 (some p) = a0 from ha0, show worthO s1 (some p) = v0 from hv0, show outE (some p) = 0 from rfl]
        have Hac := Lib.hid hac
        have Hwc := Lib.hid hwc
        have Ha0 := Lib.hid ha0
        have Hv0 := Lib.hid hv0
        have Hbd := Lib.hid hbd
        have Hvv := Lib.hid hvv
        have Hpl := Lib.hid hpl4
        clear hpo hrd hac hwc ha0 hv0 HN5 hbd hvv har hpl4 hLs
        have hkk : Pk w w11 w2.heap.size W1 H1 K A1 c1 n5 s1 A5 n5 (cntP n5 p) := hk1
        clear hk1
        obtain ⟨q0, q1, q2, q3, q4⟩ := cells4 hkk.pn.box
        go_wp2_with fail
        clear q0 q1 q2 q3 q4
        refine (lives_any _).mono ?_
        rintro e w12 ⟨rfl, hb⟩
        have hk2 := hkk.below hb
        clear hb hkk
        obtain ⟨q0, q1, q2, q3, q4⟩ := cells4 hk2.pn.box
        go_wp2_with fail
        clear q0 q1 q2 q3 q4
        go_loopw [9, 13, 15] (fun s9 s13 s15 wr => ∃ (j : Nat) (a v : Int), j ≤ n5 ∧ s15 = .int .i64 j ∧ s9 = .int .i64 a ∧ s13 = .int .i64 v ∧ Hid (a = a0 + sumTo (fun i => cntI p i * arI s1 i) j) ∧ Hid (v = v0 - sumTo (fun i => cntI p i * vaI s1 i) j) ∧ Pk w wr w2.heap.size W1 H1 K A1 c1 n5 s1 A5 n5 (cntP n5 p)) (fun _ _ s15 _ => n5 - (intOf s15).toNat)
        case atStart => exact ⟨0, a0, v0, by omega, rfl, rfl, rfl, Lib.hid (by simp [sumTo]), Lib.hid (by simp [sumTo]), hk2⟩
        case round =>
          clear hk2
          obtain ⟨j, a, v, hj, rfl, rfl, rfl, Ha, Hv, hk⟩ := hrel
          obtain ⟨q0, q1, q2, q3, q4⟩ := cells4 hk.pn.box
          obtain ⟨wo, rfl⟩ : ∃ wo : World, wo = wr := ⟨_, rfl⟩
          have hba := (Hbd.out j hj).1
          have hbv := (Hbd.out j hj).2
          have ha := Ha.out
          have hv := Hv.out
          have b1 : 0 ≤ a := by omega
          have b2 : a ≤ 30000000 := by omega
          have b3 : -6400000000 ≤ v := by omega
          have b4 : v ≤ 6400000000 := by omega
          clear hba hbv ha hv
          by_cases hlt : j < n5
          · obtain ⟨b, o, x, rfl, hbl, hx, e0⟩ := hk.ct.at1 hlt
            obtain ⟨bs, os, s, rfl, hbs, hs, c0, c1', c2, c3⟩ := hk.pn.sl.at4 hlt
            rw [cntP_get p hlt] at hx
            have hxe : cntI p j = x := by injection hx
            have hxb := cntI_bd p j
            have hpl4 := Hpl.out
            obtain ⟨⟨x1, x2⟩, ⟨y1, y2⟩, z1, z2⟩ := Hvv.out s (List.mem_of_getElem? hs)
            rw [hxe] at hxb
            obtain ⟨p1, p2⟩ := mul_bd (a := x) (b := s.W) (m := 400) hxb.1 (by omega) (by omega) x2
            obtain ⟨p3, p4⟩ := mul_bd p1 (show 0 ≤ s.H by omega) p2 y2
            obtain ⟨p5, p6⟩ := mul_bd (a := x) (b := s.V) (m := 400) hxb.1 z1 (by omega) z2
            have hna : a + x * s.W * s.H = a0 + sumTo (fun i => cntI p i * arI s1 i) (j + 1) := by
              have h1 := Ha.out
              have h2 : cntI p j * arI s1 j = x * s.W * s.H := by rw [hxe, arI, hs, Int.mul_assoc]
              rw [sumTo, h2]; omega
            have hnv : v - x * s.V = v0 - sumTo (fun i => cntI p i * vaI s1 i) (j + 1) := by
              have h1 := Hv.out
              have h2 : cntI p j * vaI s1 j = x * s.V := by rw [hxe, vaI, hs]
              rw [sumTo, h2]; omega
            have Hna := Lib.hid hna
            have Hnv := Lib.hid hnv
            clear hx hs hxe hxb hna hnv hpl4
            go_wp2_with fail
            have i1 : (j : Int) < (n5 : Int) := by omega
            have y1 : IntKind.i64.wrap (x * s.W) = x * s.W := IntWalk.i64_in _ (by omega)
            have y2 : IntKind.i64.wrap (x * s.W * s.H) = x * s.W * s.H := IntWalk.i64_in _ (by omega)
            have y3 : IntKind.i64.wrap (a + x * s.W * s.H) = a + x * s.W * s.H := IntWalk.i64_in _ (by omega)
            go_quiet (fail)
            have y4 : IntKind.i64.wrap (x * s.V) = x * s.V := IntWalk.i64_in _ (by omega)
            have y5 : IntKind.i64.wrap (v - x * s.V) = v - x * s.V := IntWalk.i64_in _ (by omega)
            clear y1 y2 y3
            go_wp2_with fail
            go_quiet (fail)
            clear y4 y5
            go_wp2
            exact ⟨⟨j + 1, _, _, by omega, by go_num, rfl, rfl, Lib.hid Hna.out, Lib.hid Hnv.out, hk.below (below_drewN (Below.refl _ _) _)⟩, by simp [intOf]; omega⟩
          · obtain rfl : n5 = j := by omega
            have he1 := Ha.out
            have he2 := Hv.out
            rw [Hac.out, ← Ha0.out] at he1
            rw [Hwc.out, Hv0.out] at he2
            obtain rfl : a = W1 * H1 := by omega
            obtain rfl : v = 0 := by omega
            clear he1 he2 Ha Hv
            have hf := hk.pn.bel
            clear hk
            go_wp2
            exact hR.out _ _ ⟨rfl, hf⟩
  · have Hp := Lib.hid (show panOk W1 H1 K s1 = false from by simpa using hp)
    clear hp
    go_enter Try.func14, Try.ntmps14
    go_wp2_with fail
    refine (few_any _ _ _ _ _ _ ss _ (hS.alloc _) hnc hc).mono ?_
    rw [Hes.out, HL.out, HW.out, HH.out]
    rintro e w1 ⟨A1, c1, rfl, ho1, hb1⟩
    have hf1 : Below w.heap.size w w1 := (below_new w _).trans (hb1.mono (by simp))
    have hs1 := SlE.of_own ho1 HL.out.symm
    have hY1 := hY.below hf1
    clear ho1 hb1
    go_wp2_with fail
    refine (brief_any Ay ny cy ly _ hY1 hny hcy).mono ?_
    rw [Hl2.out, HLy.out]
    rintro e w2 ⟨A2, c2, rfl, hn2, hc2, ho2, hb⟩
    have hP : Pn w (w2.alloc (.cells #[.int .i64 W1, .int .i64 H1, .int .i64 K, .slice A1 L c1] 24)) w2.heap.size W1 H1 K A1 c1 L s1 :=
      ⟨(hs1.below hb).alloc _, heap_alloc_new w2 _, (hf1.trans (hb.mono hf1.size)).alloc (Nat.le_trans hf1.size hb.size) _⟩
    have hs2 := (SlE.of_own ho2 HLy.out.symm).alloc (.cells #[.int .i64 W1, .int .i64 H1, .int .i64 K, .slice A1 L c1] 24)
    clear hb ho2 hf1 hs1 hY1
    go_upto_if 20 with fail
    go_cut [8] (fun s8 wx => ∃ A n c, s8 = .slice A n c ∧ Pn w wx w2.heap.size W1 H1 K A1 c1 L s1)
    case first =>
      cases best
      · go_wp2_with fail
        go_meet
        exact ⟨_, _, _, rfl, hP⟩
      · obtain ⟨q0, q1, q2, q3, q4⟩ := cells4 hP.box
        go_wp2_with fail
        try clear q0 q1 q2 q3 q4
        refine (best_no W1 H1 K A1 L c1 s1 _ hP.sl (by omega) Hp.out).mono ?_
        rintro e wq2 ⟨rfl, hb⟩
        have hP2 := hP.below hb
        obtain ⟨q0, q1, q2, q3, q4⟩ := cells4 hP2.box
        clear hb
        clear q0 q1 q2 q3 q4
        go_wp2_with fail
        go_meet
        exact ⟨_, _, _, rfl, hP2⟩
    case rest =>
      obtain ⟨A8, n8, c8, e8, hP8⟩ := hcut
      subst e8
      obtain ⟨wx, rfl⟩ : ∃ wx : World, wx = wc := ⟨_, rfl⟩
      clear hP hs2
      obtain ⟨q0, q1, q2, q3, q4⟩ := cells4 hP8.box
      go_wp2_with fail
      try clear q0 q1 q2 q3 q4
      refine (waste_no W1 H1 K A1 A8 L c1 n8 c8 s1 _ hP8.sl (by omega) Hp.out).mono ?_
      rintro e wq9 ⟨rfl, hb⟩
      have hP9 := hP8.below hb
      obtain ⟨q0, q1, q2, q3, q4⟩ := cells4 hP9.box
      clear hb
      go_wp2_with fail
      try clear q0 q1 q2 q3 q4
      refine (counts_no W1 H1 K A1 A8 L c1 n8 c8 s1 _ hP9.sl (by omega) Hp.out).mono ?_
      rintro e wq10 ⟨rfl, hb⟩
      have hP10 := hP9.below hb
      obtain ⟨q0, q1, q2, q3, q4⟩ := cells4 hP10.box
      clear hb
      go_wp2_with fail
      try clear q0 q1 q2 q3 q4
      refine (worth_no W1 H1 K A1 A8 L c1 n8 c8 s1 _ hP10.sl (by omega) Hp.out).mono ?_
      rintro e wq11 ⟨rfl, hb⟩
      have hP11 := hP10.below hb
      obtain ⟨q0, q1, q2, q3, q4⟩ := cells4 hP11.box
      clear hb
      go_wp2_with fail
      refine (lives_any _).mono ?_
      rintro e w6 ⟨rfl, hb6⟩
      have hf6 := (hP11.below hb6).bel
      clear hb6
      go_wp2
      exact hR.out _ _ ⟨rfl, hf6⟩
end Go.Proofs.Ytfkpioibinpfhaa
