/-
  The contract of clavecinlaw08.PanelApart: true at every input.
-/
import Derived.Test.YtfkpioibinpfhaaPOptimal
import Derived.Deep.LoopGhost
namespace Go.Proofs.Ytfkpioibinpfhaa
open Go.RowKit

/-- The panel and a layout behind it. -/
structure Po (w wr : World) (b : Nat) (X Y K : Int) (A1 : Option Addr) (c1 L : Nat) (s1 : List Shp) (A5 : Option Addr) (n5 : Nat) (p : List Pc) : Prop where
  pn : Pn w wr b X Y K A1 c1 L s1
  pc : SlE pcE 5 wr A5 n5 p
theorem Po.below {w wr W1 : World} {b : Nat} {X Y K : Int} {A1 : Option Addr} {c1 L : Nat} {s1 : List Shp} {A5 : Option Addr} {n5 : Nat} {p : List Pc} (t : Po w wr b X Y K A1 c1 L s1 A5 n5 p) (hb : Below wr.heap.size wr W1) : Po w W1 b X Y K A1 c1 L s1 A5 n5 p := ⟨t.pn.below hb, t.pc.below hb⟩
theorem cells5 {W : World} {b : Nat} {t : TypeId} {u0 u1 u2 u3 u4 : Value} (h : W.heap[b]? = some (.cells #[u0, u1, u2, u3, u4] t (0, 0))) :
    W.cell? ⟨b, 0, none⟩ = some u0 ∧ W.cell? ⟨b, 1, none⟩ = some u1 ∧ W.cell? ⟨b, 2, none⟩ = some u2 ∧ W.cell? ⟨b, 3, none⟩ = some u3 ∧ W.cell? ⟨b, 4, none⟩ = some u4 :=
  ⟨by rw [cell_of_row _ _ 0 _ _ (0, 0) h]; rfl, by rw [cell_of_row _ _ 1 _ _ (0, 0) h]; rfl, by rw [cell_of_row _ _ 2 _ _ (0, 0) h]; rfl, by rw [cell_of_row _ _ 3 _ _ (0, 0) h]; rfl, by rw [cell_of_row _ _ 4 _ _ (0, 0) h]; rfl⟩
theorem apart_at {k : Int} {p : List Pc} (h : p.Pairwise (fun b a => apartP k a b)) {i j : Nat} {a b : Pc} (hi : p[i]? = some a) (hj : p[j]? = some b) (hji : j < i) : apartP k a b := by
  obtain ⟨h1, rfl⟩ := List.getElem?_eq_some_iff.1 hi
  obtain ⟨h2, rfl⟩ := List.getElem?_eq_some_iff.1 hj
  exact List.pairwise_iff_getElem.1 h j i h2 h1 hji
set_option maxRecDepth 100000 in
set_option maxHeartbeats 4000000 in
theorem apart_any (W H K : Int) (A : Option Addr) (n c : Nat) (ss : List Shp) (Ay : Option Addr) (ny cy : Nat) (ly : Cuts) (best : Bool) (w : World) (hS : SlE Shp.enc 4 w A n ss) (hnc : n ≤ c) (hc : c ≤ 9223372036854775807) (hY : SlE cutE 2 w Ay ny ly) (hny : ny ≤ cy) (hcy : cy ≤ 9223372036854775807) :
    Calls Try.prog 10 #[.agg #[.int .i64 W, .int .i64 H, .int .i64 K, .slice A n c], .slice Ay ny cy, .bool best] w fun e w' => e = .returned (.bool true) ∧ Below w.heap.size w w' := by
  refine calls_cps ?_
  intro R hR
  obtain ⟨s1, es⟩ : ∃ s, ss.take 17 = s := ⟨_, rfl⟩
  obtain ⟨L, hL⟩ : ∃ L, s1.length = L := ⟨_, rfl⟩
  have hLm : L ≤ 17 := by rw [← hL, ← es, List.length_take]; omega
  obtain ⟨W1, eW⟩ : ∃ x, fewV W = x := ⟨_, rfl⟩
  obtain ⟨H1, eH⟩ : ∃ x, fewV H = x := ⟨_, rfl⟩
  have HL := Lib.hid hL
  have Hes := Lib.hid es
  have HW := Lib.hid eW
  have HH := Lib.hid eH
  clear hL es eW eH
  obtain ⟨l2, hl2⟩ : ∃ l, ly.take 300 = l := ⟨_, rfl⟩
  obtain ⟨Ly, hLy⟩ : ∃ L, l2.length = L := ⟨_, rfl⟩
  have hLy3 : Ly ≤ 300 := by rw [← hLy, ← hl2, List.length_take]; omega
  have Hl2 := Lib.hid hl2
  have HLy := Lib.hid hLy
  clear hl2 hLy
  by_cases hp : panOk W1 H1 K s1 = true
  · have Hp := Lib.hid hp
    obtain ⟨hW1, hW2, hH1, hH2, hk0, hk8, hss, hok⟩ := panOk_ok hp
    have hW20 : W1 ≤ 20 := by rw [← HW.out] at hW2 ⊢; exact fewV_20 hW2
    have hH20 : H1 ≤ 20 := by rw [← HH.out] at hH2 ⊢; exact fewV_20 hH2
    obtain ⟨pl, hpl⟩ : ∃ l, planL K s1 W1 H1 = l := ⟨_, rfl⟩
    obtain ⟨Lp, hLp⟩ : ∃ L, pl.length = L := ⟨_, rfl⟩
    have hLp3 : Lp ≤ 1000 := by rw [← hLp, ← hpl]; exact plan_1000 hk0 ⟨hW1, hW20⟩ ⟨hH1, hH20⟩
    obtain ⟨lx, hlx⟩ : ∃ l, (if best = true then pl else l2) = l := ⟨_, rfl⟩
    obtain ⟨res, hres⟩ : ∃ r, planOut K s1 W1 H1 lx = r := ⟨_, rfl⟩
    have hbr : best = true → res ≠ none := fun h => by
      obtain ⟨p, h1, h2⟩ := planOut_best K s1 hk0 W1 H1 hW1 hH1
      rw [if_pos h] at hlx
      rw [hpl, hlx, hres] at h1
      rw [h1]; simp
    obtain ⟨wh1, wh2⟩ := mul_bd (a := W1) (b := H1) (by omega) (by omega) hW20 hH20
    have HPL := Lib.hid hpl
    have HLP := Lib.hid hLp
    have HLX := Lib.hid hlx
    have HR := Lib.hid hres
    have Hbr := Lib.hid hbr
    clear hp hok hpl hLp hlx hres hbr
    go_enter Try.func10, Try.ntmps10
    go_wp2_with fail
    refine (few_any _ _ _ _ _ _ ss _ (hS.alloc _) hnc hc).mono ?_
    rw [Hes.out, HL.out, HW.out, HH.out]
    rintro e w1 ⟨A1, c1, rfl, ho1, hb1⟩
    have hf1 : Below w.heap.size w w1 := (below_new w _).trans (hb1.mono (by simp))
    have hs1 := SlE.of_own ho1 HL.out.symm
    have hY1 := hY.below hf1
    clear ho1 hb1
    go_wp2_with fail
    refine (brief_any Ay ny cy ly _ hY1 hny hcy).mono ?_
    rw [Hl2.out, HLy.out]
    rintro e w2 ⟨A2, c2, rfl, hn2, hc2, ho2, hb⟩
    have hP : Pn w (w2.alloc (.cells #[.int .i64 W1, .int .i64 H1, .int .i64 K, .slice A1 L c1] 24)) w2.heap.size W1 H1 K A1 c1 L s1 :=
      ⟨(hs1.below hb).alloc _, heap_alloc_new w2 _, (hf1.trans (hb.mono hf1.size)).alloc (Nat.le_trans hf1.size hb.size) _⟩
    have hs2 := (SlE.of_own ho2 HLy.out.symm).alloc (.cells #[.int .i64 W1, .int .i64 H1, .int .i64 K, .slice A1 L c1] 24)
    clear hb ho2 hf1 hs1 hY1
    go_upto_if 21 with fail
    go_cut [8] (fun s8 wx => ∃ A n c, s8 = .slice A n c ∧ n ≤ 1000 ∧ n ≤ c ∧ c ≤ 9223372036854775807 ∧ SlE cutE 2 wx A n lx ∧ Pn w wx w2.heap.size W1 H1 K A1 c1 L s1)
    case first =>
      cases best
      · have hlx : lx = l2 := by simpa using HLX.out.symm
        have hs3 := hs2
        rw [← hlx] at hs3
        clear hlx hs2
        go_wp2_with fail
        go_meet
        exact ⟨_, _, _, rfl, by omega, hn2, by unfold maxLen at hc2; omega, hs3, hP⟩
      · have hlx : pl = lx := by simpa using HLX.out
        have HLX2 := Lib.hid hlx
        obtain ⟨q0, q1, q2, q3, q4⟩ := cells4 hP.box
        clear hlx
        go_wp2_with fail
        clear q0 q1 q2 q3 q4
        refine (best_ok W1 H1 K A1 L c1 s1 _ hP.sl Hp.out).mono ?_
        rw [HPL.out]
        rintro e w3 ⟨vp, rfl, hret, hb⟩
        obtain ⟨A3, c3, rfl, hn3, hc3, ho3⟩ := own_slice hret
        rw [HLP.out] at hn3 ho3 ⊢
        have hP3 := hP.below hb
        have hs4 := SlE.of_own ho3 HLP.out.symm
        rw [HLX2.out] at hs4
        clear hb ho3 hret hP hs2
        go_wp2_with fail
        go_meet
        exact ⟨_, _, _, rfl, hLp3, hn3, by unfold maxLen at hc3; omega, hs4, hP3⟩
    case rest =>
      obtain ⟨A8, n8, c8, e8, hn8, hn8c, hc8, hs8, hP8⟩ := hcut
      subst e8
      obtain ⟨wx, rfl⟩ : ∃ wx : World, wx = wc := ⟨_, rfl⟩
      clear hP hs2
      obtain ⟨q0, q1, q2, q3, q4⟩ := cells4 hP8.box
      go_wp2_with fail
      clear q0 q1 q2 q3 q4
      refine (layout_ok W1 H1 K A1 A8 L c1 n8 c8 s1 lx _ hP8.sl hs8 hn8c hc8 hn8 Hp.out).mono ?_
      rw [HR.out]
      rintro e w4 ⟨hb, ⟨hr, rfl⟩ | ⟨p, A5, n5, c5, hr, rfl, hn5, ho5⟩⟩
      · cases best
        · have hP9 := hP8.below hb
          clear hb hP8 hs8 hr
          obtain ⟨q0, q1, q2, q3, q4⟩ := cells4 hP9.box
          go_wp2_with fail
          refine (lives_any _).mono ?_
          rintro e w6 ⟨rfl, hb6⟩
          have hf6 := (hP9.below hb6).bel
          clear hb6
          go_wp2
          exact hR.out _ _ ⟨rfl, hf6⟩
        · exact absurd hr (Hbr.out rfl)
      · have hr' := HR.out
        rw [hr] at hr'
        have hrd := planOut_Rd hr'
        have hins := hrd.inside hk0 hW1 hH1
        have hap := hrd.apart hk0 hW1 hH1
        obtain ⟨-, -, har⟩ := hrd.area hk0 hW1 hH1
        rw [← hn5] at har
        have Hins := Lib.hid hins
        have Hap := Lib.hid hap
        have hn54 : n5 ≤ 400 := by omega
        have hP9 : Po w w4 w2.heap.size W1 H1 K A1 c1 L s1 A5 n5 p := ⟨hP8.below hb, SlE.of_own ho5 hn5⟩
        clear hb hP8 hs8 hr hr' hrd hins hap ho5 hn5
        obtain ⟨q0, q1, q2, q3, q4⟩ := cells4 hP9.pn.box
        go_wp2_with fail
        clear q0 q1 q2 q3 q4
        refine (refCheck_any W1 H1 K A1 L c1 s1 _ hP9.pn.sl (by omega)).mono ?_
        rw [Hp.out]
        rintro e w5 ⟨rfl, hb⟩
        have hPa := hP9.below hb
        clear hb hP9
        obtain ⟨q0, q1, q2, q3, q4⟩ := cells4 hPa.pn.box
        go_wp2_with fail
        clear q0 q1 q2 q3 q4
        go_loopw [11] (fun i wr => ∃ (i0 : Nat), i0 ≤ n5 ∧ i = .int .i64 i0 ∧ Po w wr w2.heap.size W1 H1 K A1 c1 L s1 A5 n5 p) (fun i _ => n5 - (intOf i).toNat)
        case atStart => exact ⟨0, by omega, rfl, hPa⟩
        case round =>
          clear hPa
          obtain ⟨i0, hi0, rfl, hPo⟩ := hrel
          obtain ⟨q0, q1, q2, q3, q4⟩ := cells4 hPo.pn.box
          obtain ⟨wo, rfl⟩ : ∃ wo : World, wo = wr := ⟨_, rfl⟩
          by_cases hlt : i0 < n5
          · obtain ⟨ab, ao, a, rfl, hbl, ha, e0, e1, e2, e3, e4⟩ := hPo.pc.at5 hlt
            obtain ⟨⟨g1, g2, g3, g4, g5, g6⟩, -⟩ := Hins.out a (List.mem_of_getElem? ha)
            have g7 : a.X + a.W ≤ W1 := by omega
            have g8 : a.Y + a.H ≤ H1 := by omega
            have Ha := Lib.hid ha
            have hzp := hPo.pn.lt
            clear g5 g6 ha
            go_wp2_with fail
            have hbx := heap_alloc_new wo (.cells #[.int .i64 a.X, .int .i64 a.Y, .int .i64 a.W, .int .i64 a.H, .int .i64 a.S] 59)
            have hPi := hPo.below (below_new wo (.cells #[.int .i64 a.X, .int .i64 a.Y, .int .i64 a.W, .int .i64 a.H, .int .i64 a.S] 59))
            clear hPo q0 q1 q2 q3 q4 e0 e1 e2 e3 e4
            go_loopw [13] (fun j wr => ∃ (k0 : Nat), k0 ≤ i0 ∧ j = .int .i64 k0 ∧ Po w wr w2.heap.size W1 H1 K A1 c1 L s1 (some ⟨ab, ao, none⟩) n5 p ∧ wr.heap[wo.heap.size]? = some (.cells #[.int .i64 a.X, .int .i64 a.Y, .int .i64 a.W, .int .i64 a.H, .int .i64 a.S] 59 (0, 0))) (fun j _ => i0 - (intOf j).toNat)
            case atStart => exact ⟨0, by omega, rfl, hPi, hbx⟩
            case round =>
              clear hPi hbx
              obtain ⟨k0, hk, rfl, hPi, hbx⟩ := hrel
              obtain ⟨wi, rfl⟩ : ∃ wi : World, wi = wr := ⟨_, rfl⟩
              by_cases hltk : k0 < i0
              · obtain ⟨_, _, b, hA, hbl2, hb, e0, e1, e2, e3, e4⟩ := hPi.pc.at5 (k := k0) (by omega)
                simp only [Option.some.injEq, Addr.mk.injEq, and_true] at hA
                obtain ⟨rfl, rfl⟩ := hA
                obtain ⟨⟨f1, f2, f3, f4, f5, f6⟩, -⟩ := Hins.out b (List.mem_of_getElem? hb)
                have hab := apart_at Hap.out Ha.out hb hltk
                unfold apartP at hab
                obtain ⟨q0, q1, q2, q3, q4⟩ := cells4 hPi.pn.box
                obtain ⟨y0, y1, y2, y3, y4⟩ := cells5 hbx
                have hz := (Array.getElem?_eq_some_iff.1 hbx).1
                have hzq := hPi.pn.lt
                have hPn := hPi.below (below_new wi (.cells #[.int .i64 b.X, .int .i64 b.Y, .int .i64 b.W, .int .i64 b.H, .int .i64 b.S] 59))
                have hbn := (Below.heap_alloc wi (.cells #[.int .i64 b.X, .int .i64 b.Y, .int .i64 b.W, .int .i64 b.H, .int .i64 b.S] 59) _ hz).trans hbx
                have Hbn := Lib.hid hbn
                have hkn : (k0 : Int) < (n5 : Int) := by omega
                clear hbx hbn hb
                rcases hab with (h | h) | (h | h)
                all_goals
                  go_wp2
                  all_goals exact ⟨⟨k0 + 1, by omega, by go_num, hPn, Hbn.out⟩, by simp [intOf]; omega⟩
              · obtain rfl : i0 = k0 := by omega
                go_wp2
                exact ⟨⟨i0 + 1, by omega, by go_num, hPi⟩, by simp [intOf]; omega⟩
          · obtain rfl : n5 = i0 := by omega
            have hPl := hPo.pn
            clear hPo
            go_wp2_with fail
            refine (lives_any _).mono ?_
            rintro e w6 ⟨rfl, hb6⟩
            have hf6 := (hPl.below hb6).bel
            clear hb6
            go_wp2
            exact hR.out _ _ ⟨rfl, hf6⟩
  · have Hp := Lib.hid (show panOk W1 H1 K s1 = false from by simpa using hp)
    clear hp
    go_enter Try.func10, Try.ntmps10
    go_wp2_with fail
    refine (few_any _ _ _ _ _ _ ss _ (hS.alloc _) hnc hc).mono ?_
    rw [Hes.out, HL.out, HW.out, HH.out]
    rintro e w1 ⟨A1, c1, rfl, ho1, hb1⟩
    have hf1 : Below w.heap.size w w1 := (below_new w _).trans (hb1.mono (by simp))
    have hs1 := SlE.of_own ho1 HL.out.symm
    have hY1 := hY.below hf1
    clear ho1 hb1
    go_wp2_with fail
    refine (brief_any Ay ny cy ly _ hY1 hny hcy).mono ?_
    rw [Hl2.out, HLy.out]
    rintro e w2 ⟨A2, c2, rfl, hn2, hc2, ho2, hb⟩
    have hP : Pn w (w2.alloc (.cells #[.int .i64 W1, .int .i64 H1, .int .i64 K, .slice A1 L c1] 24)) w2.heap.size W1 H1 K A1 c1 L s1 :=
      ⟨(hs1.below hb).alloc _, heap_alloc_new w2 _, (hf1.trans (hb.mono hf1.size)).alloc (Nat.le_trans hf1.size hb.size) _⟩
    have hs2 := (SlE.of_own ho2 HLy.out.symm).alloc (.cells #[.int .i64 W1, .int .i64 H1, .int .i64 K, .slice A1 L c1] 24)
    clear hb ho2 hf1 hs1 hY1
    go_upto_if 21 with fail
    go_cut [8] (fun s8 wx => ∃ A n c, s8 = .slice A n c ∧ Pn w wx w2.heap.size W1 H1 K A1 c1 L s1)
    case first =>
      cases best
      · go_wp2_with fail
        go_meet
        exact ⟨_, _, _, rfl, hP⟩
      · obtain ⟨q0, q1, q2, q3, q4⟩ := cells4 hP.box
        go_wp2_with fail
        try clear q0 q1 q2 q3 q4
        refine (best_no W1 H1 K A1 L c1 s1 _ hP.sl (by omega) Hp.out).mono ?_
        rintro e wq2 ⟨rfl, hb⟩
        have hP2 := hP.below hb
        obtain ⟨q0, q1, q2, q3, q4⟩ := cells4 hP2.box
        clear hb
        clear q0 q1 q2 q3 q4
        go_wp2_with fail
        go_meet
        exact ⟨_, _, _, rfl, hP2⟩
    case rest =>
      obtain ⟨A8, n8, c8, e8, hP8⟩ := hcut
      subst e8
      obtain ⟨wx, rfl⟩ : ∃ wx : World, wx = wc := ⟨_, rfl⟩
      clear hP hs2
      obtain ⟨q0, q1, q2, q3, q4⟩ := cells4 hP8.box
      go_wp2_with fail
      try clear q0 q1 q2 q3 q4
      refine (layout_no W1 H1 K A1 A8 L c1 n8 c8 s1 _ hP8.sl (by omega) Hp.out).mono ?_
      rintro e wq9 ⟨rfl, hb⟩
      have hP9 := hP8.below hb
      obtain ⟨q0, q1, q2, q3, q4⟩ := cells4 hP9.box
      clear hb
      cases best
      all_goals
        go_wp2_with fail
        refine (lives_any _).mono ?_
        rintro e w6 ⟨rfl, hb6⟩
        have hf6 := (hP9.below hb6).bel
        clear hb6
        go_wp2
        exact hR.out _ _ ⟨rfl, hf6⟩
end Go.Proofs.Ytfkpioibinpfhaa
