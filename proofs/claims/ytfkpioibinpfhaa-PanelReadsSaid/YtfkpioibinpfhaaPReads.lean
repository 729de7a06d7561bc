/-
  The contract of clavecinlaw08.PanelReads: true at every input.
-/
import Derived.Test.YtfkpioibinpfhaaPRLay
import Derived.Test.YtfkpioibinpfhaaPRArea
import Derived.Test.YtfkpioibinpfhaaPSums
import Derived.Test.YtfkpioibinpfhaaPOptimal
namespace Go.Proofs.Ytfkpioibinpfhaa
open Go.RowKit

theorem cntP_bd (m : Nat) (p : List Pc) : ∀ x ∈ cntP m p, 0 ≤ x ∧ x ≤ p.length := by
  intro x hx
  obtain ⟨i, hi⟩ := List.mem_iff_getElem?.1 hx
  have hil : i < m := by have := (List.getElem?_eq_some_iff.1 hi).1; rwa [cntP_len] at this
  rw [cntP_get p hil] at hi
  injection hi with hi
  rw [← hi]
  exact cntI_bd p i
set_option maxRecDepth 100000 in
set_option maxHeartbeats 8000000 in
theorem reads_any (W H K : Int) (A : Option Addr) (n c : Nat) (ss : List Shp) (Ay : Option Addr) (ny cy : Nat) (ly : Cuts) (w : World) (hS : SlE Shp.enc 4 w A n ss) (hnc : n ≤ c) (hc : c ≤ 9223372036854775807) (hY : SlE cutE 2 w Ay ny ly) (hny : ny ≤ cy) (hcy : cy ≤ 9223372036854775807) :
    Calls Try.prog 13 #[.agg #[.int .i64 W, .int .i64 H, .int .i64 K, .slice A n c], .slice Ay ny cy] w fun e w' => e = .returned (.bool true) ∧ Below w.heap.size w w' := by
  refine calls_cps ?_
  intro R hR
  obtain ⟨s1, es⟩ : ∃ s, ss.take 17 = s := ⟨_, rfl⟩
  obtain ⟨L, hL⟩ : ∃ L, s1.length = L := ⟨_, rfl⟩
  have hLm : L ≤ 17 := by rw [← hL, ← es, List.length_take]; omega
  obtain ⟨W1, eW⟩ : ∃ x, fewV W = x := ⟨_, rfl⟩
  obtain ⟨H1, eH⟩ : ∃ x, fewV H = x := ⟨_, rfl⟩
  have HL := Lib.hid hL
  have Hes := Lib.hid es
  have HW := Lib.hid eW
  have HH := Lib.hid eH
  clear hL es eW eH
  obtain ⟨l2, hl2⟩ : ∃ l, ly.take 300 = l := ⟨_, rfl⟩
  obtain ⟨Ly, hLy⟩ : ∃ L, l2.length = L := ⟨_, rfl⟩
  have hLy3 : Ly ≤ 300 := by rw [← hLy, ← hl2, List.length_take]; omega
  have Hl2 := Lib.hid hl2
  have HLy := Lib.hid hLy
  clear hl2 hLy
  by_cases hp : panOk W1 H1 K s1 = true
  · have Hp := Lib.hid hp
    obtain ⟨res, hres⟩ : ∃ r, planOut K s1 W1 H1 l2 = r := ⟨_, rfl⟩
    have HR := Lib.hid hres
    clear hp hres
    go_enter Try.func13, Try.ntmps13
    go_wp2_with fail
    refine (few_any _ _ _ _ _ _ ss _ (hS.alloc _) hnc hc).mono ?_
    rw [Hes.out, HL.out, HW.out, HH.out]
    rintro e w1 ⟨A1, c1, rfl, ho1, hb1⟩
    have hf1 : Below w.heap.size w w1 := (below_new w _).trans (hb1.mono (by simp))
    have hs1 := SlE.of_own ho1 HL.out.symm
    have hY1 := hY.below hf1
    clear ho1 hb1
    go_wp2_with fail
    refine (brief_any Ay ny cy ly _ hY1 hny hcy).mono ?_
    rw [Hl2.out, HLy.out]
    rintro e w2 ⟨A2, c2, rfl, hn2, hc2, ho2, hb⟩
    have hP : Pn w (w2.alloc (.cells #[.int .i64 W1, .int .i64 H1, .int .i64 K, .slice A1 L c1] 24)) w2.heap.size W1 H1 K A1 c1 L s1 :=
      ⟨(hs1.below hb).alloc _, heap_alloc_new w2 _, (hf1.trans (hb.mono hf1.size)).alloc (Nat.le_trans hf1.size hb.size) _⟩
    have hs2 := (SlE.of_own ho2 HLy.out.symm).alloc (.cells #[.int .i64 W1, .int .i64 H1, .int .i64 K, .slice A1 L c1] 24)
    clear hb ho2 hf1 hs1 hY1
    obtain ⟨q0, q1, q2, q3, q4⟩ := cells4 hP.box
    have hcy2 : c2 ≤ 9223372036854775807 := by unfold maxLen at hc2; omega
    go_wp2_with fail
    clear q0 q1 q2 q3 q4
    refine (worth_ok W1 H1 K A1 A2 L c1 Ly c2 s1 l2 _ hP.sl hs2 hn2 hcy2 (by omega) Hp.out).mono ?_
    rw [HR.out]
    rintro e w3 ⟨rfl, hb⟩
    have hP3 := hP.below hb
    have hs3 := hs2.below hb
    clear hb hP hs2
    obtain ⟨q0, q1, q2, q3, q4⟩ := cells4 hP3.box
    cases res with
    | none =>
      rw [show worthO s1 none = 0 from rfl, show outE none = 2 from rfl]
      go_wp2_with fail
      clear q0 q1 q2 q3 q4
      refine (layout_ok W1 H1 K A1 A2 L c1 Ly c2 s1 l2 _ hP3.sl hs3 hn2 hcy2 (by omega) Hp.out).mono ?_
      rw [HR.out]
      rintro e w4 ⟨hb, ⟨-, rfl⟩ | ⟨p, A5, n5, c5, h, _⟩⟩
      · have hP4 := hP3.below hb
        have hs4 := hs3.below hb
        clear hb hP3 hs3
        obtain ⟨q0, q1, q2, q3, q4⟩ := cells4 hP4.box
        go_wp2_with fail
        clear q0 q1 q2 q3 q4
        refine (counts_ok W1 H1 K A1 A2 L c1 Ly c2 s1 l2 _ hP4.sl hs4 hn2 hcy2 (by omega) Hp.out).mono ?_
        rw [HR.out, show outE none = 2 from rfl]
        rintro e w5 ⟨hb, A6, n6, c6, rfl, hn6, hn6c, hc6, ho6⟩
        obtain rfl : n6 = 0 := hn6
        have hP5 := hP4.below hb
        have hs5 := hs4.below hb
        clear hb hP4 hs4 ho6
        obtain ⟨q0, q1, q2, q3, q4⟩ := cells4 hP5.box
        go_wp2_with fail
        clear q0 q1 q2 q3 q4
        refine (waste_ok W1 H1 K A1 A2 L c1 Ly c2 s1 l2 _ hP5.sl hs5 hn2 hcy2 (by omega) Hp.out).mono ?_
        rw [HR.out, show outE none = 2 from rfl, show wasteO W1 H1 none = 0 from rfl]
        rintro e w6 ⟨rfl, hb⟩
        have hP6 := hP5.below hb
        have hs6 := hs5.below hb
        clear hb hP5 hs5
        obtain ⟨q0, q1, q2, q3, q4⟩ := cells4 hP6.box
        go_wp2_with fail
        clear q0 q1 q2 q3 q4
        refine (refCheck_any W1 H1 K A1 L c1 s1 _ hP6.sl (by omega)).mono ?_
        rw [Hp.out]
        rintro e w7 ⟨rfl, hb⟩
        have hP7 := (hP6.below hb).alloc (.cells #[] 59)
        have hs7 := (hs6.below hb).alloc (.cells #[] 59)
        clear hb hP6 hs6
        obtain ⟨q0, q1, q2, q3, q4⟩ := cells4 hP7.box
        go_wp2_with fail
        clear q0 q1 q2 q3 q4
        refine (refLay_any W1 H1 K A1 A2 L c1 Ly c2 s1 l2 _ hP7.sl hs7 (by omega) Hp.out).mono ?_
        rw [HR.out]
        rintro e w8 ⟨hb, A8, n8, c8, ⟨-, rfl⟩ | ⟨p, h, _⟩⟩
        · have hP8 := hP7.below hb
          clear hb hP7 hs7
          go_wp2_with fail
          refine (lives_any _).mono ?_
          rintro e w6 ⟨rfl, hb6⟩
          have hf6 := (hP8.below hb6).bel
          clear hb6
          go_wp2
          exact hR.out _ _ ⟨rfl, hf6⟩
        · cases h
      · cases h
    | some p =>
      have hpo := planOut_ok Hp.out HR.out
      have Hpo := Lib.hid hpo
      have hpl4 : p.length ≤ 300 := by have := hpo.2.2.1; rw [HLy.out] at this; omega
      have hss2 := (panOk_ok Hp.out).2.2.2.2.2.2.1
      have hvv := (panOk_ok Hp.out).2.2.2.2.2.2.2
      have Hvv := Lib.hid (show ∀ s ∈ s1, 0 ≤ s.V ∧ s.V ≤ 1000000 from fun s hs => (hvv s hs).2.2)
      have hL16 : L ≤ 16 := by rw [← HL.out]; exact hss2
      obtain ⟨a0, ha0⟩ : ∃ a, areaP p = a := ⟨_, rfl⟩
      obtain ⟨v0, hv0⟩ : ∃ v, worthP s1 p = v := ⟨_, rfl⟩
      obtain ⟨np, hnp⟩ : ∃ v, p.length = v := ⟨_, rfl⟩
      have ha1 := hpo.2.2.2
      rw [ha0] at ha1
      obtain ⟨ha1, ha2⟩ := ha1
      obtain ⟨hW1, hW2, hH1, hH2, -⟩ := panOk_ok Hp.out
      obtain ⟨wh1, wh2⟩ := mul_bd (a := W1) (b := H1) (by omega) (by omega) hW2 hH2
      rw [show worthO s1 (some p) = v0 from hv0, show outE (some p) = 0 from rfl]
      rw [hnp] at hpl4
      have Hv0 := Lib.hid hv0
      have Ha0 := Lib.hid ha0
      have Hnp := Lib.hid hnp
      clear hpo hss2 hvv ha0 hv0 hnp
      go_wp2_with fail
      clear q0 q1 q2 q3 q4
      refine (layout_ok W1 H1 K A1 A2 L c1 Ly c2 s1 l2 _ hP3.sl hs3 hn2 hcy2 (by omega) Hp.out).mono ?_
      rw [HR.out]
      rintro e w4 ⟨hb, ⟨h, _⟩ | ⟨p', A5, n5, c5, h, rfl, hn5, ho5⟩⟩
      · cases h
      · injection h with h
        subst h
        obtain rfl : n5 = np := by rw [hn5, Hnp.out]
        have ht4 := SlE.of_own ho5 hn5
        have hP4 := hP3.below hb
        have hs4 := hs3.below hb
        clear hb hP3 hs3 ho5 hn5
        obtain ⟨q0, q1, q2, q3, q4⟩ := cells4 hP4.box
        go_wp2_with fail
        clear q0 q1 q2 q3 q4
        refine (counts_ok W1 H1 K A1 A2 L c1 Ly c2 s1 l2 _ hP4.sl hs4 hn2 hcy2 (by omega) Hp.out).mono ?_
        rw [HR.out, show outE (some p) = 0 from rfl]
        rintro e w5 ⟨hb, A6, n6, c6, rfl, hn6, hn6c, hc6, ho6⟩
        have hu5 := SlE.of_own ho6 hn6
        obtain rfl : n6 = L := by rw [hn6]; exact cntP_len L p
        have hu5 : SlE intE 1 w5 A6 n6 (cntP n6 p) := hu5
        have hP5 := hP4.below hb
        have hs5 := hs4.below hb
        have ht5 := ht4.below hb
        clear hb hP4 hs4 ho6 ht4 hn6
        obtain ⟨q0, q1, q2, q3, q4⟩ := cells4 hP5.box
        go_wp2_with fail
        clear q0 q1 q2 q3 q4
        refine (waste_ok W1 H1 K A1 A2 n6 c1 Ly c2 s1 l2 _ hP5.sl hs5 hn2 hcy2 (by omega) Hp.out).mono ?_
        rw [HR.out, show outE (some p) = 0 from rfl, show wasteO W1 H1 (some p) = W1 * H1 - areaP p from rfl, Ha0.out]
        rintro e w6 ⟨rfl, hb⟩
        have hP6 := hP5.below hb
        have hs6 := hs5.below hb
        have ht6 := ht5.below hb
        have hu6 := hu5.below hb
        clear hb hP5 hs5 ht5 hu5
        obtain ⟨q0, q1, q2, q3, q4⟩ := cells4 hP6.box
        go_wp2_with fail
        clear q0 q1 q2 q3 q4
        refine (refCheck_any W1 H1 K A1 n6 c1 s1 _ hP6.sl (by omega)).mono ?_
        rw [Hp.out]
        rintro e w7 ⟨rfl, hb⟩
        have hP7 := (hP6.below hb).alloc (.cells #[] 59)
        have hs7 := (hs6.below hb).alloc (.cells #[] 59)
        have ht7 := (ht6.below hb).alloc (.cells #[] 59)
        have hu7 := (hu6.below hb).alloc (.cells #[] 59)
        clear hb hP6 hs6 ht6 hu6
        obtain ⟨q0, q1, q2, q3, q4⟩ := cells4 hP7.box
        go_wp2_with fail
        clear q0 q1 q2 q3 q4
        refine (refLay_any W1 H1 K A1 A2 n6 c1 Ly c2 s1 l2 _ hP7.sl hs7 (by omega) Hp.out).mono ?_
        rw [HR.out]
        rintro e w8 ⟨hb, A8, n8, c8, ⟨h, _⟩ | ⟨p', h, rfl, hn8, ho8⟩⟩
        · cases h
        · injection h with h
          subst h
          obtain rfl : n8 = n5 := by rw [hn8, Hnp.out]
          have hx8 := SlE.of_own ho8 hn8
          have hP8 := hP7.below hb
          have ht8 := ht7.below hb
          have hu8 := hu7.below hb
          clear hb hP7 hs7 ht7 hu7 ho8 hn8
          obtain ⟨q0, q1, q2, q3, q4⟩ := cells4 hP8.box
          go_wp2_with (at_make; refine wpList_mkInt rfl (.tmp 148) (.tmp 148) _ rfl 3 Try.underlying45 infoInt8 n6 n6 rfl rfl rfl (by omega) ?_; intro w9 hw9 hg9; clear q0 q1 q2 q3 q4)
          have hb9 : Below w8.heap.size w8 w9 := (Below.refl _ _).grown hg9 (Nat.le_refl _) (fun k hk => by cases hk)
          have hc0 : w9.heap[w8.heap.size]? = some (.cells ((cntP n6 (p.take 0)).map (Value.int .i64)).toArray 3 (0, 0)) := by
            rw [hw9, List.take_zero, cntP_nil]; simp
          clear hw9 hg9
          go_loopw [20] (fun s20 wr => ∃ (j : Nat), j ≤ n8 ∧ s20 = .int .i64 j ∧ wr.heap[w8.heap.size]? = some (.cells ((cntP n6 (p.take j)).map (Value.int .i64)).toArray 3 (0, 0)) ∧ Below w8.heap.size w8 wr) (fun s20 _ => n8 - (intOf s20).toNat)
          case atStart => exact ⟨0, by omega, rfl, hc0, hb9⟩
          case round =>
            clear hc0 hb9
            obtain ⟨j, hj, rfl, hc0, hb⟩ := hrel
            obtain ⟨wi, rfl⟩ : ∃ wi : World, wi = wr := ⟨_, rfl⟩
            by_cases hlt : j < n8
            · obtain ⟨b, o, q, rfl, hbl, hq, e0, e1, e2, e3, e4⟩ := (hx8.below hb).at5 hlt
              obtain ⟨_, _, _, _, i, sh, hqs, hsh, _⟩ := Hpo.out.1 q (List.mem_of_getElem? hq)
              have him : i < n6 := by rw [← HL.out]; exact (List.getElem?_eq_some_iff.1 hsh).1
              obtain ⟨x, hx, hx0, hxj, hT⟩ := cntP_take n6 p j i q hq hqs him
              have y0 : wi.cell? ⟨w8.heap.size, i, none⟩ = some (.int .i64 x) := by rw [cell_of_row _ _ _ _ _ (0, 0) hc0]; simp [hx]
              have y1 : wi.frozen? ⟨w8.heap.size, i, none⟩ = false := by simp [World.frozen?, hc0]
              have hgz := (Array.getElem?_eq_some_iff.1 hc0).1
              have hN : (wi.setCell ⟨w8.heap.size, i, none⟩ (.int .i64 (x + 1))).heap[w8.heap.size]? = some (.cells ((cntP n6 (p.take (j + 1))).map (Value.int .i64)).toArray 3 (0, 0)) := by
                simp [World.setCell, Array.getElem?_modify, hc0, hT, List.map_set]
              have HN := Lib.hid hN
              have HB := Lib.hid (hb.setCell (p := ⟨w8.heap.size, i, none⟩) (Nat.le_refl _) (.int .i64 (x + 1)))
              rw [hqs] at e4
              have im : (i : Int) < (n6 : Int) := by omega
              clear hN hT hx hq hqs hsh hc0 hb
              go_wp2
              exact ⟨⟨j + 1, by omega, by go_num, HN.out, HB.out⟩, by simp [intOf]; omega⟩
            · obtain rfl : n8 = j := by omega
              rw [List.take_of_length_le (by rw [Hnp.out]; exact Nat.le_refl _)] at hc0
              have hg9 : SlE intE 1 wi (some ⟨w8.heap.size, 0, none⟩) n6 (cntP n6 p) := by
                refine ⟨(cntP_len n6 p).symm, by rw [flat_length intE_len]; simp [cntP_len], fun _ => ⟨_, 0, rfl, (Array.getElem?_eq_some_iff.1 hc0).1, fun k u hu => ?_⟩⟩
                rw [Nat.zero_add, cell_of_row _ _ _ _ _ (0, 0) hc0]
                rw [flat_int] at hu
                simpa using hu
              have hP9 := hP8.below hb
              have ht9 := ht8.below hb
              have hu9 := hu8.below hb
              have hx9 := hx8.below hb
              clear hc0 hb hP8 ht8 hu8 hx8
              obtain ⟨q0, q1, q2, q3, q4⟩ := cells4 hP9.box
              have hbl := hP9.lt
              have z1 : IntKind.i64.wrap (W1 * H1) = W1 * H1 := IntWalk.i64_in _ (by omega)
              have z2 : IntKind.i64.wrap (W1 * H1 - a0) = W1 * H1 - a0 := IntWalk.i64_in _ (by omega)
              have Hpk := Lib.hid (show ∀ q ∈ p, (1 ≤ q.W ∧ q.W ≤ 64) ∧ (1 ≤ q.H ∧ q.H ≤ 64) from fun q hq => by obtain ⟨_, _, h1, h2, _⟩ := Hpo.out.1 q hq; exact ⟨h1, h2⟩)
              go_wp2_with fail
              go_region_held3 (fun w' => w'.cell? ⟨w2.heap.size, 0, none⟩ = some (.int .i64 W1) ∧ w'.cell? ⟨w2.heap.size, 1, none⟩ = some (.int .i64 H1) ∧ w'.cell? ⟨w2.heap.size, 3, none⟩ = some (.slice A1 n6 c1))
                (first | go_keep | exact ⟨(hl1.cell (p := ⟨w2.heap.size, 0, none⟩) hbl).trans q0, (hl1.cell (p := ⟨w2.heap.size, 1, none⟩) hbl).trans q1, (hl1.cell (p := ⟨w2.heap.size, 3, none⟩) hbl).trans q3⟩)
                (first
                | (go_at_call 35; refine (refWorth_any A1 A8 n6 c1 n8 c8 s1 p _ (by exact hP9.sl) (by exact hx9) hL16 (by omega) Hpo.out.1 Hvv.out).mono ?_; rw [Hv0.out]; rintro e w' ⟨rfl, rfl⟩)
                | (go_at_call 36; refine (pieces_same A5 A8 n8 c5 c8 p _ (by exact ht9) (by exact hx9) (by omega)).mono ?_; rintro e w' ⟨rfl, k5, rfl⟩)
                | (go_at_call 24; refine (same_any A6 _ n6 c6 n6 n6 (cntP n6 p) (cntP n6 p) _ (by exact hu9) (by exact hg9) (by omega) (by omega)).mono ?_; rw [decide_eq_true rfl]; rintro e w' ⟨rfl, k6, rfl⟩)
                | (go_at_call 37; refine (refArea_any A8 n8 c8 p _ (by exact hx9) (by omega) Hpk.out).mono ?_; rw [Ha0.out]; rintro e w' ⟨rfl, k7, rfl⟩)
                | (go_at_call 18; refine (lives_any _).mono ?_; rintro e w10 ⟨rfl, hb1⟩; have hl1 : Below wi.heap.size wi w10 := ⟨hb1.os, hb1.tape, hb1.output, hb1.size, fun j hj => hb1.block j hj⟩; have hf := hP9.bel.trans (hl1.mono hP9.bel.size)))
              go_wp2
              exact hR.out _ _ ⟨rfl, hf⟩
  · have Hp := Lib.hid (show panOk W1 H1 K s1 = false from by simpa using hp)
    clear hp
    go_enter Try.func13, Try.ntmps13
    go_wp2_with fail
    refine (few_any _ _ _ _ _ _ ss _ (hS.alloc _) hnc hc).mono ?_
    rw [Hes.out, HL.out, HW.out, HH.out]
    rintro e w1 ⟨A1, c1, rfl, ho1, hb1⟩
    have hf1 : Below w.heap.size w w1 := (below_new w _).trans (hb1.mono (by simp))
    have hs1 := SlE.of_own ho1 HL.out.symm
    have hY1 := hY.below hf1
    clear ho1 hb1
    go_wp2_with fail
    refine (brief_any Ay ny cy ly _ hY1 hny hcy).mono ?_
    rw [Hl2.out, HLy.out]
    rintro e w2 ⟨A2, c2, rfl, hn2, hc2, ho2, hb⟩
    have hP : Pn w (w2.alloc (.cells #[.int .i64 W1, .int .i64 H1, .int .i64 K, .slice A1 L c1] 24)) w2.heap.size W1 H1 K A1 c1 L s1 :=
      ⟨(hs1.below hb).alloc _, heap_alloc_new w2 _, (hf1.trans (hb.mono hf1.size)).alloc (Nat.le_trans hf1.size hb.size) _⟩
    have hs2 := (SlE.of_own ho2 HLy.out.symm).alloc (.cells #[.int .i64 W1, .int .i64 H1, .int .i64 K, .slice A1 L c1] 24)
    clear hb ho2 hf1 hs1 hY1
    obtain ⟨q0, q1, q2, q3, q4⟩ := cells4 hP.box
    go_wp2_with fail
    try clear q0 q1 q2 q3 q4
    refine (worth_no W1 H1 K A1 A2 L c1 Ly c2 s1 _ hP.sl (by omega) Hp.out).mono ?_
    rintro e wq3 ⟨rfl, hb⟩
    have hP3 := hP.below hb
    obtain ⟨q0, q1, q2, q3, q4⟩ := cells4 hP3.box
    clear hb
    go_wp2_with fail
    try clear q0 q1 q2 q3 q4
    refine (layout_no W1 H1 K A1 A2 L c1 Ly c2 s1 _ hP3.sl (by omega) Hp.out).mono ?_
    rintro e wq4 ⟨rfl, hb⟩
    have hP4 := hP3.below hb
    obtain ⟨q0, q1, q2, q3, q4⟩ := cells4 hP4.box
    clear hb
    go_wp2_with fail
    try clear q0 q1 q2 q3 q4
    refine (counts_no W1 H1 K A1 A2 L c1 Ly c2 s1 _ hP4.sl (by omega) Hp.out).mono ?_
    rintro e wq5 ⟨rfl, hb⟩
    have hP5 := hP4.below hb
    obtain ⟨q0, q1, q2, q3, q4⟩ := cells4 hP5.box
    clear hb
    go_wp2_with fail
    try clear q0 q1 q2 q3 q4
    refine (waste_no W1 H1 K A1 A2 L c1 Ly c2 s1 _ hP5.sl (by omega) Hp.out).mono ?_
    rintro e wq6 ⟨rfl, hb⟩
    have hP6 := hP5.below hb
    obtain ⟨q0, q1, q2, q3, q4⟩ := cells4 hP6.box
    clear hb
    go_wp2_with fail
    try clear q0 q1 q2 q3 q4
    refine (refCheck_any W1 H1 K A1 L c1 s1 _ hP6.sl (by omega)).mono ?_
    rw [Hp.out]
    rintro e wq7 ⟨rfl, hb⟩
    have hP7 := hP6.below hb
    obtain ⟨q0, q1, q2, q3, q4⟩ := cells4 hP7.box
    clear hb
    have hP8 := hP7.alloc (.cells #[] 59)
    go_wp2_with fail
    refine (lives_any _).mono ?_
    rintro e w6 ⟨rfl, hb6⟩
    have hf6 := (hP8.below hb6).bel
    clear hb6
    go_wp2
    exact hR.out _ _ ⟨rfl, hf6⟩
end Go.Proofs.Ytfkpioibinpfhaa
