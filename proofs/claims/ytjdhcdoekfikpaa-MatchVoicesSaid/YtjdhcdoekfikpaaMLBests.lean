/-
  The contract of clavecinlaw05.MatchBests: true at every input.
-/
import Derived.Test.YtjdhcdoekfikpaaMLProves
import Derived.Test.YtjdhcdoekfikpaaMFg
namespace Go.Proofs.Ytjdhcdoekfikpaa
open Go.RowKit

theorem tok_tab {T : List (List Int)} {m R C : Nat} (h : TOk T m) (h1 : 1 ≤ R) (h2 : R ≤ C) : TOk (tabL R C T) (min C m) := by
  have a := h.n1
  have b := h.nm
  have c := h.m64
  refine ⟨by rw [tabL_len]; omega, by rw [tabL_len]; omega, by omega, fun x hx => ?_, fun x hx v hv => ?_⟩
  · obtain ⟨r, hr, rfl⟩ := List.mem_map.1 hx
    rw [List.length_take, h.rect r (List.mem_of_mem_take hr)]
  · obtain ⟨r, hr, rfl⟩ := List.mem_map.1 hx
    exact h.cell r (List.mem_of_mem_take hr) v (List.mem_of_mem_take hv)
theorem no_asg' {T : List (List Int)} {m : Nat} (h : kuhn (gT T) m (List.range T.length) ≠ T.length) : bestO T m = none := (bestO_iff T m).2 h
set_option maxRecDepth 100000 in
set_option maxHeartbeats 8000000 in
theorem bests_any (A : Option Addr) (n c : Nat) (T : List (List Int)) (w : World) (hT : SlRc w A n T) (hn : n ≤ 9223372036854775807) :
    Calls Try.prog 3 #[.slice A n c] w fun e w' => e = .returned (.bool true) ∧ Below w.heap.size w w' := by
  refine calls_cps ?_
  intro R hR
  obtain ⟨T1, hT1⟩ : ∃ T1, tabL 66 66 T = T1 := ⟨_, rfl⟩
  obtain ⟨L, hL⟩ : ∃ L, T1.length = L := ⟨_, rfl⟩
  have HT1 := Lib.hid hT1
  have HL := Lib.hid hL
  have HT := Lib.hid hT
  clear hT1 hL hT
  go_enter Try.func3, Try.ntmps3
  go_wp2_with fail
  refine (table_tc A n c T _ _ 66 66 rfl rfl (by omega) (by omega) _ HT.out hn).mono ?_
  rw [HT1.out, HL.out]
  rintro e w1 ⟨A1, c1, rfl, h1⟩
  have H1 := Lib.hid h1
  clear h1
  by_cases hb : tabB T1 = true
  · obtain ⟨m, hok⟩ := tok_of hb
    have Hok := Lib.hid hok
    have Hb := Lib.hid hb
    have hL64 : L ≤ 64 := by rw [← HL.out]; exact Nat.le_trans hok.nm hok.m64
    clear hok hb
    go_wp2_with fail
    refine (refCheck_any A1 L c1 T1 _ H1.out.rc.slr (by omega) H1.out.rc.rowle).mono ?_
    rw [if_pos Hb.out]
    rintro e w2 ⟨rfl, hq2⟩
    have H2 := Lib.hid (H1.out.qt hq2)
    clear hq2
    go_upto_if 20 with fail
    go_cut [3] (fun s3 wx => ∃ (A' : Option Addr) (c' L' m' : Nat) (T' : List (List Int)), s3 = .slice A' L' c' ∧ L' ≤ 64 ∧ Hid (Tc w wx A' L' c' T') ∧ Hid (TOk T' m'))
    case first =>
      by_cases h5 : 5 < L
      · have i1 : (5 : Int) < (L : Int) := by omega
        go_wp2_with fail
        refine (table_tc A1 L c1 T1 _ _ 5 7 rfl rfl (by omega) (by omega) _ H2.out.rc (by omega)).mono ?_
        rintro e w3 ⟨A3, c3, rfl, h3⟩
        have hl : (tabL 5 7 T1).length ≤ 64 := by rw [tabL_len]; omega
        have H3 := Lib.hid (show Tc w w3 A3 (tabL 5 7 T1).length c3 (tabL 5 7 T1) from ⟨h3.rc, h3.l66, H2.out.bel.trans (h3.bel.mono H2.out.bel.size)⟩)
        clear h3
        go_wp2
        go_meet
        exact ⟨A3, c3, _, min 7 m, _, rfl, hl, H3, Lib.hid (tok_tab Hok.out (by omega) (by omega))⟩
      · have i1 : (L : Int) ≤ 5 := by omega
        go_wp2_with fail
        go_meet
        exact ⟨A1, c1, L, m, T1, rfl, hL64, H2, Hok⟩
    case rest =>
      obtain ⟨A3, c3, L3, m3, T3, e3, hL3, H3, Hok3⟩ := hcut
      subst e3
      obtain ⟨w3, rfl⟩ : ∃ w3 : World, w3 = wc := ⟨_, rfl⟩
      clear H2 Hok H1 Hb
      obtain ⟨b, o, A0, c0, rfl, hh⟩ := H3.out.rc.slr.head (by rw [H3.out.n]; exact Hok3.out.n1)
      have i0 : (0 : Int) < (L3 : Int) := by
        have := H3.out.n
        have := Hok3.out.n1
        omega
      rw [Hok3.out.wid] at hh
      go_upto_if 31 with fail
      go_cut [3] (fun s3 wx => ∃ (A' : Option Addr) (c' L' m' : Nat) (T' : List (List Int)), s3 = .slice A' L' c' ∧ L' ≤ 64 ∧ Hid (Tc w wx A' L' c' T') ∧ Hid (TOk T' m'))
      case first =>
        by_cases h5 : 7 < m3
        · have i1 : (7 : Int) < (m3 : Int) := by omega
          go_wp2_with fail
          refine (table_tc (some ⟨b, o, none⟩) L3 c3 T3 _ _ 5 7 rfl rfl (by omega) (by omega) _ H3.out.rc (by omega)).mono ?_
          rintro e w4 ⟨A4, c4, rfl, h4⟩
          have hl : (tabL 5 7 T3).length ≤ 64 := by rw [tabL_len]; omega
          have H4 := Lib.hid (show Tc w w4 A4 (tabL 5 7 T3).length c4 (tabL 5 7 T3) from ⟨h4.rc, h4.l66, H3.out.bel.trans (h4.bel.mono H3.out.bel.size)⟩)
          clear h4
          go_wp2
          go_meet
          exact ⟨A4, c4, _, min 7 m3, _, rfl, hl, H4, Lib.hid (tok_tab Hok3.out (by omega) (by omega))⟩
        · have i1 : (m3 : Int) ≤ 7 := by omega
          go_wp2_with fail
          go_meet
          exact ⟨some ⟨b, o, none⟩, c3, L3, m3, T3, rfl, hL3, H3, Hok3⟩
      case rest =>
        clear H3 Hok3 hL3 hh i0
        obtain ⟨A2, c2, L2, m2, T2, e2, hL2, H2, Hok⟩ := hcut
        subst e2
        obtain ⟨w2, rfl⟩ : ∃ w2 : World, w2 = wc := ⟨_, rfl⟩
        have HN := Lib.hid H2.out.n
        by_cases hKL : kuhn (gT T2) m2 (List.range L2) = L2
        · have Hyes := Lib.hid hKL
          clear hKL
          go_wp2_with fail
          refine (best_yesT w A2 L2 c2 m2 T2 _ H2.out Hok.out Hyes.out).mono ?_
          rintro e w4 ⟨B1, B2, B3, d1, d2, d3, l, s, lu, lv, rfl, hB, hM, h4⟩
          have hbx := below_new w4 (.cells #[.slice B1 L2 d1, .slice B2 L2 d2, .slice B3 m2 d3, .int .i64 s] 28)
          have H4 := Lib.hid (h4.below hbx)
          have HM4 := Lib.hid (hM.below hbx)
          have HX4 := Lib.hid (heap_alloc_new w4 (.cells #[.slice B1 L2 d1, .slice B2 L2 d2, .slice B3 m2 d3, .int .i64 s] 28))
          have HB := Lib.hid hB
          clear h4 hM hB hbx
          go_wp2_with fail
          refine (refBest_some _ A2 L2 c2 m2 T2 H4.out.rc.slr Hok.out l s (bestO_eq HB.out.best)).mono ?_
          rintro e w5 ⟨A5, c5, rfl, hs5, _, _, hb5⟩
          have hx5 := (hb5.block _ (Array.getElem?_eq_some_iff.1 HX4.out).1).trans HX4.out
          have H5 := Lib.hid (H4.out.below hb5)
          have HM5 := Lib.hid (HM4.out.below hb5)
          have HX5 := Lib.hid hx5
          have Hs5 := Lib.hid hs5
          clear hs5 hb5
          obtain ⟨r0, r1, r2, r3, r4⟩ := cells4 hx5
          clear hx5
          go_wp2_with fail
          refine (same_any B1 A5 L2 d1 L2 c5 (castL l) (castL l) _ HM5.out.s1 Hs5.out (by omega) (by omega)).mono ?_
          rw [decide_eq_true rfl]
          rintro e w6 ⟨rfl, hq6⟩
          have hx6 := (hq6.below.block _ (Array.getElem?_eq_some_iff.1 HX5.out).1).trans HX5.out
          have H6 := Lib.hid (H5.out.qt hq6)
          have HM6 := Lib.hid (HM5.out.below hq6.below)
          clear hq6 r0 r1 r2 r3 r4
          obtain ⟨r0, r1, r2, r3, r4⟩ := cells4 hx6
          clear hx6
          have g2 : (s == s) = true := by simp
          go_wp2_with fail
          refine (lawProves_yes A2 L2 c2 m2 T2 B1 B2 B3 d1 d2 d3 l lu lv s _ H6.out.rc.slr Hok.out HM6.out.s1 HM6.out.s2 HM6.out.s3 HB.out).mono ?_
          rintro e w7 ⟨rfl, hb7⟩
          have H7 := Lib.hid (H6.out.below hb7)
          clear hb7 r0 r1 r2 r3 r4 g2
          go_wp2_with fail
          refine (lives_T w A2 L2 c2 T2 _ H7.out).mono ?_
          rintro e w8 ⟨rfl, h8⟩
          have Hf := Lib.hid (hR.out (.returned (.bool true)) w8 ⟨rfl, h8.bel⟩)
          clear h8
          go_wp2
          exact Hf.out
        · have Hno := Lib.hid hKL
          clear hKL
          go_wp2_with fail
          refine (best_noneT w A2 L2 c2 m2 T2 _ H2.out Hok.out Hno.out).mono ?_
          rintro e w4 ⟨rfl, h4⟩
          have hbx := below_new w4 (.cells #[.slice none 0 0, .slice none 0 0, .slice none 0 0, .int .i64 0] 28)
          have H4 := Lib.hid (h4.below hbx)
          have HX4 := Lib.hid (heap_alloc_new w4 (.cells #[.slice none 0 0, .slice none 0 0, .slice none 0 0, .int .i64 0] 28))
          clear h4 hbx
          go_wp2_with fail
          refine (refBest_none _ A2 L2 c2 m2 T2 H4.out.rc.slr Hok.out (no_asg' (by rw [← HN.out]; exact Hno.out))).mono ?_
          rintro e w5 ⟨v5, s5, rfl, hb5⟩
          have hx5 := (hb5.block _ (Array.getElem?_eq_some_iff.1 HX4.out).1).trans HX4.out
          have H5 := Lib.hid (H4.out.below hb5)
          clear hb5
          obtain ⟨r0, r1, r2, r3, r4⟩ := cells4 hx5
          clear hx5
          go_wp2_with fail
          refine (empty_yes _).mono ?_
          rintro e w6 ⟨rfl, hb6⟩
          have H6 := Lib.hid (H5.out.below hb6)
          clear hb6 r0 r1 r2 r3 r4
          go_wp2_with fail
          refine (lives_T w A2 L2 c2 T2 _ H6.out).mono ?_
          rintro e w8 ⟨rfl, h8⟩
          have Hf := Lib.hid (hR.out (.returned (.bool true)) w8 ⟨rfl, h8.bel⟩)
          clear h8
          go_wp2
          exact Hf.out
  · have hb' : tabB T1 = false := by simpa using hb
    have Hb := Lib.hid hb'
    clear hb hb'
    go_wp2_with fail
    refine (refCheck_noT w A1 L c1 T1 _ H1.out Hb.out).mono ?_
    rintro e w3 ⟨rfl, h3⟩
    have H3 := Lib.hid h3
    clear h3
    go_wp2_with fail
    refine (best_noT w A1 L c1 T1 _ H3.out Hb.out).mono ?_
    rintro e w4 ⟨rfl, h4⟩
    have hbx := below_new w4 (.cells #[.slice none 0 0, .slice none 0 0, .slice none 0 0, .int .i64 0] 28)
    have H4 := Lib.hid (h4.below hbx)
    obtain ⟨r0, r1, r2, r3, r4⟩ := cells4 (heap_alloc_new w4 (.cells #[.slice none 0 0, .slice none 0 0, .slice none 0 0, .int .i64 0] 28))
    clear h4 hbx
    go_wp2_with fail
    refine (empty_yes _).mono ?_
    rintro e w6 ⟨rfl, hb6⟩
    have H6 := Lib.hid (H4.out.below hb6)
    clear hb6 r0 r1 r2 r3 r4
    go_wp2_with fail
    refine (lives_T w A1 L c1 T1 _ H6.out).mono ?_
    rintro e w8 ⟨rfl, h8⟩
    have Hf := Lib.hid (hR.out (.returned (.bool true)) w8 ⟨rfl, h8.bel⟩)
    clear h8
    go_wp2
    exact Hf.out
end Go.Proofs.Ytjdhcdoekfikpaa
