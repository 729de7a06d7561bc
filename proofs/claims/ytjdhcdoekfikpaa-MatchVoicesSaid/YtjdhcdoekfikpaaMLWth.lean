/-
  The contract of clavecinlaw05.MatchWithouts: true at every input.
-/
import Derived.Test.YtjdhcdoekfikpaaMLBests
import Derived.Test.YtjdhcdoekfikpaaMWithout
namespace Go.Proofs.Ytjdhcdoekfikpaa
open Go.RowKit

theorem table_tc2 (A : Option Addr) (n c : Nat) (T : List (List Int)) (x y : Int) (R C : Nat) (hx : x = (R : Int)) (hy : y = (C : Int)) (hR : R ≤ 66) (hC : C ≤ 66) (w : World) (hT : SlRc w A n T) (hn : n ≤ 9223372036854775807) :
    Calls Try.prog 20 #[.slice A n c, .int .i64 x, .int .i64 y] w fun e w' => ∃ A' c', e = .returned (.slice A' (tabL R C T).length c') ∧ ((tabL R C T).length ≤ c' ∧ c' ≤ 9223372036854775807) ∧ Tc w w' A' (tabL R C T).length c' (tabL R C T) := by
  subst hx hy
  refine (table_any A n c T R C hR hC w hT hn).mono ?_
  rintro e w' ⟨A', c', rfl, ht, hb⟩
  have hl : (tabL R C T).length = min R n := by rw [tabL_len, ← hT.1]
  rw [hl]
  obtain ⟨outer, ho⟩ := id ht
  exact ⟨A', c', rfl, (own_lo ho.own).2, ht.slrc, by omega, hb⟩
set_option maxRecDepth 100000 in
set_option maxHeartbeats 8000000 in
theorem withouts_any (A : Option Addr) (n c : Nat) (T : List (List Int)) (row : Int) (w : World) (hT : SlRc w A n T) (hn : n ≤ 9223372036854775807) :
    Calls Try.prog 15 #[.slice A n c, .int .i64 row] w fun e w' => e = .returned (.bool true) ∧ Below w.heap.size w w' := by
  refine calls_cps ?_
  intro R hR
  obtain ⟨T1, hT1⟩ : ∃ T1, tabL 66 66 T = T1 := ⟨_, rfl⟩
  obtain ⟨L, hL⟩ : ∃ L, T1.length = L := ⟨_, rfl⟩
  have HT1 := Lib.hid hT1
  have HL := Lib.hid hL
  have HT := Lib.hid hT
  clear hT1 hL hT
  go_enter Try.func15, Try.ntmps15
  go_wp2_with fail
  refine (table_tc2 A n c T _ _ 66 66 rfl rfl (by omega) (by omega) _ HT.out hn).mono ?_
  rw [HT1.out, HL.out]
  rintro e w1 ⟨A1, c1, rfl, hc1, h1⟩
  have H1 := Lib.hid h1
  clear h1
  by_cases hb : tabB T1 = true
  · obtain ⟨m, hok⟩ := tok_of hb
    have Hok := Lib.hid hok
    have Hb := Lib.hid hb
    have hL64 : L ≤ 64 := by rw [← HL.out]; exact Nat.le_trans hok.nm hok.m64
    clear hok hb
    go_wp2_with fail
    refine (refCheck_any A1 L c1 T1 _ H1.out.rc.slr (by omega) H1.out.rc.rowle).mono ?_
    rw [if_pos Hb.out]
    rintro e w2 ⟨rfl, hq2⟩
    have H2 := Lib.hid (H1.out.qt hq2)
    clear hq2
    obtain ⟨b, o, A0, c0, rfl, hh⟩ := H2.out.rc.slr.head (by rw [H2.out.n]; exact Hok.out.n1)
    have i0 : (0 : Int) < (L : Int) := by
      have := H2.out.n
      have := Hok.out.n1
      omega
    rw [Hok.out.wid] at hh
    obtain ⟨bb, hbb⟩ : ∃ bb, (decide (5 < (L : Int)) || decide (6 < (m : Int))) = bb := ⟨_, rfl⟩
    have Hbb := Lib.hid hbb
    clear hbb
    go_upto_region 3 with fail
    go_cut [29] (fun s29 wx => s29 = .bool bb ∧ w2 = wx)
    case first =>
      by_cases h5 : 5 < L
      · have i1 : (5 : Int) < (L : Int) := by omega
        have hb1 : bb = true := by rw [← Hbb.out, decide_eq_true i1]; rfl
        subst hb1
        go_wp2_with fail
        go_meet
        exact ⟨rfl, rfl⟩
      · have i1 : (L : Int) ≤ 5 := by omega
        by_cases h6 : 6 < m
        · have i2 : (6 : Int) < (m : Int) := by omega
          have hb1 : bb = true := by rw [← Hbb.out, decide_eq_true i2]; simp
          subst hb1
          go_wp2_with fail
          go_meet
          exact ⟨rfl, rfl⟩
        · have i2 : (m : Int) ≤ 6 := by omega
          have hb1 : bb = false := by rw [← Hbb.out, decide_eq_false (by omega), decide_eq_false (by omega)]; rfl
          subst hb1
          have i3 : decide (5 < (L : Int)) = false := decide_eq_false (by omega)
          have i4 : decide (6 < (m : Int)) = false := decide_eq_false (by omega)
          go_wp2_with fail
          go_meet
          exact ⟨by simp, rfl⟩
    case rest =>
      obtain ⟨e1, e2⟩ := hcut
      subst e1 e2
      go_upto_if 29 with fail
      go_cut [5] (fun s5 wx => ∃ (A' : Option Addr) (c' L' m' : Nat) (T' : List (List Int)), s5 = .slice A' L' c' ∧ L' ≤ 64 ∧ L' ≤ c' ∧ c' ≤ 9223372036854775807 ∧ Hid (Tc w wx A' L' c' T') ∧ Hid (TOk T' m'))
      case first =>
        cases bb
        · go_wp2_with fail
          go_meet
          exact ⟨some ⟨b, o, none⟩, c1, L, m, T1, rfl, hL64, hc1.1, hc1.2, H2, Hok⟩
        · go_wp2_with fail
          refine (table_tc2 (some ⟨b, o, none⟩) L c1 T1 _ _ 5 6 rfl rfl (by omega) (by omega) _ H2.out.rc (by omega)).mono ?_
          rintro e w4 ⟨A4, c4, rfl, hc4, h4⟩
          have hl : (tabL 5 6 T1).length ≤ 64 := by rw [tabL_len]; omega
          have H4 := Lib.hid (show Tc w w4 A4 (tabL 5 6 T1).length c4 (tabL 5 6 T1) from ⟨h4.rc, h4.l66, H2.out.bel.trans (h4.bel.mono H2.out.bel.size)⟩)
          clear h4
          go_wp2
          go_meet
          exact ⟨A4, c4, _, min 6 m, _, rfl, hl, hc4.1, hc4.2, H4, Lib.hid (tok_tab Hok.out (by omega) (by omega))⟩
      case rest =>
        clear H2 Hok H1 hL64 hh i0 hc1 Hb Hbb
        obtain ⟨A2, c2, L2, m2, T2, e2, hL2, hc2, hc3, H2, Hok⟩ := hcut
        subst e2
        obtain ⟨w2, rfl⟩ : ∃ w2 : World, w2 = wc := ⟨_, rfl⟩
        have HN := Lib.hid H2.out.n
        have hL1 : 1 ≤ L2 := by rw [HN.out]; exact Hok.out.n1
        have Hrow := Lib.hid H2.out.rc.rowle
        by_cases hin : row < 0 ∨ (L2 : Int) ≤ row
        · have Hin := Lib.hid hin
          go_wp2_with fail
          refine (mWithout_no A2 L2 c2 T2 row _ H2.out.rc.slr (by omega) Hrow.out (.inr Hin.out)).mono ?_
          rintro e w3 ⟨rfl, rfl⟩
          have Hend := Lib.hid ((lives_T w A2 L2 c2 T2 w2 H2.out).mono fun e w' hh => (⟨hh.1, hR.out _ _ ⟨rfl, hh.2.bel⟩⟩ : e = .returned (.bool true) ∧ R (.returned (.bool true)) w'))
          clear hin
          by_cases h0 : row < 0
          · clear Hin
            go_wp2_with fail
            refine Hend.out.mono ?_
            rintro e w4 ⟨rfl, h4⟩
            go_wp2
            exact h4
          · have h1 : (L2 : Int) ≤ row := Hin.out.resolve_left h0
            have h2 : 0 ≤ row := by omega
            clear Hin h0
            go_wp2_with fail
            refine Hend.out.mono ?_
            rintro e w4 ⟨rfl, h4⟩
            go_wp2
            exact h4
        · obtain ⟨k, rfl⟩ : ∃ k : Nat, row = (k : Int) := ⟨row.toNat, by omega⟩
          have hk : k < L2 := by omega
          clear hin
          by_cases h1 : L2 = 1
          · subst h1
            obtain rfl : k = 0 := by omega
            go_wp2_with fail
            refine (mWithout_one A2 c2 m2 T2 _ H2.out.rc.slr Hok.out).mono ?_
            rintro e w3 ⟨rfl, rfl⟩
            go_wp2_with fail
            refine (refWithout_any A2 1 c2 0 T2 _ H2.out.rc.slr (by omega) (by omega)).mono ?_
            rintro e w4 ⟨A4, c4, rfl, _, hb4⟩
            have H4 := Lib.hid (H2.out.below hb4)
            clear hb4
            go_wp2_with fail
            refine (refBest_zero _ A4 c4).mono ?_
            rintro e w5 ⟨v5, rfl, hb5⟩
            have H5 := Lib.hid (H4.out.below hb5)
            clear hb5
            go_wp2_with fail
            refine (lives_T w A2 1 c2 T2 _ H5.out).mono ?_
            rintro e w8 ⟨rfl, h8⟩
            have Hf := Lib.hid (hR.out (.returned (.bool true)) w8 ⟨rfl, h8.bel⟩)
            clear h8
            go_wp2
            exact Hf.out
          · have h2 : 2 ≤ L2 := by omega
            have i1 : decide ((k : Int) < 0) = false := by simp
            have i2 : (k : Int) < (L2 : Int) := by omega
            have i3 : decide (L2 ≤ k) = false := by simp; omega
            clear h1
            go_wp2_with fail
            refine (mWithout_any A2 L2 c2 m2 k T2 _ H2.out.rc.slr Hok.out h2 hk hc2 hc3).mono ?_
            rintro e w3 ⟨hcase, hb3⟩
            have H3 := Lib.hid (H2.out.below hb3)
            have hokE := Lib.hid (tok_erase Hok.out (by rw [← HN.out]; exact h2) (by rw [← HN.out]; exact hk))
            obtain ⟨E, hE⟩ : ∃ E, T2.eraseIdx k = E := ⟨_, rfl⟩
            rw [hE] at hcase hokE
            have HE := Lib.hid hE
            clear hb3 hE
            rcases hcase with ⟨hno, rfl⟩ | ⟨l, s, hyes, rfl⟩
            · have Hno := Lib.hid hno
              clear hno
              go_wp2_with fail
              refine (refWithout_any A2 L2 c2 k T2 _ H3.out.rc.slr (by omega) hk).mono ?_
              rw [HE.out]
              rintro e w4 ⟨A4, c4, rfl, hs4, hb4⟩
              have H4 := Lib.hid (H3.out.below hb4)
              have Hs4 := Lib.hid hs4
              clear hb4 hs4
              go_wp2_with fail
              refine (refBest_none _ A4 (L2 - 1) c4 m2 E Hs4.out hokE.out Hno.out).mono ?_
              rintro e w5 ⟨v5, s5, rfl, hb5⟩
              have H5 := Lib.hid (H4.out.below hb5)
              clear hb5
              go_wp2_with fail
              refine (lives_T w A2 L2 c2 T2 _ H5.out).mono ?_
              rintro e w8 ⟨rfl, h8⟩
              have Hf := Lib.hid (hR.out (.returned (.bool true)) w8 ⟨rfl, h8.bel⟩)
              clear h8
              go_wp2
              exact Hf.out
            · have Hyes := Lib.hid hyes
              clear hyes
              go_wp2_with fail
              refine (refWithout_any A2 L2 c2 k T2 _ H3.out.rc.slr (by omega) hk).mono ?_
              rw [HE.out]
              rintro e w4 ⟨A4, c4, rfl, hs4, hb4⟩
              have H4 := Lib.hid (H3.out.below hb4)
              have Hs4 := Lib.hid hs4
              clear hb4 hs4
              go_wp2_with fail
              refine (refBest_some _ A4 (L2 - 1) c4 m2 E Hs4.out hokE.out l s Hyes.out).mono ?_
              rintro e w5 ⟨A5, c5, rfl, _, _, _, hb5⟩
              have H5 := Lib.hid (H4.out.below hb5)
              have g1 : (s == s) = true := by simp
              clear hb5
              go_wp2_with fail
              refine (lives_T w A2 L2 c2 T2 _ H5.out).mono ?_
              rintro e w8 ⟨rfl, h8⟩
              have Hf := Lib.hid (hR.out (.returned (.bool true)) w8 ⟨rfl, h8.bel⟩)
              clear h8
              go_wp2
              exact Hf.out
  · have hb' : tabB T1 = false := by simpa using hb
    have Hb := Lib.hid hb'
    have hl66 := H1.out.l66
    clear hb hb'
    go_wp2_with fail
    refine (refCheck_noT w A1 L c1 T1 _ H1.out Hb.out).mono ?_
    rintro e w3 ⟨rfl, h3⟩
    have H3 := Lib.hid h3
    clear h3
    go_wp2_with fail
    refine (mWithout_no A1 L c1 T1 row _ H3.out.rc.slr (by omega) H3.out.rc.rowle (.inl Hb.out)).mono ?_
    rintro e w4 ⟨rfl, rfl⟩
    go_wp2_with fail
    refine (lives_T w A1 L c1 T1 _ H3.out).mono ?_
    rintro e w8 ⟨rfl, h8⟩
    have Hf := Lib.hid (hR.out (.returned (.bool true)) w8 ⟨rfl, h8.bel⟩)
    clear h8
    go_wp2
    exact Hf.out
end Go.Proofs.Ytjdhcdoekfikpaa
