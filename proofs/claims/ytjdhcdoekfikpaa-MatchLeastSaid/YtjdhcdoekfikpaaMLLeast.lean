/-
  The contract of clavecinlaw05.MatchLeast: true at every input.
-/
import Derived.Test.YtjdhcdoekfikpaaMCut
namespace Go.Proofs.Ytjdhcdoekfikpaa
open Go.RowKit

theorem no_asg {T : List (List Int)} {m : Nat} (h : kuhn (gT T) m (List.range T.length) ≠ T.length) : ¬ ∃ f, Asg T m f := bestO_none ((bestO_iff T m).2 h)
theorem lex_at {a b : List Nat} {i : Nat} (h : lexLe a b) (ht : a.take i = b.take i) (hne : a.getD i 0 ≠ b.getD i 0) : a.getD i 0 < b.getD i 0 := by
  rcases h with rfl | ⟨j, hj1, hj2, hj3, hj4⟩
  · exact absurd rfl hne
  · rcases Nat.lt_trichotomy i j with h1 | h1 | h1
    · exact absurd (take_getD hj3 h1) hne
    · subst h1; exact hj4
    · have := take_getD ht h1
      omega
theorem take_eq_nat {a b : List Nat} {k : Nat} (h : a.take k = b.take k) (ha : k < a.length) (hb : k < b.length) (he : a.getD k 0 = b.getD k 0) : a.take (k + 1) = b.take (k + 1) := by
  rw [getD_get _ _ _ ha, getD_get _ _ _ hb] at he
  rw [List.take_succ_eq_append_getElem ha, List.take_succ_eq_append_getElem hb, h, he]
theorem cast_at {w : World} {A : Option Addr} {n i : Nat} {l : List Nat} (h : SlE intE 1 w A n (castL l)) (hi : i < n) : ∃ b o, A = some ⟨b, o, none⟩ ∧ w.cell? ⟨b, o + i, none⟩ = some (.int .i64 ((l.getD i 0 : Nat) : Int)) := by
  obtain ⟨b, o, x, hA, _, hx, hc⟩ := h.at1 hi
  refine ⟨b, o, hA, ?_⟩
  rw [hc, ← castL_getD, List.getD_eq_getElem?_getD, hx]
  rfl
set_option maxRecDepth 100000 in
set_option maxHeartbeats 8000000 in
theorem least_any (A : Option Addr) (n c : Nat) (T : List (List Int)) (Al : Option Addr) (nl cl : Nat) (l : List Int) (w : World) (hT : SlRc w A n T) (hn : n ≤ 9223372036854775807) (hA : SlE intE 1 w Al nl l) (hnc : nl ≤ cl) (hcl : cl ≤ 9223372036854775807) :
    Calls Try.prog 5 #[.slice A n c, .slice Al nl cl] w fun e w' => e = .returned (.bool true) ∧ Below w.heap.size w w' := by
  refine calls_cps ?_
  intro R hR
  obtain ⟨T1, hT1⟩ : ∃ T1, tabL 40 44 T = T1 := ⟨_, rfl⟩
  obtain ⟨L, hL⟩ : ∃ L, T1.length = L := ⟨_, rfl⟩
  obtain ⟨l2, hl2⟩ : ∃ l2, l.take 40 = l2 := ⟨_, rfl⟩
  obtain ⟨Ll, hLl⟩ : ∃ Ll, l2.length = Ll := ⟨_, rfl⟩
  have hLl40 : Ll ≤ 40 := by rw [← hLl, ← hl2, List.length_take]; omega
  have HT1 := Lib.hid hT1
  have HL := Lib.hid hL
  have HT := Lib.hid hT
  have HA := Lib.hid hA
  have Hl2 := Lib.hid hl2
  have HLl := Lib.hid hLl
  clear hT1 hL hT hA hl2 hLl
  go_enter Try.func5, Try.ntmps5
  go_wp2_with fail
  refine (table_tc A n c T _ _ 40 44 rfl rfl (by omega) (by omega) _ HT.out hn).mono ?_
  rw [HT1.out, HL.out]
  rintro e w1 ⟨A1, c1, rfl, h1⟩
  go_wp2_with fail
  refine (cut_any Al nl cl l _ 40 rfl (by omega) _ (HA.out.below h1.bel) hnc hcl).mono ?_
  rw [Hl2.out, HLl.out]
  rintro e w2 ⟨A2, c2, rfl, hs2, hk1, hk2, hb2⟩
  have H2 := Lib.hid (h1.below hb2)
  have Hs2 := Lib.hid hs2
  clear h1 hs2 hb2
  by_cases hb : tabB T1 = true
  · obtain ⟨m, hok⟩ := tok_of hb
    have Hok := Lib.hid hok
    have Hb := Lib.hid hb
    have hL64 : L ≤ 64 := by rw [← HL.out]; exact Nat.le_trans hok.nm hok.m64
    clear hok hb
    go_wp2_with fail
    refine (refCheck_any A1 L c1 T1 _ H2.out.rc.slr (by omega) H2.out.rc.rowle).mono ?_
    rw [if_pos Hb.out]
    rintro e w3 ⟨rfl, hq3⟩
    have H3 := Lib.hid (H2.out.qt hq3)
    have Hs3 := Lib.hid (hq3.sl Hs2.out)
    clear hq3
    by_cases hKL : kuhn (gT T1) m (List.range L) = L
    · have Hyes := Lib.hid hKL
      clear hKL
      go_wp2_with fail
      refine (best_yes A1 L c1 m T1 _ H3.out.rc.slr Hok.out Hyes.out).mono ?_
      rintro e w4 ⟨B1, B2, B3, d1, d2, d3, f, s, lu, lv, rfl, hB, s1, _, _, hd1, _, _, hd4, _, _, hb4⟩
      have hba := hb4.trans ((below_new w4 (.cells #[.slice B1 L d1, .slice B2 L d2, .slice B3 m d3, .int .i64 s] 28)).mono hb4.size)
      have H4 := Lib.hid (H3.out.below hba)
      have Hs4 := Lib.hid (Hs3.out.below hba)
      have Hf4 := Lib.hid (s1.alloc (.cells #[.slice B1 L d1, .slice B2 L d2, .slice B3 m d3, .int .i64 s] 28))
      have Hx4 := Lib.hid (heap_alloc_new w4 (.cells #[.slice B1 L d1, .slice B2 L d2, .slice B3 m d3, .int .i64 s] 28))
      have HB := Lib.hid hB.best
      clear s1 hb4 hba hB
      go_wp2_with fail
      refine (refTotal_any A1 L c1 m T1 A2 Ll c2 l2 _ H4.out.rc.slr Hok.out Hs4.out (by omega)).mono ?_
      rintro e w5 ⟨hcase, hq5⟩
      have hx5 := (hq5.below.block _ (Array.getElem?_eq_some_iff.1 Hx4.out).1).trans Hx4.out
      have H5 := Lib.hid (H4.out.qt hq5)
      have Hs5 := Lib.hid (hq5.sl Hs4.out)
      have Hf5 := Lib.hid (hq5.sl Hf4.out)
      have Hx5 := Lib.hid hx5
      clear hq5 hx5
      rcases hcase with ⟨htot, rfl⟩ | ⟨_, rfl⟩
      · obtain ⟨g, hg, hasg⟩ := asg_of_tot htot
        have hLL : Ll = L := by rw [← HLl.out, htot.1, HL.out]
        have hts : totS T1 l2 L = costA T1 g := by rw [hg, ← HL.out]; exact totS_asg hasg
        obtain ⟨s2, hs2⟩ : ∃ s2, costA T1 g = s2 := ⟨_, rfl⟩
        rw [hts, hs2]
        subst hLL
        have hle : s ≤ s2 := by rw [← hs2]; exact HB.out.le hasg
        have hlx : s = s2 → lexLe f g := fun e => by
          rcases HB.out.least g hasg with h | h
          · rw [hs2] at h; omega
          · exact h.2
        have Hlx := Lib.hid hlx
        have Hfl := Lib.hid HB.out.asg.len
        have Hgl := Lib.hid hasg.len
        have Hg := Lib.hid hg
        obtain ⟨r0, r1, r2, r3, r4⟩ := cells4 Hx5.out
        have g1 : decide (s2 < s) = false := decide_eq_false (by omega)
        clear htot hg hasg hts hs2 hlx
        go_wp2_with fail
        refine (lives_any w5).mono ?_
        rintro e w6 ⟨rfl, hb6⟩
        have H6 := Lib.hid (H5.out.below hb6)
        have Hs6 := Lib.hid (Hs5.out.below hb6)
        have Hf6 := Lib.hid (Hf5.out.below hb6)
        have hx6 := (hb6.block _ (Array.getElem?_eq_some_iff.1 Hx5.out).1).trans Hx5.out
        have Hx6 := Lib.hid hx6
        clear hb6 hx6 r0 r1 r2 r3 r4 g1
        obtain ⟨r0, r1, r2, r3, r4⟩ := cells4 Hx6.out
        go_wp2_with fail
        clear r0 r1 r2 r3 r4
        go_loopg [11] Ll (fun gk s11 wr => ∃ i : Nat, i + gk = Ll ∧ s11 = .int .i64 ((i : Nat) : Int) ∧ Qt w6 wr ∧ Hid (s = s2 → f.take i = g.take i))
        case atStart => exact ⟨0, by omega, rfl, Qt.refl _, Lib.hid (fun _ => by simp)⟩
        case round =>
          obtain ⟨i, hgk, rfl, hq, Ht⟩ := hrel
          obtain ⟨wi, rfl⟩ : ∃ wi : World, wi = wr := ⟨_, rfl⟩
          have hx7 := (hq.below.block _ (Array.getElem?_eq_some_iff.1 Hx6.out).1).trans Hx6.out
          obtain ⟨r0, r1, r2, r3, r4⟩ := cells4 hx7
          have Hfin := Lib.hid (show ∀ W', Qt w6 W' → R (.returned (.bool true)) W' from fun W' hq => hR.out _ _ ⟨rfl, (H6.out.qt hq).bel⟩)
          clear hx7
          by_cases hlt : i < Ll
          · by_cases hss : s = s2
            · have g2 : (s == s2) = true := by simp [hss]
              obtain ⟨b1, o1, rfl, t1⟩ := cast_at (hq.sl Hf6.out) hlt
              have hs7 := hq.sl Hs6.out
              rw [Hg.out] at hs7
              obtain ⟨b2, o2, rfl, t2⟩ := cast_at hs7 hlt
              have i1 : (i : Int) < (Ll : Int) := by omega
              have htk := Ht.out hss
              have hlx := Hlx.out hss
              obtain ⟨x, hx⟩ : ∃ x, f.getD i 0 = x := ⟨_, rfl⟩
              obtain ⟨y, hy⟩ : ∃ y, g.getD i 0 = y := ⟨_, rfl⟩
              rw [hx] at t1
              rw [hy] at t2
              by_cases hxy : x = y
              · have g3 : ((x : Int) != (y : Int)) = false := by simp [hxy]
                have HT2 := Lib.hid (show s = s2 → f.take (i + 1) = g.take (i + 1) from fun _ => take_eq_nat htk (by rw [Hfl.out, HL.out]; exact hlt) (by rw [Hgl.out, HL.out]; exact hlt) (by rw [hx, hy, hxy]))
                have Hq := Lib.hid hq
                clear hs7 htk hlx hx hy hxy hss hq
                go_wp2_with fail
                go_quiet (fail)
                go_wp2_with fail
                go_roundg (gk - 1)
                case measure => omega
                case rel => exact ⟨i + 1, by omega, by go_num, Hq.out.step _, HT2⟩
              · have g3 : ((x : Int) != (y : Int)) = true := by simp; omega
                have hlt2 : x < y := by
                  have := lex_at hlx htk (by rw [hx, hy]; exact hxy)
                  rwa [hx, hy] at this
                have g4 : decide (x < y) = true := decide_eq_true hlt2
                have Hq := Lib.hid hq
                clear hs7 htk hlx hx hy hxy hss hq
                go_wp2_with fail
                go_quiet (fail)
                go_wp2_with fail
                go_quiet (fail)
                go_wp2
                exact Hfin.out _ ((Hq.out.step _).step _)
            · have g2 : (s == s2) = false := by simpa using hss
              have i1 : (i : Int) < (Ll : Int) := by omega
              have Hend := Lib.hid (Hfin.out wi hq)
              clear hss hq
              go_wp2
              exact Hend.out
          · obtain rfl : i = Ll := by omega
            have Hend := Lib.hid (Hfin.out wi hq)
            clear hq
            go_wp2
            exact Hend.out
      · go_wp2_with fail
        refine (lives_T w A1 L c1 T1 _ H5.out).mono ?_
        rintro e w6 ⟨rfl, h6⟩
        have Hf := Lib.hid (hR.out (.returned (.bool true)) w6 ⟨rfl, h6.bel⟩)
        clear h6
        go_wp2
        exact Hf.out
    · have Hno := Lib.hid hKL
      clear hKL
      go_wp2_with fail
      refine (best_none A1 L c1 m T1 _ H3.out.rc.slr Hok.out Hno.out).mono ?_
      rintro e w4 ⟨rfl, hb4⟩
      have hba := hb4.trans ((below_new w4 (.cells #[.slice none 0 0, .slice none 0 0, .slice none 0 0, .int .i64 0] 28)).mono hb4.size)
      have H4 := Lib.hid (H3.out.below hba)
      have Hs4 := Lib.hid (Hs3.out.below hba)
      clear hb4 hba
      go_wp2_with fail
      refine (refTotal_any A1 L c1 m T1 A2 Ll c2 l2 _ H4.out.rc.slr Hok.out Hs4.out (by omega)).mono ?_
      rintro e w5 ⟨⟨htot, _⟩ | ⟨_, rfl⟩, hq5⟩
      · obtain ⟨g, _, hasg⟩ := asg_of_tot htot
        exact absurd ⟨g, hasg⟩ (no_asg (by rw [HL.out]; exact Hno.out))
      · have H5 := Lib.hid (H4.out.qt hq5)
        clear hq5
        go_wp2_with fail
        refine (lives_T w A1 L c1 T1 _ H5.out).mono ?_
        rintro e w6 ⟨rfl, h6⟩
        have Hf := Lib.hid (hR.out (.returned (.bool true)) w6 ⟨rfl, h6.bel⟩)
        clear h6
        go_wp2
        exact Hf.out
  · have hb' : tabB T1 = false := by simpa using hb
    have Hb := Lib.hid hb'
    clear hb hb'
    go_wp2_with fail
    refine (refCheck_noT w A1 L c1 T1 _ H2.out Hb.out).mono ?_
    rintro e w3 ⟨rfl, h3⟩
    go_wp2_with fail
    refine (lives_T w A1 L c1 T1 _ h3).mono ?_
    rintro e w6 ⟨rfl, h6⟩
    have Hf := Lib.hid (hR.out (.returned (.bool true)) w6 ⟨rfl, h6.bel⟩)
    clear h3 h6
    go_wp2
    exact Hf.out
end Go.Proofs.Ytjdhcdoekfikpaa
