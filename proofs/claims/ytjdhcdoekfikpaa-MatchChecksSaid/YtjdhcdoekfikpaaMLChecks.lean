/-
  The contract of clavecinlaw05.MatchChecks: true at every input.
-/
import Derived.Test.YtjdhcdoekfikpaaMTotW
namespace Go.Proofs.Ytjdhcdoekfikpaa
open Go.RowKit

set_option maxRecDepth 100000 in
set_option maxHeartbeats 2000000 in
theorem mTotal_no (A : Option Addr) (n c : Nat) (T : List (List Int)) (A2 : Option Addr) (L c2 : Nat) (w : World) (hT : SlR w A n T) (hn : n ≤ 9223372036854775807) (hrow : ∀ r ∈ T, r.length ≤ 9223372036854775807) (ht : tabB T = false) :
    Calls Try.prog 35 #[.slice A n c, .slice A2 L c2] w fun e w' => e = .returned (.tuple #[.int .i64 0, .int .i64 1]) ∧ w = w' := by
  refine calls_cps ?_
  intro R hR
  have Hf := Lib.hid (hR.out _ w ⟨rfl, rfl⟩)
  clear hR
  go_enter Try.func35, Try.ntmps35
  go_wp2_with fail
  refine (check_any A n c T w hT hn hrow).mono ?_
  rw [if_neg (by rw [ht]; simp)]
  rintro e w1 ⟨rfl, rfl⟩
  go_wp2
  exact Hf.out
set_option maxRecDepth 100000 in
set_option maxHeartbeats 2000000 in
theorem mTotal_any (A : Option Addr) (n c m : Nat) (T : List (List Int)) (A2 : Option Addr) (L c2 : Nat) (l : List Int) (w : World) (hT : SlR w A n T) (hok : TOk T m) (ht : tabB T = true) (hA : SlE intE 1 w A2 L l) (hL : L ≤ 9223372036854775807) :
    Calls Try.prog 35 #[.slice A n c, .slice A2 L c2] w fun e w' => (TotOk T m l ∧ e = .returned (.tuple #[.int .i64 (totS T l n), .int .i64 0]) ∨ ¬ TotOk T m l ∧ e = .returned (.tuple #[.int .i64 0, .int .i64 2])) ∧ Below w.heap.size w w' := by
  refine calls_cps ?_
  intro R hR
  have HT := Lib.hid hT
  have Hok := Lib.hid hok
  have HA := Lib.hid hA
  have Ht := Lib.hid ht
  have hn : n ≤ 64 := by rw [hT.1]; exact Nat.le_trans hok.nm hok.m64
  have hrow : ∀ r ∈ T, r.length ≤ 9223372036854775807 := fun r hr => by
    have h1 := hok.rect r hr
    have h2 := hok.m64
    omega
  have Hrow := Lib.hid hrow
  clear hT hok hA ht hrow
  go_enter Try.func35, Try.ntmps35
  go_wp2_with fail
  refine (check_any A n c T w HT.out (by omega) Hrow.out).mono ?_
  rw [if_pos Ht.out]
  rintro e w1 ⟨rfl, rfl⟩
  go_wp2_with fail
  refine (total_any A n c m T A2 L c2 l w HT.out Hok.out HA.out hL).mono ?_
  rintro e w2 ⟨⟨htot, rfl⟩ | ⟨htot, rfl⟩, hb⟩
  · have Hf := Lib.hid (hR.out _ w2 ⟨.inl ⟨htot, rfl⟩, hb⟩)
    clear htot hb
    go_wp2
    exact Hf.out
  · have Hf := Lib.hid (hR.out _ w2 ⟨.inr ⟨htot, rfl⟩, hb⟩)
    clear htot hb
    go_wp2
    exact Hf.out
set_option maxRecDepth 100000 in
set_option maxHeartbeats 4000000 in
theorem checks_any (A : Option Addr) (n c : Nat) (T : List (List Int)) (Al : Option Addr) (nl cl : Nat) (l : List Int) (w : World) (hT : SlRc w A n T) (hn : n ≤ 9223372036854775807) (hA : SlE intE 1 w Al nl l) (hnc : nl ≤ cl) (hcl : cl ≤ 9223372036854775807) :
    Calls Try.prog 13 #[.slice A n c, .slice Al nl cl] w fun e w' => e = .returned (.bool true) ∧ Below w.heap.size w w' := by
  refine calls_cps ?_
  intro R hR
  obtain ⟨T1, hT1⟩ : ∃ T1, tabL 66 66 T = T1 := ⟨_, rfl⟩
  obtain ⟨L, hL⟩ : ∃ L, T1.length = L := ⟨_, rfl⟩
  obtain ⟨l2, hl2⟩ : ∃ l2, l.take 66 = l2 := ⟨_, rfl⟩
  obtain ⟨Ll, hLl⟩ : ∃ Ll, l2.length = Ll := ⟨_, rfl⟩
  have hLl66 : Ll ≤ 66 := by rw [← hLl, ← hl2, List.length_take]; omega
  have HT1 := Lib.hid hT1
  have HL := Lib.hid hL
  have HT := Lib.hid hT
  have HA := Lib.hid hA
  have Hl2 := Lib.hid hl2
  have HLl := Lib.hid hLl
  clear hT1 hL hT hA hl2 hLl
  go_enter Try.func13, Try.ntmps13
  go_wp2_with fail
  refine (table_tc A n c T _ _ 66 66 rfl rfl (by omega) (by omega) _ HT.out hn).mono ?_
  rw [HT1.out, HL.out]
  rintro e w1 ⟨A1, c1, rfl, h1⟩
  go_wp2_with fail
  refine (cut_any Al nl cl l _ 66 rfl (by omega) _ (HA.out.below h1.bel) hnc hcl).mono ?_
  rw [Hl2.out, HLl.out]
  rintro e w2 ⟨A2, c2, rfl, hs2, hk1, hk2, hb2⟩
  have H2 := Lib.hid (h1.below hb2)
  have Hs2 := Lib.hid hs2
  clear h1 hs2 hb2
  by_cases hb : tabB T1 = true
  · obtain ⟨m, hok⟩ := tok_of hb
    have Hok := Lib.hid hok
    have Hb := Lib.hid hb
    have hL64 : L ≤ 64 := by rw [← HL.out]; exact Nat.le_trans hok.nm hok.m64
    clear hok hb
    go_wp2_with fail
    refine (refCheck_any A1 L c1 T1 _ H2.out.rc.slr (by omega) H2.out.rc.rowle).mono ?_
    rw [if_pos Hb.out]
    rintro e w3 ⟨rfl, hq3⟩
    have H3 := Lib.hid (H2.out.qt hq3)
    have Hs3 := Lib.hid (hq3.sl Hs2.out)
    clear hq3
    go_wp2_with fail
    refine (mTotal_any A1 L c1 m T1 A2 Ll c2 l2 _ H3.out.rc.slr Hok.out Hb.out Hs3.out (by omega)).mono ?_
    rintro e w4 ⟨hcase, hb4⟩
    have H4 := Lib.hid (H3.out.below hb4)
    have Hs4 := Lib.hid (Hs3.out.below hb4)
    clear hb4
    rcases hcase with ⟨htot, rfl⟩ | ⟨htot, rfl⟩
    · obtain ⟨s, hs⟩ : ∃ s, totS T1 l2 L = s := ⟨_, rfl⟩
      rw [hs]
      have Hs := Lib.hid hs
      have Htot := Lib.hid htot
      clear hs htot
      go_wp2_with fail
      refine (check_any A1 L c1 T1 _ H4.out.rc.slr (by omega) H4.out.rc.rowle).mono ?_
      rw [if_pos Hb.out]
      rintro e w5 ⟨rfl, rfl⟩
      go_wp2_with fail
      refine (lives_any w4).mono ?_
      rintro e w6 ⟨rfl, hb6⟩
      have H6 := Lib.hid (H4.out.below hb6)
      have Hs6 := Lib.hid (Hs4.out.below hb6)
      clear hb6
      go_wp2_with fail
      refine (refTotal_any A1 L c1 m T1 A2 Ll c2 l2 _ H6.out.rc.slr Hok.out Hs6.out (by omega)).mono ?_
      rw [Hs.out]
      rintro e w7 ⟨⟨_, rfl⟩ | ⟨hno, _⟩, hq7⟩
      · have g1 : (s == s) = true := by simp
        have Hf := Lib.hid (hR.out (.returned (.bool true)) w7 ⟨rfl, (H6.out.qt hq7).bel⟩)
        clear hq7
        go_wp2
        exact Hf.out
      · exact absurd Htot.out hno
    · have Htot := Lib.hid htot
      clear htot
      go_wp2_with fail
      refine (check_any A1 L c1 T1 _ H4.out.rc.slr (by omega) H4.out.rc.rowle).mono ?_
      rw [if_pos Hb.out]
      rintro e w5 ⟨rfl, rfl⟩
      go_wp2_with fail
      refine (lives_any w4).mono ?_
      rintro e w6 ⟨rfl, hb6⟩
      have H6 := Lib.hid (H4.out.below hb6)
      have Hs6 := Lib.hid (Hs4.out.below hb6)
      clear hb6
      go_wp2_with fail
      refine (refTotal_any A1 L c1 m T1 A2 Ll c2 l2 _ H6.out.rc.slr Hok.out Hs6.out (by omega)).mono ?_
      rintro e w7 ⟨⟨hyes, _⟩ | ⟨_, rfl⟩, hq7⟩
      · exact absurd hyes Htot.out
      · have Hf := Lib.hid (hR.out (.returned (.bool true)) w7 ⟨rfl, (H6.out.qt hq7).bel⟩)
        clear hq7
        go_wp2
        exact Hf.out
  · have hb' : tabB T1 = false := by simpa using hb
    have Hb := Lib.hid hb'
    have hL66 := H2.out.l66
    clear hb hb'
    go_wp2_with fail
    refine (refCheck_noT w A1 L c1 T1 _ H2.out Hb.out).mono ?_
    rintro e w3 ⟨rfl, h3⟩
    have H3 := Lib.hid h3
    clear h3
    go_wp2_with fail
    refine (mTotal_no A1 L c1 T1 A2 Ll c2 _ H3.out.rc.slr (by omega) H3.out.rc.rowle Hb.out).mono ?_
    rintro e w4 ⟨rfl, rfl⟩
    go_wp2_with fail
    refine (check_any A1 L c1 T1 _ H3.out.rc.slr (by omega) H3.out.rc.rowle).mono ?_
    rw [if_neg (by rw [Hb.out]; simp)]
    rintro e w5 ⟨rfl, rfl⟩
    go_wp2_with fail
    refine (lives_T w A1 L c1 T1 _ H3.out).mono ?_
    rintro e w6 ⟨rfl, h6⟩
    have Hf := Lib.hid (hR.out (.returned (.bool true)) w6 ⟨rfl, h6.bel⟩)
    clear h6
    go_wp2
    exact Hf.out
end Go.Proofs.Ytjdhcdoekfikpaa
