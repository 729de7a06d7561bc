/-
  The contract of clavecinlaw05.MatchEither: true at every input.
-/
import Derived.Test.YtjdhcdoekfikpaaMLawB
namespace Go.Proofs.Ytjdhcdoekfikpaa
open Go.RowKit

set_option maxRecDepth 100000 in
set_option maxHeartbeats 4000000 in
theorem either_any (A : Option Addr) (n c : Nat) (T : List (List Int)) (w : World) (hT : SlRc w A n T) (hn : n ≤ 9223372036854775807) :
    Calls Try.prog 10 #[.slice A n c] w fun e w' => e = .returned (.bool true) ∧ Below w.heap.size w w' := by
  refine calls_cps ?_
  intro R hR
  obtain ⟨T1, hT1⟩ : ∃ T1, tabL 40 44 T = T1 := ⟨_, rfl⟩
  obtain ⟨L, hL⟩ : ∃ L, T1.length = L := ⟨_, rfl⟩
  have HT1 := Lib.hid hT1
  have HL := Lib.hid hL
  have HT := Lib.hid hT
  clear hT1 hL hT
  go_enter Try.func10, Try.ntmps10
  go_wp2_with fail
  refine (table_tc A n c T _ _ 40 44 rfl rfl (by omega) (by omega) _ HT.out hn).mono ?_
  rw [HT1.out, HL.out]
  rintro e w1 ⟨A1, c1, rfl, h1⟩
  by_cases hb : tabB T1 = true
  · obtain ⟨m, hok⟩ := tok_of hb
    have Hok := Lib.hid hok
    have Hb := Lib.hid hb
    have hL64 : L ≤ 64 := by rw [← HL.out]; exact Nat.le_trans hok.nm hok.m64
    have hL1 : 1 ≤ L := by rw [← HL.out]; exact hok.n1
    obtain ⟨K, hK⟩ : ∃ K, kuhn (gT T1) m (List.range L) = K := ⟨_, rfl⟩
    have hKl := kuhn_le (gT T1) m (List.range L) (nodup_range L)
    rw [hK, List.length_range] at hKl
    have HK := Lib.hid hK
    clear hok hb hK
    go_wp2_with fail
    refine (refCheck_yesT w A1 L c1 T1 _ h1 Hb.out).mono ?_
    rintro e w2 ⟨rfl, h2⟩
    by_cases hKL : K = L
    · have Hyes := Lib.hid (show kuhn (gT T1) m (List.range L) = L by rw [HK.out, hKL])
      subst hKL
      go_wp2_with fail
      refine (best_yesT w A1 K c1 m T1 _ h2 Hok.out Hyes.out).mono ?_
      rintro e w3 ⟨B1, B2, B3, d1, d2, d3, l, s, lu, lv, rfl, _, _, h3⟩
      have h3 := h3.below (below_new w3 (.cells #[.slice B1 K d1, .slice B2 K d2, .slice B3 m d3, .int .i64 s] 28))
      go_wp2_with fail
      refine (hall_noneT w A1 K c1 m T1 _ h3 Hok.out Hyes.out).mono ?_
      rintro e w4 ⟨rfl, h4⟩
      go_wp2_with fail
      refine (most_yesT w A1 K c1 m K T1 _ h4 Hok.out Hyes.out).mono ?_
      rintro e w5 ⟨rfl, h5⟩
      go_wp2_with fail
      refine (lives_T w A1 K c1 T1 _ h5).mono ?_
      rintro e w6 ⟨rfl, h6⟩
      have Hf := Lib.hid (hR.out (.returned (.bool true)) w6 ⟨rfl, h6.bel⟩)
      clear h1 h2 h3 h4 h5 h6
      go_wp2
      exact Hf.out
    · have Hno := Lib.hid (show kuhn (gT T1) m (List.range L) ≠ L by rw [HK.out]; exact hKL)
      have hlt : K < L := by omega
      obtain ⟨S, hS⟩ : ∃ S, hallF (gT T1) m (List.range L) (List.range L) = S := ⟨_, rfl⟩
      have HS := Lib.hid hS
      clear hS hKL
      go_wp2_with fail
      refine (best_noneT w A1 L c1 m T1 _ h2 Hok.out Hno.out).mono ?_
      rintro e w3 ⟨rfl, h3⟩
      have h3 := h3.below (below_new w3 (.cells #[.slice none 0 0, .slice none 0 0, .slice none 0 0, .int .i64 0] 28))
      go_wp2_with fail
      refine (hall_someT w A1 L c1 m T1 _ h3 Hok.out Hno.out S HS.out).mono ?_
      rintro e w4 ⟨B1, d1, rfl, _, _, _, h4⟩
      go_wp2_with fail
      refine (most_yesT w A1 L c1 m K T1 _ h4 Hok.out HK.out).mono ?_
      rintro e w5 ⟨rfl, h5⟩
      go_wp2_with fail
      refine (lives_T w A1 L c1 T1 _ h5).mono ?_
      rintro e w6 ⟨rfl, h6⟩
      have Hf := Lib.hid (hR.out (.returned (.bool true)) w6 ⟨rfl, h6.bel⟩)
      clear h1 h2 h3 h4 h5 h6
      go_wp2
      exact Hf.out
  · have hb' : tabB T1 = false := by simpa using hb
    have Hb := Lib.hid hb'
    clear hb hb'
    go_wp2_with fail
    refine (refCheck_noT w A1 L c1 T1 _ h1 Hb.out).mono ?_
    rintro e w3 ⟨rfl, h3⟩
    go_wp2_with fail
    refine (lives_T w A1 L c1 T1 _ h3).mono ?_
    rintro e w6 ⟨rfl, h6⟩
    have Hf := Lib.hid (hR.out (.returned (.bool true)) w6 ⟨rfl, h6.bel⟩)
    clear h1 h3 h6
    go_wp2
    exact Hf.out
end Go.Proofs.Ytjdhcdoekfikpaa
