/-
  The contract of clavecinlaw05.MatchMosts: true at every input.
-/
import Derived.Test.YtjdhcdoekfikpaaMLawB
namespace Go.Proofs.Ytjdhcdoekfikpaa
open Go.RowKit

set_option maxRecDepth 100000 in
set_option maxHeartbeats 4000000 in
theorem mosts_any (A : Option Addr) (n c : Nat) (T : List (List Int)) (w : World) (hT : SlRc w A n T) (hn : n ≤ 9223372036854775807) :
    Calls Try.prog 9 #[.slice A n c] w fun e w' => e = .returned (.bool true) ∧ Below w.heap.size w w' := by
  refine calls_cps ?_
  intro R hR
  obtain ⟨T1, hT1⟩ : ∃ T1, tabL 66 66 T = T1 := ⟨_, rfl⟩
  obtain ⟨L, hL⟩ : ∃ L, T1.length = L := ⟨_, rfl⟩
  have HT1 := Lib.hid hT1
  have HL := Lib.hid hL
  have HT := Lib.hid hT
  clear hT1 hL hT
  go_enter Try.func9, Try.ntmps9
  go_wp2_with fail
  refine (table_tc A n c T _ _ 66 66 rfl rfl (by omega) (by omega) _ HT.out hn).mono ?_
  rw [HT1.out, HL.out]
  rintro e w1 ⟨A1, c1, rfl, h1⟩
  by_cases hb : tabB T1 = true
  · obtain ⟨m, hok⟩ := tok_of hb
    have Hok := Lib.hid hok
    have Hb := Lib.hid hb
    have hL64 : L ≤ 64 := by rw [← HL.out]; exact Nat.le_trans hok.nm hok.m64
    obtain ⟨K, hK⟩ : ∃ K, kuhn (gT T1) m (List.range L) = K := ⟨_, rfl⟩
    have HK := Lib.hid hK
    clear hok hb hK
    go_wp2_with fail
    refine (most_yesT w A1 L c1 m K T1 _ h1 Hok.out HK.out).mono ?_
    rintro e w2 ⟨rfl, h2⟩
    go_wp2_with fail
    refine (refCheck_yesT w A1 L c1 T1 _ h2 Hb.out).mono ?_
    rintro e w3 ⟨rfl, h3⟩
    go_wp2_with fail
    refine (refAll_T w A1 L c1 T1 _ h3 hL64).mono ?_
    rintro e w4 ⟨A4, c4, rfl, hs4, h4⟩
    go_wp2_with fail
    refine (refMost_T w A1 L c1 m K T1 A4 L c4 (List.range L) _ h4 Hok.out hs4 (by omega) (range_lt L) HK.out).mono ?_
    rintro e w5 ⟨rfl, _, h5⟩
    go_wp2_with fail
    refine (lives_T w A1 L c1 T1 _ h5).mono ?_
    rintro e w6 ⟨rfl, h6⟩
    have Hf := Lib.hid (hR.out (.returned (.bool true)) w6 ⟨rfl, h6.bel⟩)
    clear h1 h2 h3 h4 hs4 h5 h6
    go_wp2
    exact Hf.out
  · have hb' : tabB T1 = false := by simpa using hb
    have Hb := Lib.hid hb'
    clear hb hb'
    go_wp2_with fail
    refine (most_noT w A1 L c1 T1 _ h1 Hb.out).mono ?_
    rintro e w2 ⟨rfl, h2⟩
    go_wp2_with fail
    refine (refCheck_noT w A1 L c1 T1 _ h2 Hb.out).mono ?_
    rintro e w3 ⟨rfl, h3⟩
    go_wp2_with fail
    refine (lives_T w A1 L c1 T1 _ h3).mono ?_
    rintro e w6 ⟨rfl, h6⟩
    have Hf := Lib.hid (hR.out (.returned (.bool true)) w6 ⟨rfl, h6.bel⟩)
    clear h1 h2 h3 h6
    go_wp2
    exact Hf.out
end Go.Proofs.Ytjdhcdoekfikpaa
