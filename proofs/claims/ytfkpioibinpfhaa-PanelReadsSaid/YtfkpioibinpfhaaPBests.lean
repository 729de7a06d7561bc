/-
  The contract of clavecinlaw08.PanelBests: true at every input.
-/
import Derived.Test.YtfkpioibinpfhaaPFew
namespace Go.Proofs.Ytfkpioibinpfhaa
open Go.RowKit


set_option maxRecDepth 100000 in
set_option maxHeartbeats 4000000 in
theorem bests_any (W H K : Int) (A : Option Addr) (n c : Nat) (ss : List Shp) (w : World) (hS : SlE Shp.enc 4 w A n ss) (hnc : n ≤ c) (hc : c ≤ 9223372036854775807) :
    Calls Try.prog 3 #[.agg #[.int .i64 W, .int .i64 H, .int .i64 K, .slice A n c]] w fun e w' => e = .returned (.bool true) ∧ Below w.heap.size w w' := by
  refine calls_cps ?_
  intro R hR
  obtain ⟨s1, es⟩ : ∃ s, ss.take 17 = s := ⟨_, rfl⟩
  obtain ⟨L, hL⟩ : ∃ L, s1.length = L := ⟨_, rfl⟩
  have hLm : L ≤ 9223372036854775807 := by rw [← hL, ← es, List.length_take]; omega
  obtain ⟨W1, eW⟩ : ∃ x, fewV W = x := ⟨_, rfl⟩
  obtain ⟨H1, eH⟩ : ∃ x, fewV H = x := ⟨_, rfl⟩
  by_cases hp : panOk W1 H1 K s1 = true
  · have Hp := Lib.hid hp
    go_enter Try.func3, Try.ntmps3
    go_wp2_with (first
      | (go_at_call 15; refine (few_any _ _ _ _ _ _ ss _ (hS.alloc _) hnc hc).mono ?_; rw [es, hL, eW, eH]; rintro e w1 ⟨A1, c1, rfl, ho1, hb1⟩; have hf1 : Below w.heap.size w w1 := ((Below.refl w.heap.size w).alloc (Nat.le_refl _) _).trans (hb1.mono (by simp)); have hs1 := SlE.of_own ho1 hL.symm; clear ho1 hb1)
      | (go_at_call 16; refine (best_ok W1 H1 K A1 L c1 s1 _ (hs1.alloc _) Hp.out).mono ?_; rintro e w2 ⟨v, rfl, hret, hb2⟩; obtain ⟨A2, c2, rfl, hn2, hc2, ho2⟩ := own_slice hret; have hz2 : w1.heap.size < w2.heap.size := Nat.lt_of_lt_of_le (by simp) hb2.size; have hx2 := below_cells hb2 (by simp) (heap_alloc_new w1 _); have hs2 := (hs1.alloc _).below hb2; have hf2 := (hf1.alloc hf1.size _).trans (hb2.mono (by have := hf1.size; simp <;> omega)); obtain ⟨q0, q1, q2, q3, q4⟩ := cells4 hx2; have hl2 := SlE.of_own ho2 rfl; clear hret hb2 ho2)
      | (go_at_call 17; refine (refCheck_any W1 H1 K A1 L c1 s1 _ hs2 hLm).mono ?_; rw [Hp.out]; rintro e w3 ⟨rfl, hb3⟩; have hx3 := below_cells hb3 hz2 hx2; have hs3 := hs2.below hb3; have hl3 := hl2.below hb3; have hf3 := hf2.trans (hb3.mono hf2.size); obtain ⟨q0, q1, q2, q3, q4⟩ := cells4 hx3; clear hb3)
      | (go_at_call 19; refine (refBest_ok W1 H1 K A1 L c1 s1 _ hs3 Hp.out).mono ?_; rintro e w4 ⟨v, rfl, hret, hb4⟩; obtain ⟨A4, c4, rfl, hn4, hc4, ho4⟩ := own_slice hret; have hl4 := hl3.below hb4; have hm4 := SlE.of_own ho4 rfl; have hf4 := hf3.trans (hb4.mono hf3.size); clear hret hb4 ho4)
      | (go_at_call 20; refine (cutsEq_any _ _ _ _ _ _ _ _ _ hl4 hm4 (by unfold maxLen at hc2; omega) (by unfold maxLen at hc4; omega)).mono ?_; rintro e w5 ⟨rfl, hb5⟩; have hf5 := hf4.trans (hb5.mono hf4.size); rw [decide_eq_true rfl]; clear hb5)
      | (go_at_call 18; refine (lives_any _).mono ?_; rintro e w6 ⟨rfl, hb6⟩; have hf6 := hf5.trans (hb6.mono (hf5).size); clear hb6))
    exact hR.out _ _ ⟨rfl, hf6⟩
  · have Hp := Lib.hid (show panOk W1 H1 K s1 = false from by simpa using hp)
    clear hp
    go_enter Try.func3, Try.ntmps3
    go_wp2_with (first
      | (go_at_call 15; refine (few_any _ _ _ _ _ _ ss _ (hS.alloc _) hnc hc).mono ?_; rw [es, hL, eW, eH]; rintro e w1 ⟨A1, c1, rfl, ho1, hb1⟩; have hf1 : Below w.heap.size w w1 := ((Below.refl w.heap.size w).alloc (Nat.le_refl _) _).trans (hb1.mono (by simp)); have hs1 := SlE.of_own ho1 hL.symm; clear ho1 hb1)
      | (go_at_call 16; refine (best_no W1 H1 K A1 L c1 s1 _ (hs1.alloc _) hLm Hp.out).mono ?_; rintro e w2 ⟨rfl, hb2⟩; have hz2 : w1.heap.size < w2.heap.size := Nat.lt_of_lt_of_le (by simp) hb2.size; have hx2 := below_cells hb2 (by simp) (heap_alloc_new w1 _); have hs2 := (hs1.alloc _).below hb2; have hf2 := (hf1.alloc hf1.size _).trans (hb2.mono (by have := hf1.size; simp <;> omega)); obtain ⟨q0, q1, q2, q3, q4⟩ := cells4 hx2; clear hb2)
      | (go_at_call 17; refine (refCheck_any W1 H1 K A1 L c1 s1 _ hs2 hLm).mono ?_; rw [Hp.out]; rintro e w3 ⟨rfl, hb3⟩; have hf3 := hf2.trans (hb3.mono hf2.size); clear hb3)
      | (go_at_call 18; refine (lives_any _).mono ?_; rintro e w6 ⟨rfl, hb6⟩; have hf6 := hf3.trans (hb6.mono hf3.size); clear hb6))
    exact hR.out _ _ ⟨rfl, hf6⟩
end Go.Proofs.Ytfkpioibinpfhaa
