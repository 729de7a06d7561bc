/-
  The contract of the law's cut: a copy of the first elements; condition: the list reads.
-/
import Derived.Test.YtjdhcdoekfikpaaMTot
namespace Go.Proofs.Ytjdhcdoekfikpaa
open Go.RowKit

set_option maxRecDepth 100000 in
set_option maxHeartbeats 4000000 in
theorem cut_any (A : Option Addr) (n c : Nat) (l : List Int) (x : Int) (N : Nat) (hx : x = (N : Int)) (hN : N ≤ 66) (w : World) (hA : SlE intE 1 w A n l) (hnc : n ≤ c) (_hc : c ≤ 9223372036854775807) :
    Calls Try.prog 32 #[.slice A n c, .int .i64 x] w fun e w' => ∃ A' c', e = .returned (.slice A' (l.take N).length c') ∧ SlE intE 1 w' A' (l.take N).length (l.take N) ∧ (l.take N).length ≤ c' ∧ c' ≤ 9223372036854775807 ∧ Below w.heap.size w w' := by
  subst hx
  refine calls_cps ?_
  intro R hR
  have hl := hA.1
  have HO := Lib.hid (own_new w #[] 3 1 0 w.heap.size rfl (Nat.le_refl _) (by unfold maxLen; omega))
  by_cases h : N < n
  · have hlen : (l.take N).length = N := by rw [List.length_take, ← hl]; omega
    have HC := Lib.hid (slE_cut hA (k := N) (by omega))
    rw [hlen] at hR
    have i1 : (N : Int) < (n : Int) := by omega
    have i2 : (N : Int) ≤ (c : Int) := by omega
    have Hlen := Lib.hid hlen
    clear hA hl hlen
    go_enter Try.func32, Try.ntmps32
    go_wp2_with (at_builtin; refine wpList_app rfl (.tmp 12) (.tmp 13) _ rfl elemInt w.heap.size _ _ _ rfl HO.out _ _ _ _ rfl (HC.out.2.alloc _) (int_one _) (by unfold maxLen; omega) (by omega) (by simp) ?_; intro A3 c3 w3 ho3 hg3 _; rw [Nat.zero_add, List.nil_append] at ho3; have hb3 := app_below1 rfl hg3; clear hg3)
    exact hR.out _ _ ⟨A3, c3, rfl, SlE.of_own ho3 Hlen.out.symm, (own_lo ho3).2.1, (own_lo ho3).2.2, hb3⟩
  · have htk : l.take N = l := List.take_of_length_le (by rw [← hl]; omega)
    rw [htk, ← hl] at hR
    have HC := Lib.hid hA
    have Hl := Lib.hid hl
    have hn66 : n ≤ 66 := by omega
    have i1 : (n : Int) ≤ (N : Int) := by omega
    clear hA hl htk
    go_enter Try.func32, Try.ntmps32
    go_wp2_with (at_builtin; refine wpList_app rfl (.tmp 12) (.tmp 13) _ rfl elemInt w.heap.size _ _ _ rfl HO.out _ _ _ _ rfl (HC.out.2.alloc _) (int_one _) (by unfold maxLen; omega) (by omega) (by simp) ?_; intro A3 c3 w3 ho3 hg3 _; rw [Nat.zero_add, List.nil_append] at ho3; have hb3 := app_below1 rfl hg3; clear hg3)
    exact hR.out _ _ ⟨A3, c3, rfl, SlE.of_own ho3 Hl.out, (own_lo ho3).2.1, (own_lo ho3).2.2, hb3⟩
end Go.Proofs.Ytjdhcdoekfikpaa
