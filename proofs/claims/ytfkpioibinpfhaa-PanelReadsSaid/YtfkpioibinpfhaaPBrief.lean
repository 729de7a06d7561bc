/-
  The contract of clavecinlaw08.brief: a copy of the first 300 cuts; no condition but that the plan reads.
-/
import Derived.Test.YtfkpioibinpfhaaPFew
import Derived.Test.YtfkpioibinpfhaaPCuts
namespace Go.Proofs.Ytfkpioibinpfhaa
open Go.RowKit

theorem app_below1 {wc w3 : World} {o : Obj} {b : Nat} (hb : b = wc.heap.size) (hg : (wc.alloc o).grownBy w3 (some b)) : Below wc.heap.size wc w3 :=
  (below_new wc o).grown hg (by simp) (fun k hk => by injection hk with hk; omega)
set_option maxHeartbeats 1000000 in
theorem brief_any (A : Option Addr) (n c : Nat) (l : List (Int × Int)) (w : World) (hL : SlE cutE 2 w A n l) (hnc : n ≤ c) (hc : c ≤ 9223372036854775807) :
    Calls Try.prog 29 #[.slice A n c] w fun e w' => ∃ A' c', e = .returned (.slice A' (l.take 300).length c') ∧ (l.take 300).length ≤ c' ∧ c' ≤ maxLen ∧ w'.ownsRow w.heap.size 81 2 (.slice A' (l.take 300).length c') (l.take 300).length ((l.take 300).flatMap cutE) ∧ Below w.heap.size w w' := by
  refine calls_cps ?_
  intro R hR
  obtain ⟨L, hL2⟩ : ∃ L, (l.take 300).length = L := ⟨_, rfl⟩
  have hL300 : L ≤ 300 := by rw [← hL2, List.length_take]; omega
  rw [hL2] at hR
  by_cases hn : 300 < n
  · have hq := SlE.cut cutE_len hL (k := 300) (by omega)
    have hLe : L = 300 := by rw [← hL2, List.length_take, ← hL.1]; omega
    subst hLe
    go_enter Try.func29, Try.ntmps29
    go_wp2_with (at_builtin; refine wpList_app rfl (.tmp 8) (.tmp 9) _ rfl elemCut w.heap.size _ _ _ rfl (own_new _ _ _ 2 0 _ (by simp) (Nat.le_refl _) (by unfold maxLen; omega)) _ _ _ _ rfl (hq.2.alloc _) (cut_one _) (by unfold maxLen; omega) (by omega) (by simp) ?_; intro A3 c3 w3 ho3 hg3 _; rw [Nat.zero_add, List.nil_append] at ho3; have hb3 := app_below1 rfl hg3; clear hg3)
    obtain ⟨_, c4, hv, h1, h2, ho3⟩ := own_slice ho3
    simp only [Value.slice.injEq, true_and] at hv
    obtain ⟨rfl, rfl⟩ := hv
    exact hR.out _ _ ⟨_, _, rfl, h1, h2, ho3, hb3⟩
  · have hq := hL
    have hle : l.take 300 = l := List.take_of_length_le (by rw [← hL.1]; omega)
    rw [hle] at hR hL2
    have hLe : L = n := by rw [← hL2, hL.1]
    subst hLe
    go_enter Try.func29, Try.ntmps29
    go_wp2_with (at_builtin; refine wpList_app rfl (.tmp 8) (.tmp 9) _ rfl elemCut w.heap.size _ _ _ rfl (own_new _ _ _ 2 0 _ (by simp) (Nat.le_refl _) (by unfold maxLen; omega)) _ _ _ _ rfl (hq.2.alloc _) (cut_one _) (by unfold maxLen; omega) (by omega) (by simp) ?_; intro A3 c3 w3 ho3 hg3 _; rw [Nat.zero_add, List.nil_append] at ho3; have hb3 := app_below1 rfl hg3; clear hg3)
    obtain ⟨_, c4, hv, h1, h2, ho3⟩ := own_slice ho3
    simp only [Value.slice.injEq, true_and] at hv
    obtain ⟨rfl, rfl⟩ := hv
    exact hR.out _ _ ⟨_, _, rfl, h1, h2, ho3, hb3⟩
end Go.Proofs.Ytfkpioibinpfhaa
