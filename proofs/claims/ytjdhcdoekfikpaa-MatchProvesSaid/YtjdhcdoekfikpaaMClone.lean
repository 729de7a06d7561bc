/-
  The contract of slices.Clone of ints: a copy in a block of its own; condition: the slice is not nil and at most 2000 long.
-/
import Derived.Test.YtjdhcdoekfikpaaMIdx
import Derived.Lib.SliceRun
namespace Go.Proofs.Ytjdhcdoekfikpaa
open Go.RowKit

theorem elemInt : ElemOk Try.prog 26 3 1 8 := ElemOk.of (z := .int .i64 0) Try.underlying26 infoInt8 rfl (by omega)
theorem app_below1 {wc w3 : World} {o : Obj} {b : Nat} (hb : b = wc.heap.size) (hg : (wc.alloc o).grownBy w3 (some b)) : Below wc.heap.size wc w3 :=
  (below_new wc o).grown hg (by simp) (fun k hk => by injection hk with hk; omega)
set_option maxHeartbeats 1000000 in
set_option maxRecDepth 100000 in
theorem clone_any (a : Addr) (n c : Nat) (l : List Int) (w : World) (hA : SlE intE 1 w (some a) n l) (hn : n ≤ 2000) :
    Calls Try.prog 49 #[.slice (some a) n c] w fun e w' => ∃ A' c', e = .returned (.slice A' n c') ∧ w'.ownsRow w.heap.size 3 1 (.slice A' n c') n (l.flatMap intE) ∧ Below w.heap.size w w' := by
  refine calls_cps ?_
  intro R hR
  have hnil := fun (W : World) => Lib.run_eql_slice_nil (P := Try.prog) W 26 3 (some a) n c 0 0 Try.underlying26
  go_enter Try.func49, Try.ntmps49
  go_wp2_with (at_builtin; refine wpList_app rfl (.tmp 5) (.tmp 6) _ rfl elemInt w.heap.size _ _ _ rfl (own_new _ _ _ 1 0 _ (by simp) (Nat.le_refl _) (by unfold maxLen; omega)) _ _ _ _ rfl (hA.2.alloc _) (int_one _) (by unfold maxLen; omega) (by omega) (by simp) ?_; intro A3 c3 w3 ho3 hg3 _; rw [Nat.zero_add, List.nil_append] at ho3; have hb3 := app_below1 rfl hg3; clear hg3)
  exact hR.out _ _ ⟨_, _, rfl, ho3, hb3⟩
end Go.Proofs.Ytjdhcdoekfikpaa
