/-
  The contract of the document's All: the numbers of the rows; condition: at most 64 rows.
-/
import Derived.Test.YtjdhcdoekfikpaaMMost
namespace Go.Proofs.Ytjdhcdoekfikpaa
open Go.RowKit

set_option maxRecDepth 100000 in
set_option maxHeartbeats 2000000 in
theorem refAll_any (A : Option Addr) (n c : Nat) (hn : n ≤ 64) (w : World) :
    Calls Try.prog 30 #[.slice A n c] w fun e w' => ∃ A' c', e = .returned (.slice A' n c') ∧ w'.ownsRow w.heap.size 3 1 (.slice A' n c') n ((numL n).flatMap intE) ∧ Below w.heap.size w w' := by
  refine calls_cps ?_
  intro R hR
  go_enter Try.func30, Try.ntmps30
  go_wp2_with fail
  go_loopw [3, 4] (fun s3 s4 wr => ∃ (k : Nat) (A' : Option Addr) (c' : Nat), k ≤ n ∧ s3 = .slice A' k c' ∧ s4 = .int .i64 ((k : Nat) : Int) ∧ wr.ownsRow w.heap.size 3 1 (.slice A' k c') k ((numL k).flatMap intE) ∧ Below w.heap.size w wr) (fun _ s4 _ => n - (intOf s4).toNat)
  case atStart => exact ⟨0, _, _, by omega, rfl, rfl, own_new w #[] 3 1 0 w.heap.size rfl (Nat.le_refl _) (by unfold maxLen; omega), below_new w _⟩
  case round =>
    obtain ⟨k, A', c', hk, rfl, rfl, ho, hb⟩ := hrel
    obtain ⟨wi, rfl⟩ : ∃ wi : World, wi = wr := ⟨_, rfl⟩
    by_cases hlt : k < n
    · have i1 : (k : Int) < (n : Int) := by omega
      have hsz := hb.size
      go_wp2_with (at_builtin; refine wpList_app rfl (.tmp 12) (.tmp 14) _ rfl elemInt w.heap.size _ _ _ rfl (ho.kept (World.grownBy_alloc wi _ none) (by cases (Value.slice A' k c').ownBlock <;> simp)) _ _ _ _ rfl (Sl.new _ _ _ 1 1 rfl) (by simp [Value.oneCell']) (by unfold maxLen; omega) (by omega) (by simp; omega) ?_; intro A1 c1 w2 ho2 hg2 _; have hb2 := below_own (hb.alloc hsz _) (ho.kept (World.grownBy_alloc wi _ none) (by cases (Value.slice A' k c').ownBlock <;> simp)) (Nat.le_refl _) (by simp; omega) hg2; have HO := Lib.hid (show w2.ownsRow w.heap.size 3 1 (.slice A1 (k + 1) c1) (k + 1) ((numL (k + 1)).flatMap intE) from by rw [numL_succ, List.flatMap_append]; exact ho2); have HB := Lib.hid hb2; clear ho2 hg2 hb2 ho hb)
      exact ⟨⟨k + 1, A1, c1, by omega, rfl, by go_num, HO.out, HB.out⟩, by simp [intOf]; omega⟩
    · obtain rfl : n = k := by omega
      have Hf := Lib.hid (hR.out (.returned (.slice A' n c')) wi ⟨_, _, rfl, ho, hb⟩)
      clear ho hb
      go_wp2
      exact Hf.out
end Go.Proofs.Ytjdhcdoekfikpaa
