/-
  Contracts of the small functions of temper: in, within, weights; no condition but those that each contract states.
-/
import Derived.Test.YtojbldoekalbnaaGreatDoorMMem
namespace Go.Proofs.YtojbldoekalbnaaGreatDoor
open Go.RowKit
def inB (v lo hi : Int) : Bool := decide (lo ≤ v) && decide (v ≤ hi)
theorem all_of_take {α : Type} (p : α → Bool) (l : List α) (k : Nat) (x : α) (h : (l.take k).all p = true) (hx : l[k]? = some x) (hp : p x = true) : (l.take (k + 1)).all p = true := by
  obtain ⟨hk, rfl⟩ := List.getElem?_eq_some_iff.1 hx
  rw [List.take_succ_eq_append_getElem hk, List.all_append, h]
  simp [hp]
theorem all_false_of {α : Type} (p : α → Bool) (l : List α) (k : Nat) (x : α) (hx : l[k]? = some x) (hp : p x = false) : l.all p = false := by
  rw [List.all_eq_false]
  exact ⟨x, List.mem_of_getElem? hx, by simp [hp]⟩
set_option maxHeartbeats 400000 in
theorem within_any (v lo hi : Int) (w : World) :
    Calls Tryz.prog 72 #[.int .i64 v, .int .i64 lo, .int .i64 hi] w fun e w' => e = .returned (.bool (inB v lo hi)) ∧ w = w' := by
  unfold inB
  by_cases h1 : lo ≤ v <;> by_cases h2 : v ≤ hi
  all_goals
    go_enter Tryz.func72, Tryz.ntmps72
    go_wp2
    go_ret
    exact ⟨by simp [*], rfl⟩
end Go.Proofs.YtojbldoekalbnaaGreatDoor
