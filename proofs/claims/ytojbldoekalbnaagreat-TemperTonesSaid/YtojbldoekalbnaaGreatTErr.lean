/-
  Contracts of temper's priced, Errors and Cost; each states its condition.
-/
import Derived.Test.YtojbldoekalbnaaGreatTFit
namespace Go.Proofs.YtojbldoekalbnaaGreat
open Go.RowKit
theorem ring9 {r : Rg} {A B : Option Addr} {n c m d : Nat} {W : World} {b : Nat} (h : W.heap[b]? = some (.cells #[.int .i64 r.N, .int .i64 r.S, .int .i64 r.low, .int .i64 r.high, .int .i64 r.total, .int .i64 r.pure, .int .i64 r.worst, .slice A n c, .slice B m d] 50)) :
    W.cell? ⟨b, 0, none⟩ = some (.int .i64 r.N) ∧ W.cell? ⟨b, 1, none⟩ = some (.int .i64 r.S) ∧ W.cell? ⟨b, 2, none⟩ = some (.int .i64 r.low) ∧ W.cell? ⟨b, 3, none⟩ = some (.int .i64 r.high) ∧ W.cell? ⟨b, 4, none⟩ = some (.int .i64 r.total) ∧
    W.cell? ⟨b, 5, none⟩ = some (.int .i64 r.pure) ∧ W.cell? ⟨b, 6, none⟩ = some (.int .i64 r.worst) ∧ W.cell? ⟨b, 7, none⟩ = some (.slice A n c) ∧ W.cell? ⟨b, 8, none⟩ = some (.slice B m d) ∧ (∀ j, W.frozen? ⟨b, j, none⟩ = false) := by
  have key : ∀ (j : Nat) (v : Value), (#[.int .i64 r.N, .int .i64 r.S, .int .i64 r.low, .int .i64 r.high, .int .i64 r.total, .int .i64 r.pure, .int .i64 r.worst, .slice A n c, .slice B m d] : Array Value)[j]? = some v → W.cell? ⟨b, j, none⟩ = some v := fun j v hv => by rw [cell_of_row _ _ j _ _ (0, 0) h]; exact hv
  exact ⟨key 0 _ rfl, key 1 _ rfl, key 2 _ rfl, key 3 _ rfl, key 4 _ rfl, key 5 _ rfl, key 6 _ rfl, key 7 _ rfl, key 8 _ rfl, fun j => by simp [World.frozen?, h]⟩
theorem below_drewN {b : Nat} {W W' : World} (h : Below b W W') (q : Nat) : Below b W (W'.drewN q) := ⟨h.os, h.tape, h.output, h.size, h.block⟩
theorem allow_no {r : Rg} {st : List Int} {i : Nat} (hi : i < r.N) (h : inB (r.err st i r.S) (-r.worst) r.worst = false) : r.allowB st = false := by
  cases e : r.allowB st with
  | false => rfl
  | true =>
    have := inB_iff.2 (allowB_iff.1 e i hi)
    rw [this] at h; cases h
/-- What the loop of priced keeps. -/
def Pri (r : Rg) (st : List Int) (k : Nat) (T : Int) : Prop := T = totF (r.one st) 0 k ∧ ∀ i, i < k → -r.worst ≤ r.err st i r.S ∧ r.err st i r.S ≤ r.worst
end Go.Proofs.YtojbldoekalbnaaGreat
