/-
  Contracts of must and of the reader's shape: both ways, the panic too; no condition but those that each states.
-/
import Derived.Test.YtfkpioibinpfhaaPMem
import Derived.Test.YtfkpioibinpfhaaMem3
import Derived.Test.YtfkpioibinpfhaaPRead3
import Derived.BigQuiet
import Derived.Deep.QuietTactic
namespace Go.Proofs.Ytfkpioibinpfhaa
open Go.RowKit

/-- The panic of a plan that is none. -/
def malP : List PanicEntry := [{ v := .iface 88 (.agg #[]), recovered := false }]
set_option maxHeartbeats 400000 in
theorem must_ok (w : World) : Calls Try.prog 48 #[.bool true] w fun e w' => e = .returned (.tuple #[]) ∧ w = w' := by
  go_enter Try.func48, Try.ntmps48
  go_wp2
  go_end0
  exact ⟨rfl, rfl⟩
set_option maxHeartbeats 400000 in
theorem must_no (w : World) : Calls Try.prog 48 #[.bool false] w fun e w' => e = .panicked malP ∧ w = w' := by
  unfold malP
  go_enter Try.func48, Try.ntmps48
  go_wp2
  exact ⟨rfl, rfl, rfl⟩
/-- The reader at block p: its kerf, shapes, what is left of the plan, the pieces so far. -/
def rdrBox (W : World) (p : Nat) (k : Int) (B : Option Addr) (m d : Nat) (A : Option Addr) (n c : Nat) (v : Value) : Prop := W.heap[p]? = some (.cells #[.int .i64 k, .slice B m d, .slice A n c, v] 92 (0, 0))
set_option maxHeartbeats 400000 in
theorem shape_ok (p : Nat) (k : Int) (B : Option Addr) (m d : Nat) (A : Option Addr) (n c : Nat) (v : Value) (ss : List Shp) (i : Nat) (s : Shp) (w : World) (hp : rdrBox w p k B m d A n c v) (hS : SlE Shp.enc 4 w B m ss) (hi : ss[i]? = some s) (_hm : m ≤ 9223372036854775807) :
    Calls Try.prog 52 #[.pointer (some ⟨p, 0, none⟩), .int .i64 i] w fun e w' => e = .returned (.agg #[.int .i64 s.W, .int .i64 s.H, .int .i64 s.V, .bool s.T]) ∧ Below w.heap.size w w' := by
  refine calls_cps ?_
  intro R hR
  obtain ⟨q0, q1, q2, q3, q4⟩ := cells4 hp
  have hlt : i < m := by rw [hS.1]; exact (List.getElem?_eq_some_iff.1 hi).1
  obtain ⟨b, o, s', rfl, hbl, hs', c0, c1, c2, c3⟩ := hS.at4 hlt
  obtain rfl : s = s' := by
    rw [hi] at hs'
    injection hs'
  have Hs := Lib.hid hs'
  have hpz : p < w.heap.size := (Array.getElem?_eq_some_iff.1 hp).1
  clear hs' hi hS
  have i1 : (i : Int) < (m : Int) := by omega
  go_enter Try.func52, Try.ntmps52
  go_wp2_with (go_at_call 48; refine (must_ok _).mono ?_; rintro e w' ⟨rfl, rfl⟩)
  refine bodyPost_ret (v := .agg #[.int .i64 s.W, .int .i64 s.H, .int .i64 s.V, .bool s.T]) ?_ rfl (hR.out _ _ ⟨rfl, ?_⟩)
  · simp [results, Try.results52, go_sem]
  · exact below_new _ _
set_option maxHeartbeats 400000 in
theorem shape_no (p : Nat) (k : Int) (B : Option Addr) (m d : Nat) (A : Option Addr) (n c : Nat) (v : Value) (i : Int) (w : World) (hp : rdrBox w p k B m d A n c v) (hi : ¬ (0 ≤ i ∧ i < (m : Int))) (_hm : m ≤ 9223372036854775807) :
    Calls Try.prog 52 #[.pointer (some ⟨p, 0, none⟩), .int .i64 i] w fun e w' => e = .panicked malP ∧ Below w.heap.size w w' := by
  refine calls_cps ?_
  intro R hR
  obtain ⟨q0, q1, q2, q3, q4⟩ := cells4 hp
  have hpz : p < w.heap.size := (Array.getElem?_eq_some_iff.1 hp).1
  by_cases h0 : 0 ≤ i
  · have h1 : ¬ i < (m : Int) := fun h => hi ⟨h0, h⟩
    go_enter Try.func52, Try.ntmps52
    go_wp2_with (go_at_call 48; refine (must_no _).mono ?_; rintro e w' ⟨rfl, rfl⟩)
    exact ⟨rfl, hR.out _ _ ⟨rfl, below_new _ _⟩⟩
  · go_enter Try.func52, Try.ntmps52
    go_wp2_with (go_at_call 48; refine (must_no _).mono ?_; rintro e w' ⟨rfl, rfl⟩)
    exact ⟨rfl, hR.out _ _ ⟨rfl, below_new _ _⟩⟩
end Go.Proofs.Ytfkpioibinpfhaa
