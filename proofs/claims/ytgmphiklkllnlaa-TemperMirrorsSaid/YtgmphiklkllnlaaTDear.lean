/-
  Contract of the law's dear; no condition.
-/
import Derived.Test.YtgmphiklkllnlaaTLk
namespace Go.Proofs.Ytgmphiklkllnlaa
open Go.RowKit
def Rg.dearB (r : Rg) : Bool := decide (12 < (r.N : Int)) && (decide ((r.S : Int) = 4) && decide (r.high - r.low = 3))
set_option maxRecDepth 8000 in
set_option maxHeartbeats 1000000 in
theorem dear_any (r : Rg) (hr : r.Ok) (A B : Option Addr) (n c m d : Nat) (w : World) :
    Calls Try.prog 26 #[.agg #[.int .i64 r.N, .int .i64 r.S, .int .i64 r.low, .int .i64 r.high, .int .i64 r.total, .int .i64 r.pure, .int .i64 r.worst, .slice A n c, .slice B m d]] w fun e w' => e = .returned (.bool r.dearB) ∧ Below w.heap.size w w' := by
  refine calls_cps ?_
  intro R hR
  have hal := heap_alloc_new w (.cells #[.int .i64 r.N, .int .i64 r.S, .int .i64 r.low, .int .i64 r.high, .int .i64 r.total, .int .i64 r.pure, .int .i64 r.worst, .slice A n c, .slice B m d] 24)
  obtain ⟨x0, x1, x2, x3, x4, x5, x6, x7, x8, -⟩ := cells9' hal
  have h1 := hr.l1
  have h2 := hr.l2
  have h3 := hr.h1
  have h4 := hr.h2
  have hu : IntKind.i64.wrap (r.high - r.low) = r.high - r.low := IntWalk.i64_in _ (by omega)
  have HR := Lib.hid (show ∀ (b : Bool) W, b = r.dearB → Below w.heap.size w W → R (.returned (.bool b)) W from fun b W e hb => hR.out _ _ ⟨by rw [e], hb⟩)
  clear hR hal
  by_cases k1 : 12 < (r.N : Int) <;> by_cases k2 : (r.S : Int) = 4 <;> by_cases k3 : r.high - r.low = 3
  all_goals
    have hb0 : r.dearB = (decide (12 < (r.N : Int)) && (decide ((r.S : Int) = 4) && decide (r.high - r.low = 3))) := rfl
    simp only [k1, k2, k3, decide_true, decide_false, Bool.and_true, Bool.and_false] at hb0
    go_enter Try.func26, Try.ntmps26
    go_wp2_with fail
    exact HR.out _ _ (by simp_all) (below_new w _)
end Go.Proofs.Ytgmphiklkllnlaa
