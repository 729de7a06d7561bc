/-
  Contract of the law's many at a valid ring: it answers; the condition is that the bound is at most 5000.
-/
import Derived.Test.YtgmphiklkllnlaaTLk
namespace Go.Proofs.Ytgmphiklkllnlaa
open Go.RowKit
set_option maxRecDepth 8000 in
set_option maxHeartbeats 4000000 in
theorem many_any (r : Rg) (hr : r.Ok) (A B : Option Addr) (n c m d : Nat) (w : World) :
    Calls Try.prog 18 #[.agg #[.int .i64 r.N, .int .i64 r.S, .int .i64 r.low, .int .i64 r.high, .int .i64 r.total, .int .i64 r.pure, .int .i64 r.worst, .slice A n c, .slice B m d], .int .i64 5000] w fun e w' => (∃ b, e = .returned (.bool b)) ∧ Below w.heap.size w w' := by
  refine calls_cps ?_
  intro R hR
  have hal := heap_alloc_new w (.cells #[.int .i64 r.N, .int .i64 r.S, .int .i64 r.low, .int .i64 r.high, .int .i64 r.total, .int .i64 r.pure, .int .i64 r.worst, .slice A n c, .slice B m d] 24)
  have HR := Lib.hid (show ∀ b, R (.returned (.bool b)) (w.alloc (.cells #[.int .i64 r.N, .int .i64 r.S, .int .i64 r.low, .int .i64 r.high, .int .i64 r.total, .int .i64 r.pure, .int .i64 r.worst, .slice A n c, .slice B m d] 24)) from fun b => hR.out _ _ ⟨⟨b, rfl⟩, below_new w _⟩)
  obtain ⟨x0, x1, x2, x3, x4, x5, x6, x7, x8, -⟩ := cells9' hal
  have h3 := hr.h1
  have h4 := hr.h2
  have h1 := hr.l1
  have h2 := hr.l2
  have hN := hr.n2
  clear hR hal
  obtain ⟨K, hK⟩ : ∃ K, r.high - r.low = K := ⟨_, rfl⟩
  have hK0 : 0 ≤ K := by omega
  have hK3 : K ≤ 3 := by omega
  have hu : IntKind.i64.wrap (r.high - r.low) = K := by rw [hK]; exact IntWalk.i64_in _ (by omega)
  go_enter Try.func18, Try.ntmps18
  go_wp2_with fail
  go_loop [5, 6] (fun s5 s6 => ∃ (k : Nat) (v : Int), k ≤ r.N ∧ s6 = .int .i64 k ∧ s5 = .int .i64 v ∧ 0 ≤ v ∧ v ≤ 5000) (fun _ i => r.N - (intOf i).toNat)
  case atStart => exact ⟨0, 1, Nat.zero_le _, rfl, rfl, by omega, by omega⟩
  case round =>
    obtain ⟨k, v, hk, rfl, rfl, hv0, hv1⟩ := hrel
    by_cases hlt : k < r.N
    · have i1 : (k : Int) < (r.N : Int) := by omega
      obtain ⟨v2, hv2⟩ : ∃ v2, v * (K + 1) = v2 := ⟨_, rfl⟩
      have hb2 : 0 ≤ v2 ∧ v2 ≤ 20000 := by
        have e : K = 0 ∨ K = 1 ∨ K = 2 ∨ K = 3 := by omega
        rcases e with e | e | e | e <;> subst e <;> omega
      obtain ⟨hb3, hb4⟩ := hb2
      by_cases hm : 5000 < v2
      · go_wp2_with fail
        exact HR.out true
      · go_wp2_with fail
        exact ⟨⟨k + 1, v2, by omega, by go_num, rfl, by omega, by omega⟩, by simp [intOf]; omega⟩
    · obtain rfl : k = r.N := by omega
      go_wp2_with fail
      exact HR.out false
end Go.Proofs.Ytgmphiklkllnlaa
