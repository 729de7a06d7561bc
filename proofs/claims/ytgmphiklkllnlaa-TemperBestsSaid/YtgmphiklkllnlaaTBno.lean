/-
  Contracts of temper.Best for rings that have no good steps, and for rings whose least cost is known; each states its condition.
-/
import Derived.Test.YtgmphiklkllnlaaTBes
import Derived.Test.YtgmphiklkllnlaaTRot
namespace Go.Proofs.Ytgmphiklkllnlaa
open Go.RowKit
theorem best_none (r : Rg) (hr : r.Ok) (A B : Option Addr) (n c m d : Nat) (w : World) (hF : SlE intE 1 w A n r.fi) (hT : SlE intE 1 w B m r.th) (hno : ∀ st, ¬ r.Good st) :
    Calls Try.prog 20 #[.agg #[.int .i64 r.N, .int .i64 r.S, .int .i64 r.low, .int .i64 r.high, .int .i64 r.total, .int .i64 r.pure, .int .i64 r.worst, .slice A n c, .slice B m d]] w fun en w' => en = .returned (.tuple #[.slice none 0 0, .int .i64 0, .int .i64 6]) ∧ Below w.heap.size w w' := by
  refine (callsIn_wide.1 (best_ok 6 (Nat.le_refl _) r hr A B n c m d w hF hT)).mono ?_
  rintro en w' ⟨⟨h, -⟩ | ⟨st, cs, A', c', -, hb, -⟩, hw⟩
  · exact ⟨h, hw⟩
  · exact absurd hb.good (hno _)
theorem best_some (r : Rg) (hr : r.Ok) (A B : Option Addr) (n c m d : Nat) (cs : Int) (w : World) (hF : SlE intE 1 w A n r.fi) (hT : SlE intE 1 w B m r.th) (hyes : ∃ st, r.Good st) (hcs : ∀ st c, r.Best st c → c = cs) :
    Calls Try.prog 20 #[.agg #[.int .i64 r.N, .int .i64 r.S, .int .i64 r.low, .int .i64 r.high, .int .i64 r.total, .int .i64 r.pure, .int .i64 r.worst, .slice A n c, .slice B m d]] w fun en w' => (∃ (A' : Option Addr) (c' : Nat), en = .returned (.tuple #[.slice A' r.N c', .int .i64 cs, .int .i64 0])) ∧ Below w.heap.size w w' := by
  refine (callsIn_wide.1 (best_ok 6 (Nat.le_refl _) r hr A B n c m d w hF hT)).mono ?_
  rintro en w' ⟨⟨-, h⟩ | ⟨st, c0, A', c', h, hb, -⟩, hw⟩
  · obtain ⟨st, hst⟩ := hyes
    exact absurd hst (h _)
  · rw [hcs _ _ hb] at h
    exact ⟨⟨A', c', h⟩, hw⟩
theorem like_cost {r q : Rg} {f g : List Int → List Int} (h : Like r q f) (k : Like q r g) : ∃ cs : Int, (∀ st c, r.Best st c → c = cs) ∧ ∀ st c, q.Best st c → c = cs := by
  rcases Classical.em (∃ st c, r.Best st c) with ⟨s1, c1, h1⟩ | h1
  · exact ⟨c1, fun st c h2 => (h2.uniq h1).2, fun st c h2 => (h.best k h1 h2).symm⟩
  · rcases Classical.em (∃ st c, q.Best st c) with ⟨s2, c2, h2⟩ | h2
    · exact ⟨c2, fun st c h3 => absurd ⟨st, c, h3⟩ h1, fun st c h3 => (h3.uniq h2).2⟩
    · exact ⟨0, fun st c h3 => absurd ⟨st, c, h3⟩ h1, fun st c h3 => absurd ⟨st, c, h3⟩ h2⟩
end Go.Proofs.Ytgmphiklkllnlaa
