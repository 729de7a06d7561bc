/-
  Contracts of temper.Best and of the document's Best where the answer is known; each states its condition.
-/
import Derived.Test.YtgmphiklkllnlaaTBno
import Derived.Test.YtgmphiklkllnlaaTRbs
namespace Go.Proofs.Ytgmphiklkllnlaa
open Go.RowKit
theorem best_known (r : Rg) (hr : r.Ok) (A B : Option Addr) (n c m d : Nat) (st : List Int) (cs : Int) (w : World) (hF : SlE intE 1 w A n r.fi) (hT : SlE intE 1 w B m r.th) (hk : r.Best st cs) :
    Calls Try.prog 20 #[.agg #[.int .i64 r.N, .int .i64 r.S, .int .i64 r.low, .int .i64 r.high, .int .i64 r.total, .int .i64 r.pure, .int .i64 r.worst, .slice A n c, .slice B m d]] w fun en w' => (∃ (A' : Option Addr) (c' : Nat), en = .returned (.tuple #[.slice A' r.N c', .int .i64 cs, .int .i64 0]) ∧ SlE intE 1 w' A' r.N st) ∧ Below w.heap.size w w' := by
  refine (callsIn_wide.1 (best_ok 6 (Nat.le_refl _) r hr A B n c m d w hF hT)).mono ?_
  rintro en w' ⟨⟨-, h⟩ | ⟨st', c0, A', c', h, hb, ho⟩, hw⟩
  · exact absurd hk.good (h _)
  · obtain ⟨rfl, rfl⟩ := hb.uniq hk
    exact ⟨⟨A', c', h, SlE.of_own ho hb.good.len.symm⟩, hw⟩
theorem refBest_known (r : Rg) (hr : r.Ok) (A B : Option Addr) (n c m d : Nat) (st : List Int) (cs : Int) (w : World) (hF : SlE intE 1 w A n r.fi) (hT : SlE intE 1 w B m r.th) (hk : r.Best st cs) :
    Calls Try.prog 21 #[.agg #[.int .i64 r.N, .int .i64 r.S, .int .i64 r.low, .int .i64 r.high, .int .i64 r.total, .int .i64 r.pure, .int .i64 r.worst, .slice A n c, .slice B m d]] w fun en w' => (∃ (A' : Option Addr) (c' : Nat), en = .returned (.tuple #[.slice A' r.N c', .int .i64 cs, .int .i64 0]) ∧ SlE intE 1 w' A' r.N st) ∧ Below w.heap.size w w' := by
  refine (refBest_any r hr A B n c m d w hF hT).mono ?_
  rintro en w' ⟨⟨-, h⟩ | ⟨st', c0, A', c', h, hb, ho⟩, hw⟩
  · exact absurd hk.good (h _)
  · obtain ⟨rfl, rfl⟩ := hb.uniq hk
    exact ⟨⟨A', c', h, ho⟩, hw⟩
theorem refBest_none (r : Rg) (hr : r.Ok) (A B : Option Addr) (n c m d : Nat) (w : World) (hF : SlE intE 1 w A n r.fi) (hT : SlE intE 1 w B m r.th) (hno : ∀ st, ¬ r.Good st) :
    Calls Try.prog 21 #[.agg #[.int .i64 r.N, .int .i64 r.S, .int .i64 r.low, .int .i64 r.high, .int .i64 r.total, .int .i64 r.pure, .int .i64 r.worst, .slice A n c, .slice B m d]] w fun en w' => en = .returned (.tuple #[.slice none 0 0, .int .i64 0, .int .i64 6]) ∧ Below w.heap.size w w' := by
  refine (refBest_any r hr A B n c m d w hF hT).mono ?_
  rintro en w' ⟨⟨h, -⟩ | ⟨st, cs, A', c', -, hb, -⟩, hw⟩
  · exact ⟨h, hw⟩
  · exact absurd hb.good (hno _)
/-- Steps that are good at all have a cheapest among them. -/
theorem best_or (r : Rg) (hr : r.Ok) : (∀ st, ¬ r.Good st) ∨ ∃ st cs, r.Best st cs := by
  rcases Classical.em (∃ st, r.Good st) with ⟨st, h⟩ | h
  · right
    have hw : r.begs.foldl r.stepB ([], -1) = r.begs.foldl r.stepB ([], -1) := rfl
    rcases begs_best hr hw with ⟨-, k⟩ | ⟨-, k⟩
    · exact absurd h (k st)
    · exact ⟨_, _, k⟩
  · exact .inl fun st hst => h ⟨st, hst⟩
end Go.Proofs.Ytgmphiklkllnlaa
