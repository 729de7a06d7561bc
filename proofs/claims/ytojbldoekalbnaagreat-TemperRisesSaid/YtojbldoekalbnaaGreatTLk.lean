/-
  What the laws of temper share: a ring cut short in a box, and a slice of steps cut short; no condition but those that each lemma states.
-/
import Derived.Test.YtojbldoekalbnaaGreatTCut
namespace Go.Proofs.YtojbldoekalbnaaGreat
open Go.RowKit
/-- The ring's box and the lists that it and the steps read, all made since w. -/
structure Bx (w W : World) (bb : Nat) (N S low high total pure worst : Int) (A B D : Option Addr) (n c m d q e : Nat) (fi th st : List Int) : Prop where
  box : W.heap[bb]? = some (.cells #[.int .i64 N, .int .i64 S, .int .i64 low, .int .i64 high, .int .i64 total, .int .i64 pure, .int .i64 worst, .slice A n c, .slice B m d] 50 (0, 0))
  F : SlE intE 1 W A n fi
  T : SlE intE 1 W B m th
  S : SlE intE 1 W D q st
  bel : Below w.heap.size w W
theorem Bx.below {w W W' : World} {bb : Nat} {N S low high total pure worst : Int} {A B D : Option Addr} {n c m d q e : Nat} {fi th st : List Int} (h : Bx w W bb N S low high total pure worst A B D n c m d q e fi th st) (hb : Below W.heap.size W W') :
    Bx w W' bb N S low high total pure worst A B D n c m d q e fi th st :=
  ⟨(hb.block bb (Array.getElem?_eq_some_iff.1 h.box).1).trans h.box, h.F.below hb, h.T.below hb, h.S.below hb, h.bel.trans (hb.mono h.bel.size)⟩
theorem same_self (A B : Option Addr) (n c d : Nat) (l : List Int) (w : World) (h1 : SlE intE 1 w A n l) (h2 : SlE intE 1 w B n l) (hn : n ≤ 9223372036854775807) :
    Calls Tryz.prog 28 #[.slice A n c, .slice B n d] w fun e w' => e = .returned (.bool true) ∧ Below w.heap.size w w' := by
  refine (same_any A B n c n d l l w h1 h2 hn hn).mono ?_
  rintro e w' ⟨rfl, q, rfl⟩
  exact ⟨by simp, below_drewN (Below.refl _ _) q⟩
end Go.Proofs.YtojbldoekalbnaaGreat
