/-
  Worlds that leave all below a block as it was, as the values of a function; a drawn region by one walk.
-/
import Derived.Test.YtojbldoekalbnaaGreatDoorTLeaf
import Derived.Lib.SliceRun
import Derived.Deep.RegionHeld3
import Derived.Deep.CutBlock
import Derived.Deep.LoopGhost
import Derived.Deep.RegionWith
import Derived.BigRegion
import Derived.IntWalk
namespace Go.Proofs.YtojbldoekalbnaaGreatDoor
section
open Go.RowKit
theorem below_drewW {b : Nat} {W W' : World} (h : Below b W W') (q : Nat) : Below b W (W'.drewN q) := ⟨h.os, h.tape, h.output, h.size, h.block⟩
theorem getD_someW {l : List Int} {i : Nat} {x : Int} (h : l[i]? = some x) : l.getD i 0 = x := by
  rw [List.getD_eq_getElem?_getD, h]; rfl
/-- The worlds that leave all below B as it was, as the values of a function. -/
structure ClsW (B : Nat) (w0 : World) (ι : Type) (mk : ι → World) : Prop where
  iff : ∀ w', Below B w0 w' ↔ ∃ n, w' = mk n
theorem cls_exW (B : Nat) (w0 : World) : ∃ (ι : Type) (mk : ι → World), ClsW B w0 ι mk :=
  ⟨{ w' // Below B w0 w' }, Subtype.val, ⟨fun w' => ⟨fun h => ⟨⟨w', h⟩, rfl⟩, by rintro ⟨n, rfl⟩; exact n.2⟩⟩⟩
section
variable {B : Nat} {w0 : World} {ι : Type} {mk : ι → World}
theorem ClsW.below (h : ClsW B w0 ι mk) (n : ι) : Below B w0 (mk n) := (h.iff _).2 ⟨n, rfl⟩
theorem ClsW.ne (h : ClsW B w0 ι mk) : Nonempty ι := let ⟨n, _⟩ := (h.iff _).1 (Below.refl B w0); ⟨n⟩
theorem ClsW.drew (h : ClsW B w0 ι mk) : ∃ n, { w0 with drawn := w0.drawn + 1 } = mk n := (h.iff _).1 (Below.refl B w0).drew
theorem ClsW.call (h : ClsW w0.heap.size w0 ι mk) {P : Program} {f : FuncId} {args : Array Value} {n : ι} {v : Value}
    (hc : Calls P f args (mk n) fun e w' => e = .returned v ∧ Below (mk n).heap.size (mk n) w') : Calls P f args (mk n) fun e w'' => e = .returned v ∧ ∃ m, w'' = mk m :=
  hc.mono fun _ _ ⟨he, hb⟩ => ⟨he, (h.iff _).1 ((h.below n).trans (hb.mono (h.below n).size))⟩
theorem ClsW.call_same (_h : ClsW w0.heap.size w0 ι mk) {P : Program} {f : FuncId} {args : Array Value} {n : ι} {v : Value}
    (hc : Calls P f args (mk n) fun e w' => e = .returned v ∧ mk n = w') : Calls P f args (mk n) fun e w'' => e = .returned v ∧ ∃ m, w'' = mk m :=
  hc.mono fun _ _ ⟨he, hb⟩ => ⟨he, n, hb.symm⟩
end
theorem wp_region_clsW {P : Program} {C : World → Prop} {id : Nat} {Q : Exit → Act → World → Prop} {a : Act} {w : World} {l : List Oper} (hm : P.follows .mixedOrders = true) (hB : Region.lexB .any l.toArray = true) (hC : C { w with drawn := w.drawn + 1 })
    (h : wpQuiet P l.toArray C (fun a' => ∀ w', C w' → Q .normal a' w') l a) : (Code.region id l.toArray true).wp P Q a w :=
  wp_region_quiet (C := C) hm hB hC (by simpa using h)
end
end Go.Proofs.YtojbldoekalbnaaGreatDoor
