/-
  A region that draws its order, whose operations read and whose callees make memory and hand back what does not depend on where it lies: one walk serves every order; no condition but those that each lemma states.
-/
import Derived.Test.YtojbldoekalbnaaGreatTBet
namespace Go.Proofs.YtojbldoekalbnaaGreat
open Go.RowKit
/-- The worlds that leave all below B as it was, as the values of a function. -/
structure Cls (B : Nat) (w0 : World) (ι : Type) (mk : ι → World) : Prop where
  iff : ∀ w', Below B w0 w' ↔ ∃ n, w' = mk n
theorem cls_ex (B : Nat) (w0 : World) : ∃ (ι : Type) (mk : ι → World), Cls B w0 ι mk :=
  ⟨{ w' // Below B w0 w' }, Subtype.val, ⟨fun w' => ⟨fun h => ⟨⟨w', h⟩, rfl⟩, by rintro ⟨n, rfl⟩; exact n.2⟩⟩⟩
section
variable {B : Nat} {w0 : World} {ι : Type} {mk : ι → World}
theorem Cls.below (h : Cls B w0 ι mk) (n : ι) : Below B w0 (mk n) := (h.iff _).2 ⟨n, rfl⟩
theorem Cls.ne (h : Cls B w0 ι mk) : Nonempty ι := let ⟨n, _⟩ := (h.iff _).1 (Below.refl B w0); ⟨n⟩
theorem Cls.drew (h : Cls B w0 ι mk) : ∃ n, { w0 with drawn := w0.drawn + 1 } = mk n := (h.iff _).1 (Below.refl B w0).drew
theorem Cls.call (h : Cls w0.heap.size w0 ι mk) {P : Program} {f : FuncId} {args : Array Value} {n : ι} {v : Value}
    (hc : Calls P f args (mk n) fun e w' => e = .returned v ∧ Below (mk n).heap.size (mk n) w') : Calls P f args (mk n) fun e w'' => e = .returned v ∧ ∃ m, w'' = mk m :=
  hc.mono fun _ _ ⟨he, hb⟩ => ⟨he, (h.iff _).1 ((h.below n).trans (hb.mono (h.below n).size))⟩
theorem Cls.call_same (_h : Cls w0.heap.size w0 ι mk) {P : Program} {f : FuncId} {args : Array Value} {n : ι} {v : Value}
    (hc : Calls P f args (mk n) fun e w' => e = .returned v ∧ mk n = w') : Calls P f args (mk n) fun e w'' => e = .returned v ∧ ∃ m, w'' = mk m :=
  hc.mono fun _ _ ⟨he, hb⟩ => ⟨he, n, hb.symm⟩
end
theorem wp_region_cls {P : Program} {C : World → Prop} {id : Nat} {Q : Exit → Act → World → Prop} {a : Act} {w : World} {l : List Oper} (hm : P.follows .mixedOrders = true) (hB : Region.lexB .any l.toArray = true) (hC : C { w with drawn := w.drawn + 1 })
    (h : wpQuiet P l.toArray C (fun a' => ∀ w', C w' → Q .normal a' w') l a) : (Code.region id l.toArray true).wp P Q a w :=
  wp_region_quiet (C := C) hm hB hC (by simpa using h)
end Go.Proofs.YtojbldoekalbnaaGreat
