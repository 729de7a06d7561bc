/-
  A region that draws its order and only reads, in the body of a range over a function: the quiet walk of the library, carried over to a round's frame; condition: no defer statement stands in it.
-/
import Derived.Test.YtfkpioibinpfhaaBase2
import Derived.RangeFuncNested
import Derived.RangeFuncBound
import Derived.RangeFuncCalls
import Derived.RangeFuncLeaves
import Derived.Shelf.Abstract
import Derived.Shelf.RegionOpen
import Derived.OwnWalkIn
import Derived.TacticsInMore
import Derived.LoopNIn
import Derived.LoopIn
namespace Go.Proofs.Ytfkpioibinpfhaa
open Go.RowKit

section
variable {P : Program} {ops : Array Oper} {C : World → Prop} {md : Region.Mode} {l n : Nat}
def noDefer (ops : Array Oper) : Bool := ops.all fun o => match o.op with | .defer _ => false | _ => true
theorem noDefer_at {i : Nat} {o : Oper} (h : noDefer ops = true) (ho : ops[i]? = some o) : ∀ c, o.op ≠ .defer c := by
  intro c hc
  obtain ⟨hi, rfl⟩ := Array.getElem?_eq_some_iff.1 ho
  have := Array.all_eq_true.1 h i hi
  rw [hc] at this
  cases this
theorem wpIn_of_quiet {o : Oper} {a : Act} {K : Act → Prop} {K' : Act → World → Prop} {Q' : Exit → Act → World → Prop} {w : World} (hd : ∀ c, o.op ≠ .defer c) (hw : C w) (h : ∀ a w', C w' → K a → K' a w') (hh : o.quiet P a C K) :
    o.wpIn (Fence.wide.inRound l) n P a w K' Q' := by
  obtain ⟨v, h1, h2⟩ := hh
  have h3 := h1 w hw
  unfold Oper.quietAt at h3
  refine ⟨fun _ _ => trivial, ?_⟩
  rw [show (Fence.wide.inRound l).round = some l from rfl, Oper.semAt_some l a.eval o hd]
  generalize (execOp a.eval o).run P w = r at *
  cases r with
  | ok x w' =>
    cases x <;> simp only [Oper.quietUpon] at h3 <;> simp only [Oper.uponIn]
    case value u =>
      obtain ⟨e1, e2⟩ := h3
      rw [e1, e2]
      exact h _ _ hw h2
    case skip =>
      obtain ⟨e1, e2⟩ := h3
      rw [e1, ← e2]
      exact h _ _ hw h2
    case enter f args =>
      obtain ⟨e1, hc⟩ := h3
      rw [e1]
      refine ⟨fun h0 => by simp [Fence.wide, Fence.inRound] at h0, CallsIn.inRound l (callsIn_wide.2 (hc.mono fun e w'' ⟨he, hw''⟩ => ?_))⟩
      subst he
      exact h _ _ hw'' h2
  | halt x w' => simp only [Oper.quietUpon] at h3
theorem wpOpIn_of_qOp {i : Nat} {a : Act} {K : Act → Prop} {K' : Act → World → Prop} {Q' : Exit → Act → World → Prop} {w : World} (hd : noDefer ops = true) (hC : C w) (h : ∀ a w', C w' → K a → K' a w') (hh : qOp P ops C i K a) :
    wpOpIn (Fence.wide.inRound l) n P ops Q' i K' a w := by
  unfold qOp at hh
  unfold wpOpIn
  split
  · rename_i ho; simp only [ho] at hh; exact h _ _ hC hh
  · rename_i o ho
    simp only [ho] at hh
    split
    · rename_i hw; simp only [hw, if_true] at hh; exact wpIn_of_quiet (noDefer_at hd ho) hC h hh
    · rename_i hw; simp only [hw] at hh; exact ⟨fun _ _ => trivial, h _ _ hC hh⟩
theorem wpAnyIn_of_quiet {Q : Act → Prop} {Q' : Exit → Act → World → Prop} (hd : noDefer ops = true) (hQ : ∀ a w, C w → Q a → Q' .normal a w) : ∀ (fuel : Nat) (listed : Array Bool) (a : Act) (w : World), C w →
    wpAnyQ P md ops C Q fuel listed a → wpAnyIn (Fence.wide.inRound l) n P md ops Q' fuel listed a w
  | 0, _, _, _, hw, h => ⟨h.1, hQ _ _ hw h.2⟩
  | fuel + 1, _, _, _, hw, h => ⟨fun h0 => hQ _ _ hw (h.1 h0), fun i hi => wpOpIn_of_qOp hd hw (fun a' w' hw' => wpAnyIn_of_quiet hd hQ fuel _ a' w' hw') (h.2 i hi)⟩
theorem wpIn_region_quiet_lit {id : Nat} {Q : Exit → Act → World → Prop} {a : Act} {w : World} {lo : List Oper} (hm : P.follows .mixedOrders = true) (hB : Region.lexB .any lo.toArray = true) (hd : noDefer lo.toArray = true)
    (h : wpQuiet P lo.toArray (fun w' => ∃ n, w' = w.drewN n) (fun a' => ∀ w', (∃ n, w' = w.drewN n) → Q .normal a' w') lo a) : (Code.region id lo.toArray true).wpIn (Fence.wide.inRound l) n P Q a w := by
  simp only [Region.lexB, Bool.and_eq_true] at hB
  refine wpIn_region_any hm (wpAnyIn_of_quiet (C := fun w' => ∃ n, w' = w.drewN n) (Q := fun a' => ∀ w', (∃ n, w' = w.drewN n) → Q .normal a' w') hd (fun _ w' hw' h => h w' hw') _ _ _ _ ⟨1, rfl⟩ ?_)
  have := wpAnyQ_lex (C := fun w' => ∃ n, w' = w.drewN n) (md := .any) hB.1 lo 0 (Array.replicate lo.toArray.size false) a (by simp) (by simpa using hB.2) h
  simpa using this
end

/-- No block of cells has turned, but for block mo. -/
def KC (mo : Option Nat) (W W' : World) : Prop := W.heap.size ≤ W'.heap.size ∧ ∀ j o, W.heap[j]? = some o → o.isCells = true → some j ≠ mo → W'.heap[j]? = some o
section
variable {mo : Option Nat} {A B C : World}
theorem KC.refl (mo : Option Nat) (W : World) : KC mo W W := ⟨Nat.le_refl _, fun _ _ h _ _ => h⟩
theorem KC.trans (h : KC mo A B) (k : KC mo B C) : KC mo A C := ⟨Nat.le_trans h.1 k.1, fun j o hj ho hm => k.2 j o (h.2 j o hj ho hm) ho hm⟩
theorem KC.cell (h : KC mo A B) {p : Addr} {v : Value} (hp : A.cell? p = some v) (hm : some p.block ≠ mo) : B.cell? p = some v := by
  obtain ⟨o, ho, hc⟩ := cells_of_cell hp
  exact (World.cell?_of_block (w := A) ((h.2 p.block o ho hc hm).trans ho.symm)).trans hp
theorem KC.putObj (W : World) (l : Nat) (o o' : Obj) (h : W.heap[l]? = some o) (hc : o.isCells = false) : KC mo W (W.putObj l o') :=
  ⟨(grownBy_putObj' W l o').size, fun j u hj hu _ => ((grownBy_putObj' W l o').block j (Array.getElem?_eq_some_iff.1 hj).1 (fun e => by
    injection e with e
    subst e
    rw [h] at hj
    injection hj with hj
    subst hj
    rw [hc] at hu
    cases hu)).trans hj⟩
theorem KC.grown {row : Option Nat} (h : A.grownBy B row) (hr : ∀ b, row = some b → mo = some b ∨ A.heap.size ≤ b) : KC mo A B :=
  ⟨h.size, fun j o hj _ hm => (h.block j (Array.getElem?_eq_some_iff.1 hj).1 (fun e => by
    rcases hr j e.symm with h' | h'
    · exact hm h'.symm
    · have := (Array.getElem?_eq_some_iff.1 hj).1; omega)).trans hj⟩
theorem KC.alloc (W : World) (o : Obj) : KC mo W (W.alloc o) := KC.grown (World.grownBy_alloc W o none) (fun b h => by cases h)
theorem KC.setCell (W : World) {b o : Nat} (hb : mo = some b) (u : Value) : KC mo W (W.setCell ⟨b, o, none⟩ u) :=
  ⟨by simp [World.setCell], fun j c hj _ hm => (Below.heap_setCell _ _ _ _ (fun e => by
    dsimp only at e
    subst e
    exact hm hb.symm)).trans hj⟩
theorem KC.drew (W : World) : KC mo W W.drew := ⟨Nat.le_refl _, fun _ _ h _ _ => h⟩
end
end Go.Proofs.Ytfkpioibinpfhaa
