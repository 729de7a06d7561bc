/-
  A frame that names the blocks that may turn; no condition but those that each lemma states.
-/
import Derived.Test.YtojbldoekalbnaaGreatDoorMMem
import Derived.Deep.OwnRows
import Derived.Laws.OwnMore
namespace Go.Proofs.YtojbldoekalbnaaGreatDoor
open Go.RowKit
/-- All but the blocks S, and what is new, is as it was. -/
structure Kx (S : Nat → Prop) (W W' : World) : Prop where
  os : W'.os = W.os
  tape : W'.tape = W.tape
  output : W'.output = W.output
  size : W.heap.size ≤ W'.heap.size
  block : ∀ j, j < W.heap.size → ¬ S j → W'.heap[j]? = W.heap[j]?
section
variable {S T : Nat → Prop} {A B C : World}
theorem Kx.refl (S : Nat → Prop) (W : World) : Kx S W W := ⟨rfl, rfl, rfl, Nat.le_refl _, fun _ _ _ => rfl⟩
theorem Kx.trans (h : Kx S A B) (k : Kx T B C) (hs : ∀ j, j < A.heap.size → T j → S j) : Kx S A C :=
  ⟨k.os.trans h.os, k.tape.trans h.tape, k.output.trans h.output, Nat.le_trans h.size k.size, fun j hj hn => (k.block j (Nat.lt_of_lt_of_le hj h.size) (fun ht => hn (hs j hj ht))).trans (h.block j hj hn)⟩
theorem Kx.mono (h : Kx S A B) (hs : ∀ j, S j → T j) : Kx T A B := ⟨h.os, h.tape, h.output, h.size, fun j hj hn => h.block j hj (fun ht => hn (hs j ht))⟩
theorem Kx.drewN (h : Kx S A B) (q : Nat) : Kx S A (B.drewN q) := ⟨h.os, h.tape, h.output, h.size, h.block⟩
theorem Kx.grown {row : Option Nat} (h : Kx S A B) (hg : B.grownBy C row) (hs : ∀ j, row = some j → S j ∨ A.heap.size ≤ j) : Kx S A C :=
  ⟨hg.os.trans h.os, hg.tape.trans h.tape, hg.output.trans h.output, Nat.le_trans h.size hg.size, fun j hj hn => (hg.block j (Nat.lt_of_lt_of_le hj h.size) (fun e => by
    rcases hs j e.symm with h' | h'
    · exact hn h'
    · omega)).trans (h.block j hj hn)⟩
theorem Kx.below (h : Kx S A B) (hb : Below B.heap.size B C) : Kx S A C :=
  ⟨hb.os.trans h.os, hb.tape.trans h.tape, hb.output.trans h.output, Nat.le_trans h.size hb.size, fun j hj hn => (hb.block j (Nat.lt_of_lt_of_le hj h.size)).trans (h.block j hj hn)⟩
/-- Where nothing below b may turn. -/
theorem Kx.low {w : World} {b : Nat} (hb : Below b w A) (h : Kx S A B) (hs : ∀ j, S j → b ≤ j) (hba : b ≤ A.heap.size) : Below b w B :=
  ⟨h.os.trans hb.os, h.tape.trans hb.tape, h.output.trans hb.output, Nat.le_trans hb.size h.size, fun j hj => (h.block j (by omega) (fun ht => by have := hs j ht; omega)).trans (hb.block j hj)⟩
end
theorem kx_set {S : Nat → Prop} {W W' : World} {b : Nat} (h : Kx S W W') (hs : S b) (k : Nat) (v : Value) : Kx S W (W'.setCell ⟨b, k, none⟩ v) :=
  ⟨h.os, h.tape, h.output, by have := h.size; simpa [World.setCell] using this, fun j hj hn => (Below.heap_setCell W' ⟨b, k, none⟩ v j (fun e => hn (e ▸ hs))).trans (h.block j hj hn)⟩
end Go.Proofs.YtojbldoekalbnaaGreatDoor
