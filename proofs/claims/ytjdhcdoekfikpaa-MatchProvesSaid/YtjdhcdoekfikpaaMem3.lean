/-
  Words for memory, more still: a new block at an address that is spelled otherwise; no condition but those that each lemma states.
-/
import Derived.Test.YtjdhcdoekfikpaaBase2
namespace Go.Proofs.Ytjdhcdoekfikpaa
open Go.RowKit

theorem below_new (w : World) (o : Obj) : Below w.heap.size w (w.alloc o) := (Below.refl _ _).alloc (Nat.le_refl _) _
theorem below_two (w : World) (o o' : Obj) : Below w.heap.size w ((w.alloc o).alloc o') := (below_new w o).trans ((below_new _ o').mono (by simp))
theorem Sl.newAt (w : World) (cs : Array Value) (e : TypeId) (sz n : Nat) (hn : cs.size = n * sz) {b : Nat} (hb : b = w.heap.size) : Sl (w.alloc (.cells cs e)) sz (some ⟨b, 0, none⟩) n cs.toList := by
  subst hb; exact Sl.new w cs e sz n hn
theorem own_newAt (w : World) (cs : Array Value) (e : TypeId) (sz n base : Nat) (hn : cs.size = n * sz) (hb : base ≤ w.heap.size) (hm : n ≤ maxLen) {b : Nat} (hbb : b = w.heap.size) : (w.alloc (.cells cs e)).ownsRow base e sz (.slice (some ⟨b, 0, none⟩) n n) n cs.toList := by
  subst hbb; exact own_new w cs e sz n base hn hb hm
theorem below_cells {B b : Nat} {w w1 : World} {o : Obj} (h : Below B w w1) (hB : b < B) (hb : w.heap[b]? = some o) : w1.heap[b]? = some o := (h.block b hB).trans hb
theorem cells2 {W : World} {b : Nat} {t : TypeId} {u0 u1 : Value} (h : W.heap[b]? = some (.cells #[u0, u1] t (0, 0))) :
    W.cell? ⟨b, 0, none⟩ = some u0 ∧ W.cell? ⟨b, 1, none⟩ = some u1 ∧ (∀ j, W.frozen? ⟨b, j, none⟩ = false) :=
  ⟨by rw [cell_of_row _ _ 0 _ _ (0, 0) h]; rfl, by rw [cell_of_row _ _ 1 _ _ (0, 0) h]; rfl, fun j => by simp [World.frozen?, h]⟩
theorem cells3 {W : World} {b : Nat} {t : TypeId} {u0 u1 u2 : Value} (h : W.heap[b]? = some (.cells #[u0, u1, u2] t (0, 0))) :
    W.cell? ⟨b, 0, none⟩ = some u0 ∧ W.cell? ⟨b, 1, none⟩ = some u1 ∧ W.cell? ⟨b, 2, none⟩ = some u2 ∧ (∀ j, W.frozen? ⟨b, j, none⟩ = false) :=
  ⟨by rw [cell_of_row _ _ 0 _ _ (0, 0) h]; rfl, by rw [cell_of_row _ _ 1 _ _ (0, 0) h]; rfl, by rw [cell_of_row _ _ 2 _ _ (0, 0) h]; rfl, fun j => by simp [World.frozen?, h]⟩
theorem cells4 {W : World} {b : Nat} {t : TypeId} {u0 u1 u2 u3 : Value} (h : W.heap[b]? = some (.cells #[u0, u1, u2, u3] t (0, 0))) :
    W.cell? ⟨b, 0, none⟩ = some u0 ∧ W.cell? ⟨b, 1, none⟩ = some u1 ∧ W.cell? ⟨b, 2, none⟩ = some u2 ∧ W.cell? ⟨b, 3, none⟩ = some u3 ∧ (∀ j, W.frozen? ⟨b, j, none⟩ = false) :=
  ⟨by rw [cell_of_row _ _ 0 _ _ (0, 0) h]; rfl, by rw [cell_of_row _ _ 1 _ _ (0, 0) h]; rfl, by rw [cell_of_row _ _ 2 _ _ (0, 0) h]; rfl, by rw [cell_of_row _ _ 3 _ _ (0, 0) h]; rfl, fun j => by simp [World.frozen?, h]⟩
theorem int_one (l : List Int) : ∀ u ∈ l.flatMap intE, u.oneCell' = true := by
  intro u hu
  obtain ⟨x, _, hx⟩ := List.mem_flatMap.1 hu
  simp only [intE, List.mem_cons, List.not_mem_nil, or_false] at hx
  rcases hx with rfl
  rfl
end Go.Proofs.Ytjdhcdoekfikpaa
