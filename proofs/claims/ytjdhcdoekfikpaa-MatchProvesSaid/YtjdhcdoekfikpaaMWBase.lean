/-
  What the walks of match share: a frame that names what may have turned; the search's state in memory; no condition but those that each lemma states.
-/
import Derived.Test.YtjdhcdoekfikpaaSame
import Derived.Test.YtjdhcdoekfikpaaTblR
import Derived.Test.YtjdhcdoekfikpaaMLaws
import Derived.Laws.OwnMore
namespace Go.Proofs.Ytjdhcdoekfikpaa
open Go.RowKit

/-- All but the blocks S, and what is new, is as it was. -/
structure Kx (S : Nat → Prop) (W W' : World) : Prop where
  os : W'.os = W.os
  tape : W'.tape = W.tape
  output : W'.output = W.output
  size : W.heap.size ≤ W'.heap.size
  block : ∀ j, j < W.heap.size → ¬ S j → W'.heap[j]? = W.heap[j]?
section
variable {S T : Nat → Prop} {A B C : World}
theorem Kx.refl (S : Nat → Prop) (W : World) : Kx S W W := ⟨rfl, rfl, rfl, Nat.le_refl _, fun _ _ _ => rfl⟩
theorem Kx.trans (h : Kx S A B) (k : Kx T B C) (hs : ∀ j, j < A.heap.size → T j → S j) : Kx S A C :=
  ⟨k.os.trans h.os, k.tape.trans h.tape, k.output.trans h.output, Nat.le_trans h.size k.size, fun j hj hn => (k.block j (Nat.lt_of_lt_of_le hj h.size) (fun ht => hn (hs j hj ht))).trans (h.block j hj hn)⟩
theorem Kx.mono (h : Kx S A B) (hs : ∀ j, S j → T j) : Kx T A B := ⟨h.os, h.tape, h.output, h.size, fun j hj hn => h.block j hj (fun ht => hn (hs j ht))⟩
theorem Kx.drewN (h : Kx S A B) (q : Nat) : Kx S A (B.drewN q) := ⟨h.os, h.tape, h.output, h.size, h.block⟩
theorem Kx.grown {row : Option Nat} (h : Kx S A B) (hg : B.grownBy C row) (hs : ∀ j, row = some j → S j ∨ A.heap.size ≤ j) : Kx S A C :=
  ⟨hg.os.trans h.os, hg.tape.trans h.tape, hg.output.trans h.output, Nat.le_trans h.size hg.size, fun j hj hn => (hg.block j (Nat.lt_of_lt_of_le hj h.size) (fun e => by
    rcases hs j e.symm with h' | h'
    · exact hn h'
    · omega)).trans (h.block j hj hn)⟩
theorem Kx.below (h : Kx S A B) (hb : Below B.heap.size B C) : Kx S A C :=
  ⟨hb.os.trans h.os, hb.tape.trans h.tape, hb.output.trans h.output, Nat.le_trans h.size hb.size, fun j hj hn => (hb.block j (Nat.lt_of_lt_of_le hj h.size)).trans (h.block j hj hn)⟩
/-- Where nothing below b may turn. -/
theorem Kx.low {w : World} {b : Nat} (hb : Below b w A) (h : Kx S A B) (hs : ∀ j, S j → b ≤ j) (hba : b ≤ A.heap.size) : Below b w B :=
  ⟨h.os.trans hb.os, h.tape.trans hb.tape, h.output.trans hb.output, Nat.le_trans hb.size h.size, fun j hj => (h.block j (by omega) (fun ht => by have := hs j ht; omega)).trans (hb.block j hj)⟩
end
theorem flat_bool (l : List Bool) : l.flatMap (fun b => [Value.bool b]) = l.map Value.bool := by
  induction l with
  | nil => rfl
  | cons a r ih => simp [ih]
/-- The search's state: the block of pairs, the row of each column, which columns were seen. -/
structure Fs (W : World) (B bp n m : Nat) (mayV : Value) (br cr bs cs : Nat) (of : List Int) (seen : List Bool) : Prop where
  box : W.heap[bp]? = some (.cells #[.int .i64 (n : Int), .int .i64 (m : Int), mayV, .slice (some ⟨br, 0, none⟩) m cr, .slice (some ⟨bs, 0, none⟩) m cs] 101 (0, 0))
  row : W.ownsRow B 3 1 (.slice (some ⟨br, 0, none⟩) m cr) m (of.map (Value.int .i64))
  sn : W.ownsRow B 4 1 (.slice (some ⟨bs, 0, none⟩) m cs) m (seen.map Value.bool)
  bpB : B ≤ bp
section
variable {W W' : World} {B bp n m : Nat} {mayV : Value} {br cr bs cs : Nat} {of : List Int} {seen : List Bool}
theorem row_heap {W : World} {B g c sz m : Nat} {e : TypeId} {xs : List Value} (h : W.ownsRow B e sz (.slice (some ⟨g, 0, none⟩) m c) m xs) : B ≤ g ∧ g < W.heap.size ∧ ∃ cur, W.heap[g]? = some (.cells cur e (0, 0)) ∧ m ≤ c ∧ c ≤ maxLen := by
  rcases h.2 with ⟨h', _⟩ | ⟨g', c', cur, h', hb, hg, hn, hc, _⟩
  · simp at h'
  · simp only [Value.slice.injEq, Option.some.injEq, Addr.mk.injEq, and_true, true_and] at h'
    obtain ⟨rfl, rfl⟩ := h'
    exact ⟨hb, (Array.getElem?_eq_some_iff.1 hg).1, cur, hg, hn, hc⟩
theorem Fs.ne (h : Fs W B bp n m mayV br cr bs cs of seen) : bp ≠ br ∧ bp ≠ bs ∧ br ≠ bs := by
  obtain ⟨_, _, c1, h1, _⟩ := row_heap h.row
  obtain ⟨_, _, c2, h2, _⟩ := row_heap h.sn
  refine ⟨fun e => ?_, fun e => ?_, fun e => ?_⟩
  · have := h.box; rw [e, h1] at this; simp at this
  · have := h.box; rw [e, h2] at this; simp at this
  · rw [e, h2] at h1; simp at h1
theorem Fs.len (h : Fs W B bp n m mayV br cr bs cs of seen) : of.length = m ∧ seen.length = m := ⟨by have := h.row.1; simpa using this, by have := h.sn.1; simpa using this⟩
theorem Fs.drewN (h : Fs W B bp n m mayV br cr bs cs of seen) (q : Nat) : Fs (W.drewN q) B bp n m mayV br cr bs cs of seen := ⟨h.box, h.row, h.sn, h.bpB⟩
theorem Fs.kx (h : Fs W B bp n m mayV br cr bs cs of seen) {S : Nat → Prop} (k : Kx S W W') (h1 : ¬ S bp) (h2 : ¬ S br) (h3 : ¬ S bs) : Fs W' B bp n m mayV br cr bs cs of seen := by
  obtain ⟨_, l1, c1, g1, _⟩ := row_heap h.row
  obtain ⟨_, l2, c2, g2, _⟩ := row_heap h.sn
  have keep : ∀ (g c : Nat) (e : TypeId) (xs : List Value), g < W.heap.size → ¬ S g → W.ownsRow B e 1 (.slice (some ⟨g, 0, none⟩) m c) m xs → W'.ownsRow B e 1 (.slice (some ⟨g, 0, none⟩) m c) m xs := fun g c e xs hg hn ho => by
    refine ⟨ho.1, ?_⟩
    rcases ho.2 with h' | ⟨g', c', cur, h', hb, hg', hr⟩
    · exact .inl h'
    · simp only [Value.slice.injEq, Option.some.injEq, Addr.mk.injEq, and_true, true_and] at h'
      obtain ⟨rfl, rfl⟩ := h'
      exact .inr ⟨g, c, cur, rfl, hb, (k.block g hg hn).trans hg', hr⟩
  exact ⟨(k.block bp (Array.getElem?_eq_some_iff.1 h.box).1 h1).trans h.box, keep _ _ _ _ l1 h2 h.row, keep _ _ _ _ l2 h3 h.sn, h.bpB⟩
theorem map_set' {α : Type} (f : α → Value) (l : List α) (k : Nat) (x : α) : (l.set k x).map f = (l.map f).set k (f x) := by simp [List.map_set]
/-- A column is marked as seen. -/
theorem Fs.see (h : Fs W B bp n m mayV br cr bs cs of seen) (k : Nat) : Fs (W.setCell ⟨bs, k, none⟩ (.bool true)) B bp n m mayV br cr bs cs of (seen.set k true) ∧ Kx (fun j => j = br ∨ j = bs) W (W.setCell ⟨bs, k, none⟩ (.bool true)) := by
  obtain ⟨n1, n2, n3⟩ := h.ne
  obtain ⟨s1, s2⟩ := h.sn.stored k (.bool true)
  refine ⟨⟨?_, h.row.kept s2 (.inr (by simp [Value.ownBlock]; exact n3)), by rw [map_set']; exact s1, h.bpB⟩, (Kx.refl _ _).grown s2 (fun j hj => .inl (.inr (by injection hj with hj; exact hj.symm)))⟩
  exact (s2.block bp (Array.getElem?_eq_some_iff.1 h.box).1 (by simp; exact n2)).trans h.box
/-- A column gets a row. -/
theorem Fs.put (h : Fs W B bp n m mayV br cr bs cs of seen) (k : Nat) (r : Int) : Fs (W.setCell ⟨br, k, none⟩ (.int .i64 r)) B bp n m mayV br cr bs cs (of.set k r) seen ∧ Kx (fun j => j = br ∨ j = bs) W (W.setCell ⟨br, k, none⟩ (.int .i64 r)) := by
  obtain ⟨n1, n2, n3⟩ := h.ne
  obtain ⟨s1, s2⟩ := h.row.stored k (.int .i64 r)
  refine ⟨⟨?_, by rw [map_set']; exact s1, h.sn.kept s2 (.inr (by simp [Value.ownBlock]; exact fun e => n3 e.symm)), h.bpB⟩, (Kx.refl _ _).grown s2 (fun j hj => .inl (.inl (by injection hj with hj; exact hj.symm)))⟩
  exact (s2.block bp (Array.getElem?_eq_some_iff.1 h.box).1 (by simp; exact n1)).trans h.box
theorem Fs.cells (h : Fs W B bp n m mayV br cr bs cs of seen) : W.cell? ⟨bp, 0, none⟩ = some (.int .i64 (n : Int)) ∧ W.cell? ⟨bp, 1, none⟩ = some (.int .i64 (m : Int)) ∧ W.cell? ⟨bp, 2, none⟩ = some mayV ∧
    W.cell? ⟨bp, 3, none⟩ = some (.slice (some ⟨br, 0, none⟩) m cr) ∧ W.cell? ⟨bp, 4, none⟩ = some (.slice (some ⟨bs, 0, none⟩) m cs) ∧ ∀ j, W.frozen? ⟨bp, j, none⟩ = false :=
  ⟨by rw [cell_of_row _ _ 0 _ _ (0, 0) h.box]; rfl, by rw [cell_of_row _ _ 1 _ _ (0, 0) h.box]; rfl, by rw [cell_of_row _ _ 2 _ _ (0, 0) h.box]; rfl, by rw [cell_of_row _ _ 3 _ _ (0, 0) h.box]; rfl, by rw [cell_of_row _ _ 4 _ _ (0, 0) h.box]; rfl, fun j => by simp [World.frozen?, h.box]⟩
theorem Fs.at_ (h : Fs W B bp n m mayV br cr bs cs of seen) {k : Nat} (hk : k < m) : W.cell? ⟨br, k, none⟩ = some (.int .i64 (of.getD k (-1))) ∧ W.cell? ⟨bs, k, none⟩ = some (.bool (seen.getD k false)) ∧ W.frozen? ⟨br, k, none⟩ = false ∧ W.frozen? ⟨bs, k, none⟩ = false := by
  obtain ⟨l1, l2⟩ := h.len
  refine ⟨?_, ?_, h.row.frozenAt k, h.sn.frozenAt k⟩
  · rw [h.row.cellAt k (by omega), getD_get _ _ _ (by omega)]; simp [show k < of.length by omega]
  · rw [h.sn.cellAt k (by omega), getD_get _ _ _ (by omega)]; simp [show k < seen.length by omega]
end
end Go.Proofs.Ytjdhcdoekfikpaa
