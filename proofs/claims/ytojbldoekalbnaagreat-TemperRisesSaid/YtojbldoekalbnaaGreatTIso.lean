/-
  Contract of slices.Sort at a row of ints of one's own; no condition but the row.
-/
import Derived.Test.YtojbldoekalbnaaGreatTLays
namespace Go.Proofs.YtojbldoekalbnaaGreat
open Go.RowKit Go.Shelf Go.Lib Go.Sort
theorem flat_get1 (l : List Int) (j : Nat) : (l.flatMap intE)[j]? = (l[j]?).map (Value.int .i64) := by rw [flat_int, List.getElem?_map]
theorem row_heap {W : World} {B g c sz m : Nat} {e : TypeId} {xs : List Value} (h : W.ownsRow B e sz (.slice (some ⟨g, 0, none⟩) m c) m xs) : B ≤ g ∧ g < W.heap.size ∧ ∃ cur, W.heap[g]? = some (.cells cur e (0, 0)) ∧ m ≤ c ∧ c ≤ maxLen := by
  rcases h.2 with ⟨h', _⟩ | ⟨g', c', cur, h', hb, hg, hn, hc, _⟩
  · simp at h'
  · simp only [Value.slice.injEq, Option.some.injEq, Addr.mk.injEq, and_true, true_and] at h'
    obtain ⟨rfl, rfl⟩ := h'
    exact ⟨hb, (Array.getElem?_eq_some_iff.1 hg).1, cur, hg, hn, hc⟩
theorem putRow_own {W : World} {base g n c q : Nat} {l d : List Int} (os : Array Obj) (ho : W.ownsRow base 3 1 (.slice (some ⟨g, 0, none⟩) n c) n (l.flatMap intE)) (hd : d.length = n) :
    (grow (putRow (Value.int .i64) (Sort.ahead W q) g 0 d.toArray) os).ownsRow base 3 1 (.slice (some ⟨g, 0, none⟩) n c) n (d.flatMap intE) ∧ Kx (fun j => j = g) W (grow (putRow (Value.int .i64) (Sort.ahead W q) g 0 d.toArray) os) := by
  rcases ho.2 with ⟨h', _⟩ | ⟨g', cap', cur, h', hb, hg, hnc, hcm, hcs, htake⟩
  · simp at h'
  · simp only [Value.slice.injEq, Option.some.injEq, Addr.mk.injEq, and_true, true_and] at h'
    obtain ⟨rfl, rfl⟩ := h'
    have hgl := (Array.getElem?_eq_some_iff.1 hg).1
    have hsz : (putRow (Value.int .i64) (Sort.ahead W q) g 0 d.toArray).heap.size = W.heap.size := by simp [putRow, mapBlock, Sort.ahead]
    have hold : ∀ j, j < W.heap.size → (grow (putRow (Value.int .i64) (Sort.ahead W q) g 0 d.toArray) os).heap[j]? = (putRow (Value.int .i64) (Sort.ahead W q) g 0 d.toArray).heap[j]? := fun j hj => by
      simp only [grow]
      rw [Array.getElem?_append_left (by rw [hsz]; exact hj)]
    have hH : (putRow (Value.int .i64) (Sort.ahead W q) g 0 d.toArray).heap[g]? = some (.cells (putCells (Value.int .i64) 0 d.toArray cur) 3 (0, 0)) := by
      simp [putRow, mapBlock, Array.getElem?_modify, onCells]
      exact ⟨_, hg, rfl⟩
    refine ⟨⟨by rw [flat_length intE_len, hd], .inr ⟨g, c, _, rfl, hb, (hold g hgl).trans hH, hnc, hcm, by simp [putCells, hcs], ?_⟩⟩, ⟨rfl, rfl, rfl, by simp only [grow, Array.size_append, hsz]; omega, fun j hj hn => ?_⟩⟩
    · apply List.ext_getElem?
      intro j
      rw [flat_get1, List.getElem?_take, Nat.mul_one]
      by_cases hj : j < n
      · rw [if_pos hj]
        have hjc : j < cur.size := by rw [hcs]; omega
        have hjd : j < d.length := by omega
        simp [putCells, hjc, hjd]
      · rw [if_neg hj, List.getElem?_eq_none (by omega)]; rfl
    · rw [hold j hj]
      have hne : g ≠ j := fun e => hn e.symm
      simp [putRow, mapBlock, Array.getElem?_modify, hne, Sort.ahead]
/-- In rising order. -/
def isrt (l : List Int) : List Int := l.mergeSort fun x y => decide (x ≤ y)
theorem isrt_len (l : List Int) : (isrt l).length = l.length := List.length_mergeSort _
set_option maxHeartbeats 1000000 in
theorem isort_any (A : Option Addr) (n c base : Nat) (l : List Int) (W : World) (ho : W.ownsRow base 3 1 (.slice A n c) n (l.flatMap intE)) (hn : n = l.length) (hs : n ≤ 1000000) :
    Calls Tryz.prog 54 #[.slice A n c] W fun e W' => e = .returned (.tuple #[]) ∧ W'.ownsRow base 3 1 (.slice A n c) n ((isrt l).flatMap intE) ∧ Kx (fun j => base ≤ j) W W' := by
  subst hn
  rcases A with _ | ⟨g, o, sub⟩
  · have h0 : l = [] := by
      rcases ho.2 with ⟨h', h2⟩ | ⟨g', c', cur, h', _⟩
      · simp only [Value.slice.injEq, true_and] at h'
        exact List.length_eq_zero_iff.1 h'.1
      · simp at h'
    subst h0
    refine (Any.slices_Sort_int_none sortLays none c W).mono ?_
    rintro e W' ⟨rfl, rfl⟩
    exact ⟨rfl, by simpa [isrt] using ho, Kx.refl _ _⟩
  · have hg : o = 0 ∧ sub = none := by
      rcases ho.2 with ⟨h', h2⟩ | ⟨g', c', cur, h', _⟩
      · simp at h'
      · simp only [Value.slice.injEq, Option.some.injEq, Addr.mk.injEq] at h'
        exact ⟨h'.1.2.1, h'.1.2.2⟩
    obtain ⟨rfl, rfl⟩ := hg
    obtain ⟨hb, hgl, cur, _, hnc, hcm⟩ := row_heap ho
    have hH : Holds (Value.int .i64) W g 0 l.toArray := fun j hj => by
      have hj' : j < l.length := by simpa using hj
      rw [Nat.zero_add]
      refine ⟨?_, ho.frozenAt j⟩
      rw [ho.cellAt j (by omega), flat_get1, List.getElem?_eq_getElem hj']
      simp [hj']
    refine (Any.slices_Sort_int sortLays g 0 c l W hH hgl (by omega)).mono ?_
    rintro e W' ⟨rfl, q, os, rfl⟩
    obtain ⟨h1, h2⟩ := putRow_own (q := q) os ho (isrt_len l)
    exact ⟨rfl, h1, h2.mono (fun j hj => by omega)⟩
end Go.Proofs.YtojbldoekalbnaaGreat
