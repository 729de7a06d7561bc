/-
  The contract of slices.Delete of one int out of a slice of the call's own: the library's own contract at this program; condition: the place is in the slice.
-/
import Derived.Test.YtjdhcdoekfikpaaMAll
import Derived.Shelf.Slices.Delete
namespace Go.Proofs.Ytjdhcdoekfikpaa
open Go.RowKit Go.Shelf Go.Lib Go.Sort

def delRen : Ren := ⟨fun _ => 55, fun k => if k = 0 then 0 else if k = 3 then 3 else if k = 4 then 4 else 26, fun k => k⟩
theorem delLays : Lays2.n23 Try.prog delRen := {
  mixed := by kernel_rfl
  f23 := by kernel_rfl
  t0 := by kernel_rfl
  a0 := fun _ => by kernel_rfl
  z0 := fun _ => by kernel_rfl
  v0 := fun _ => by kernel_rfl
  t3 := by kernel_rfl
  a3 := fun _ => by kernel_rfl
  z3 := fun _ => by kernel_rfl
  v3 := fun _ => by kernel_rfl
  t4 := by kernel_rfl
  a4 := fun _ => by kernel_rfl
  z4 := fun _ => by kernel_rfl
  v4 := fun _ => by kernel_rfl
  t22 := by kernel_rfl
  a22 := fun _ => by kernel_rfl
  z22 := fun _ => by kernel_rfl
  v22 := fun _ => by kernel_rfl
  i3 := by kernel_rfl }
theorem flat_get1 (l : List Int) (j : Nat) : (l.flatMap intE)[j]? = (l[j]?).map (Value.int .i64) := by rw [flat_int, List.getElem?_map]
theorem putRow_own {W : World} {base g n c q : Nat} {l d : List Int} (ho : W.ownsRow base 3 1 (.slice (some ⟨g, 0, none⟩) n c) n (l.flatMap intE)) (hd : d.length = n) {k : Nat} (hk : k ≤ n) :
    (putRow (Value.int .i64) (Sort.ahead W q) g 0 d.toArray).ownsRow base 3 1 (.slice (some ⟨g, 0, none⟩) k c) k ((d.take k).flatMap intE) ∧ W.grownBy (putRow (Value.int .i64) (Sort.ahead W q) g 0 d.toArray) (some g) := by
  rcases ho.2 with ⟨h', _⟩ | ⟨g', cap', cur, h', hb, hg, hnc, hcm, hcs, htake⟩
  · simp at h'
  · simp only [Value.slice.injEq, Option.some.injEq, Addr.mk.injEq, and_true, true_and] at h'
    obtain ⟨rfl, rfl⟩ := h'
    have hH : (putRow (Value.int .i64) (Sort.ahead W q) g 0 d.toArray).heap[g]? = some (.cells (putCells (Value.int .i64) 0 d.toArray cur) 3 (0, 0)) := by
      simp [putRow, mapBlock, Array.getElem?_modify, onCells]
      exact ⟨_, hg, rfl⟩
    refine ⟨⟨by rw [flat_length intE_len, List.length_take, hd]; omega, .inr ⟨g, c, _, rfl, hb, hH, by omega, hcm, by simp [putCells, hcs], ?_⟩⟩, ⟨rfl, rfl, rfl, by simp [putRow, mapBlock, Sort.ahead], fun j _ hj => ?_⟩⟩
    · apply List.ext_getElem?
      intro j
      rw [flat_get1, List.getElem?_take, List.getElem?_take, Nat.mul_one]
      by_cases hj : j < k
      · rw [if_pos hj, if_pos hj]
        have hjc : j < cur.size := by rw [hcs]; omega
        have hjd : j < d.length := by omega
        simp [putCells, hjc, hjd]
      · rw [if_neg hj, if_neg hj]; rfl
    · have hne : g ≠ j := fun e => hj (by rw [e])
      simp [putRow, mapBlock, Array.getElem?_modify, hne, Sort.ahead]
set_option maxHeartbeats 1000000 in
theorem del_any (g n c i base : Nat) (l : List Int) (W : World) (ho : W.ownsRow base 3 1 (.slice (some ⟨g, 0, none⟩) n c) n (l.flatMap intE)) (hn : n = l.length) (hi : i < n) :
    Calls Try.prog 55 #[.slice (some ⟨g, 0, none⟩) n c, .int .i64 (i : Int), .int .i64 ((i : Int) + 1)] W fun e W' => e = .returned (.slice (some ⟨g, 0, none⟩) (n - 1) c) ∧
      W'.ownsRow base 3 1 (.slice (some ⟨g, 0, none⟩) (n - 1) c) (n - 1) ((l.eraseIdx i).flatMap intE) ∧ W.grownBy W' (some g) := by
  subst hn
  obtain ⟨_, _, cur, _, hnc, hcm⟩ := row_heap ho
  have hH : Holds (Value.int .i64) W g 0 l.toArray := fun j hj => by
    have hj' : j < l.length := by simpa using hj
    rw [Nat.zero_add]
    refine ⟨?_, ho.frozenAt j⟩
    rw [ho.cellAt j (by omega), flat_get1, List.getElem?_eq_getElem hj']
    simp [hj']
  have h := Any.slices_Delete_int delLays g 0 c i (i + 1) l W hH hnc (by unfold maxLen at hcm; omega) (by omega) (by omega)
  refine h.mono ?_
  rintro e W' ⟨rfl, q, rfl⟩
  have hd : (l.take i ++ l.drop (i + 1) ++ List.replicate (i + 1 - i) 0).length = l.length := by simp; omega
  obtain ⟨h1, h2⟩ := putRow_own (q := q) ho hd (k := l.length - 1) (by omega)
  refine ⟨by rw [show i + 1 - i = 1 by omega], ?_, h2⟩
  have e1 : (l.take i ++ l.drop (i + 1) ++ List.replicate (i + 1 - i) 0).take (l.length - 1) = l.eraseIdx i := by
    rw [List.take_append_of_le_length (by simp; omega), List.take_of_length_le (by simp; omega), List.eraseIdx_eq_take_drop_succ]
  rw [e1] at h1
  exact h1
theorem del_any' (g n c i base : Nat) (l : List Int) (W : World) (ho : W.ownsRow base 3 1 (.slice (some ⟨g, 0, none⟩) (n + 1) c) (n + 1) (l.flatMap intE)) (hn : n + 1 = l.length) (hi : i < n + 1) :
    Calls Try.prog 55 #[.slice (some ⟨g, 0, none⟩) (n + 1) c, .int .i64 (i : Int), .int .i64 ((i : Int) + 1)] W fun e W' => e = .returned (.slice (some ⟨g, 0, none⟩) n c) ∧
      W'.ownsRow base 3 1 (.slice (some ⟨g, 0, none⟩) n c) n ((l.eraseIdx i).flatMap intE) ∧ W.grownBy W' (some g) := del_any g (n + 1) c i base l W ho hn hi
end Go.Proofs.Ytjdhcdoekfikpaa
