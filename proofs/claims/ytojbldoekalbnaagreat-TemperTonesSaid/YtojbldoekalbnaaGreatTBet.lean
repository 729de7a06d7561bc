/-
  Contracts of slices.Clone at int, of temper's Better, and of the document's Moved and Better; each states its condition.
-/
import Derived.Test.YtojbldoekalbnaaGreatTRef
namespace Go.Proofs.YtojbldoekalbnaaGreat
open Go.RowKit
set_option maxHeartbeats 1000000 in
set_option maxRecDepth 100000 in
theorem clone_any (a : Addr) (n c : Nat) (l : List Int) (w : World) (hA : SlE intE 1 w (some a) n l) (hn : n ≤ 2000) :
    Calls Tryz.prog 80 #[.slice (some a) n c] w fun e w' => ∃ A' c', e = .returned (.slice A' n c') ∧ w'.ownsRow w.heap.size 3 1 (.slice A' n c') n (l.flatMap intE) ∧ Below w.heap.size w w' := by
  refine calls_cps ?_
  intro R hR
  have hnil := fun (W : World) => Lib.run_eql_slice_nil (P := Tryz.prog) W 22 3 (some a) n c 0 0 Tryz.underlying22
  go_enter Tryz.func80, Tryz.ntmps80
  go_wp2_with (at_builtin; refine wpList_app rfl (.tmp 5) (.tmp 6) _ rfl elemInt w.heap.size _ _ _ rfl (own_new _ _ _ 1 0 _ (by simp) (Nat.le_refl _) (by unfold maxLen; omega)) _ _ _ _ rfl (hA.2.alloc _) (int_one _) (by unfold maxLen; omega) (by omega) (by simp) ?_; intro A3 c3 w3 ho3 hg3 _; rw [Nat.zero_add, List.nil_append] at ho3; have hb3 := app_below1 rfl hg3; clear hg3)
  exact hR.out _ _ ⟨_, _, rfl, ho3, hb3⟩
/-- Steps with one unit moved. -/
def mvd (st : List Int) (i j : Nat) : List Int := (st.set i (st.getD i 0 - 1)).set j ((st.set i (st.getD i 0 - 1)).getD j 0 + 1)
theorem mvd_len (st : List Int) (i j : Nat) : (mvd st i j).length = st.length := by simp [mvd]
def Rg.btr (r : Rg) (st : List Int) (i j : Nat) : Bool := decide (i ≠ j) && r.fitsB (mvd st i j) && r.allowB (mvd st i j) && decide (r.cost (mvd st i j) < r.cost st)
/-- No pair ahead of (i, j) is better. -/
def Rg.noBtr (r : Rg) (st : List Int) (i j : Nat) : Prop := ∀ a b, a < r.N → b < r.N → (a < i ∨ (a = i ∧ b < j)) → r.btr st a b = false
/-- What Better finds. -/
def Rg.Btr (r : Rg) (st : List Int) (x y : Int) : Prop := (x = -1 ∧ y = -1 ∧ r.noBtr st r.N 0) ∨ ∃ i j : Nat, i < r.N ∧ j < r.N ∧ x = i ∧ y = j ∧ r.btr st i j = true ∧ r.noBtr st i j
theorem Rg.noBtr.step {r : Rg} {st : List Int} {i j : Nat} (h : r.noBtr st i j) (hb : r.btr st i j = false) : r.noBtr st i (j + 1) := fun a b ha hb' hab => by
  by_cases e : a = i ∧ b = j
  · rw [e.1, e.2]; exact hb
  · exact h a b ha hb' (by omega)
theorem Rg.noBtr.row {r : Rg} {st : List Int} {i : Nat} (h : r.noBtr st i r.N) : r.noBtr st (i + 1) 0 := fun a b ha hb' hab => h a b ha hb' (by omega)
theorem Rg.Btr.uniq {r : Rg} {st : List Int} {x y x' y' : Int} (h : r.Btr st x y) (k : r.Btr st x' y') : x = x' ∧ y = y' := by
  rcases h with ⟨h1, h2, h3⟩ | ⟨i, j, h1, h2, h3, h4, h5, h6⟩
  · rcases k with ⟨k1, k2, k3⟩ | ⟨i, j, k1, k2, k3, k4, k5, k6⟩
    · omega
    · rw [h3 i j k1 k2 (.inl k1)] at k5; cases k5
  · rcases k with ⟨k1, k2, k3⟩ | ⟨a, b, k1, k2, k3, k4, k5, k6⟩
    · rw [k3 i j h1 h2 (.inl h1)] at h5; cases h5
    · have e : i = a ∧ j = b := by
        by_cases l : i < a ∨ (i = a ∧ j < b)
        · rw [k6 i j h1 h2 l] at h5; cases h5
        · by_cases l' : a < i ∨ (a = i ∧ b < j)
          · rw [h6 a b k1 k2 l'] at k5; cases k5
          · omega
      omega
theorem costR_ok {r : Rg} {st : List Int} (h : r.Good st) : r.costR st = (r.cost st, 0) := by
  obtain ⟨a, b⟩ := good_iff.1 h
  unfold Rg.costR
  rw [a, b]; rfl
theorem set_flat (l : List Int) (i : Nat) (v : Int) : (l.flatMap intE).set i (.int .i64 v) = (l.set i v).flatMap intE := by
  rw [flat_int, flat_int, List.map_set]
/-- An owned row of ints whose cells are known: one cell more is stored. -/
theorem own_store {W : World} {base g c n : Nat} {l : List Int} (h : W.ownsRow base 3 1 (.slice (some ⟨g, 0, none⟩) n c) n (l.flatMap intE)) (i : Nat) (v : Int) :
    (W.setCell ⟨g, i, none⟩ (.int .i64 v)).ownsRow base 3 1 (.slice (some ⟨g, 0, none⟩) n c) n ((l.set i v).flatMap intE) ∧ W.grownBy (W.setCell ⟨g, i, none⟩ (.int .i64 v)) (some g) := by
  obtain ⟨s1, s2⟩ := h.stored i (.int .i64 v)
  rw [set_flat] at s1
  exact ⟨s1, s2⟩
theorem own_cell {W : World} {base g c n : Nat} {l : List Int} (h : W.ownsRow base 3 1 (.slice (some ⟨g, 0, none⟩) n c) n (l.flatMap intE)) {i : Nat} (hi : i < l.length) :
    W.cell? ⟨g, i, none⟩ = some (.int .i64 (l.getD i 0)) ∧ W.frozen? ⟨g, i, none⟩ = false := by
  refine ⟨?_, h.frozenAt i⟩
  rw [h.cellAt i (by have := h.1; rw [flat_int] at this; simp at this; omega), flat_int, List.getElem?_map, List.getD_eq_getElem?_getD, List.getElem?_eq_getElem hi]
  rfl
theorem mvd_bd {st : List Int} (h : ∀ x ∈ st, -15 ≤ x ∧ x ≤ 15) (i j : Nat) : (-15 ≤ st.getD i 0 ∧ st.getD i 0 ≤ 15) ∧ -17 ≤ (st.set i (st.getD i 0 - 1)).getD j 0 ∧ (st.set i (st.getD i 0 - 1)).getD j 0 ≤ 17 := by
  have h1 := getD_bd h (by omega) i
  refine ⟨h1, ?_⟩
  by_cases e : i = j
  · subst e
    rw [List.getD_eq_getElem?_getD, List.getElem?_set_self']
    cases he : st[i]? with
    | none => simp
    | some y =>
      rw [List.getD_eq_getElem?_getD, he] at h1
      simp [he] at h1 ⊢
      omega
  · rw [List.getD_eq_getElem?_getD, List.getElem?_set_ne e, ← List.getD_eq_getElem?_getD]
    have := getD_bd h (by omega) j
    omega
end Go.Proofs.YtojbldoekalbnaaGreat
