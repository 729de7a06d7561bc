/-
  The contracts of match.numbers and of allowed: the numbers below a limit; the graph of a table; conditions as stated.
-/
import Derived.Test.YtjdhcdoekfikpaaMRep
namespace Go.Proofs.Ytjdhcdoekfikpaa
open Go.RowKit

/-- n numbers, the first k of them 0, 1, .., the others 0. -/
def num1 (n k : Nat) : List Int := (List.range n).map fun i => if i < k then (i : Int) else 0
theorem num1_len (n k : Nat) : (num1 n k).length = n := by simp [num1]
theorem num1_zero (n : Nat) : num1 n 0 = List.replicate n 0 := by
  unfold num1
  simp only [Nat.not_lt_zero, if_false]
  rw [List.map_const']
  simp
theorem num1_full (n : Nat) : num1 n n = (List.range n).map fun (i : Nat) => (i : Int) := by
  unfold num1
  exact List.map_congr_left fun i hi => if_pos (List.mem_range.1 hi)
theorem num1_set {n k : Nat} : (num1 n k).set k (k : Int) = num1 n (k + 1) := by
  apply List.ext_getElem?
  intro a
  rw [List.getElem?_set, num1_len]
  by_cases ha : a < n
  · simp only [num1, List.getElem?_map, List.getElem?_range ha, Option.map_some]
    by_cases hka : k = a
    · subst hka; simp [ha]
    · rw [if_neg hka]
      by_cases h1 : a < k
      · rw [if_pos h1, if_pos (by omega)]
      · rw [if_neg h1, if_neg (by omega)]
  · by_cases hka : k = a
    · subst hka; simp [num1, ha]
    · simp [num1, ha, hka]
set_option maxHeartbeats 1000000 in
theorem numbers_any (n : Nat) (hn : n ≤ 1000) (w : World) : Calls Try.prog 52 #[.int .i64 (n : Int)] w fun e w' => ∃ g, e = .returned (.slice (some ⟨g, 0, none⟩) n n) ∧ w.heap.size ≤ g ∧ w'.heap[g]? = some (.cells (((List.range n).map fun (i : Nat) => (i : Int)).map (Value.int .i64)).toArray 3 (0, 0)) ∧ Below w.heap.size w w' := by
  refine calls_cps ?_
  intro R hR
  go_enter Try.func52, Try.ntmps52
  go_wp2_with (at_make; refine wpList_mkInt rfl (.tmp 5) (.tmp 5) _ rfl 3 Try.underlying26 infoInt8 n n rfl rfl rfl (by omega) ?_; intro w2 hw2 hg2; have hb2 : Below w.heap.size w w2 := (Below.refl _ _).grown hg2 (Nat.le_refl _) (fun k hk => by cases hk); have hc0 : w2.heap[w.heap.size]? = some (.cells ((num1 n 0).map (Value.int .i64)).toArray 3 (0, 0)) := hw2.trans (by rw [num1_zero]; simp); clear hw2 hg2)
  go_loopg [4, 9] n (fun gk s4 s9 wr => ∃ k : Nat, k + gk = n ∧ s9 = .int .i64 ((k : Nat) : Int) ∧ wr.heap[w.heap.size]? = some (.cells ((num1 n k).map (Value.int .i64)).toArray 3 (0, 0)) ∧ Below w.heap.size w wr)
  case atStart => exact ⟨0, by omega, rfl, hc0, hb2⟩
  case round =>
    clear hc0 hb2
    obtain ⟨k, hgk, rfl, hc, hb⟩ := hrel
    obtain ⟨wi, rfl⟩ : ∃ wi : World, wi = wr := ⟨_, rfl⟩
    by_cases hlt : k < n
    · have y0 : wi.cell? ⟨w.heap.size, k, none⟩ = some (.int .i64 ((num1 n k).getD k 0)) := by
        rw [cell_of_row _ _ _ _ _ (0, 0) hc, getD_get _ _ _ (by rw [num1_len]; exact hlt)]
        simp [num1_len, hlt]
      have y1 : wi.frozen? ⟨w.heap.size, k, none⟩ = false := by simp [World.frozen?, hc]
      have hN : (wi.setCell ⟨w.heap.size, k, none⟩ (.int .i64 (k : Int))).heap[w.heap.size]? = some (.cells ((num1 n (k + 1)).map (Value.int .i64)).toArray 3 (0, 0)) := by
        rw [← num1_set]
        simp [World.setCell, Array.getElem?_modify, hc, List.map_set]
      have HN := Lib.hid hN
      have HB := Lib.hid (hb.setCell (p := ⟨w.heap.size, k, none⟩) (Nat.le_refl _) (.int .i64 (k : Int)))
      have i1 : (k : Int) < (n : Int) := by omega
      clear hN hc hb
      go_wp2_with fail
      go_roundg (gk - 1)
      case measure => omega
      case rel => exact ⟨k + 1, by omega, by go_num, HN.out, HB.out⟩
    · obtain rfl : n = k := by omega
      rw [num1_full] at hc
      have Hfin := Lib.hid (hR.out (.returned (.slice (some ⟨w.heap.size, 0, none⟩) n n)) wi ⟨_, rfl, Nat.le_refl _, hc, hb⟩)
      clear hc hb
      go_wp2
      exact Hfin.out
end Go.Proofs.Ytjdhcdoekfikpaa
