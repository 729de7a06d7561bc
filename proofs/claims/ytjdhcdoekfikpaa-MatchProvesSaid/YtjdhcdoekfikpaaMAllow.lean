/-
  The contracts of match.allowed and of the function that it makes: the graph of a table; condition: the table is valid.
-/
import Derived.Test.YtjdhcdoekfikpaaMRChk
import Derived.Laws.EntriesVeiled
namespace Go.Proofs.Ytjdhcdoekfikpaa
open Go.RowKit

theorem Enters65 : Enters Try.prog 65 := enters_of Try.func65 (by kernel_rfl) rfl
set_option maxHeartbeats 1000000 in
/-- What tells which costs are allowed only reads. -/
theorem allowed_may (W : World) (g n c m : Nat) (A : Option Addr) (T : List (List Int)) (hT : SlR W A n T) (hok : TOk T m) (hg : W.heap[g]? = some (.cells #[.slice A n c] 22 (0, 0))) :
    MayOk W W.heap.size 65 #[.pointer (some ⟨g, 0, none⟩)] n m (gT T) := by
  intro W1 r k hb hr hk
  refine calls_cps ?_
  intro R hR
  have hg1 := (hb.block g (Array.getElem?_eq_some_iff.1 hg).1).trans hg
  have q0 : W1.cell? ⟨g, 0, none⟩ = some (.slice A n c) := by rw [cell_of_row _ _ 0 _ _ (0, 0) hg1]; rfl
  obtain ⟨b, o, Ai, ci, bi, oi, rfl, _, _, q1, rfl, q2⟩ := table_at hT hok.rect hb hr hk
  have hc := hok.costOk r k (by rw [← hT.1]; exact hr) hk
  have i1 : (r : Int) < (n : Int) := by omega
  have i2 : (k : Int) < (m : Int) := by omega
  obtain ⟨y, hy⟩ : ∃ y, ct T r k = y := ⟨_, rfl⟩
  rw [hy] at q2 hc
  have Hf := Lib.hid (hR.out (.returned (.bool (y != -1))) W1 ⟨ret_bool (by rw [show gT T r k = decide (0 ≤ y) by unfold gT; rw [hy], Bool.eq_iff_iff]; simp; omega), Qt.refl _⟩)
  clear hR hy hg hg1 hT hok hb
  show Calls Try.prog 65 #[.int .i64 (r : Int), .int .i64 (k : Int), .pointer (some ⟨g, 0, none⟩)] W1 R
  go_enter Try.func65, Try.ntmps65
  go_wp2
  exact Hf.out
set_option maxRecDepth 100000 in
set_option maxHeartbeats 2000000 in
theorem allowed_any (A : Option Addr) (n c m : Nat) (T : List (List Int)) (w : World) (hT : SlR w A n T) (hok : TOk T m) :
    Calls Try.prog 51 #[.slice A n c] w fun e w' => ∃ g, e = .returned (.agg #[.int .i64 (n : Int), .int .i64 (m : Int), .func (.func 65) #[] #[.pointer (some ⟨g, 0, none⟩)]]) ∧
      w'.heap[g]? = some (.cells #[.slice A n c] 22 (0, 0)) ∧ w.heap.size ≤ g ∧ Below w.heap.size w w' := by
  refine calls_cps ?_
  intro R hR
  have hn1 : 1 ≤ n := by rw [hT.1]; exact hok.n1
  obtain ⟨b, o, A0, c0, rfl, hh⟩ := hT.head (by omega)
  rw [hok.wid] at hh
  have hbl : b < w.heap.size := by
    obtain ⟨b', o', hA, hlt, _⟩ := hT.2 (by omega)
    injection hA with hA
    injection hA with hA
    subst hA
    exact hlt
  have hn := hT.1
  have h64 := hok.m64
  have hnm : n ≤ m := by rw [hT.1]; exact hok.nm
  clear hT hok hn
  have n1 : b ≠ w.heap.size := by omega
  have n2 : b ≠ w.heap.size + 1 := by omega
  have i5 : (n : Int) ≤ 64 := by omega
  have i6 : (1 : Int) ≤ (n : Int) := by omega
  have i7 : 0 < n := by omega
  go_enter Try.func51, Try.ntmps51
  go_wp2_with fail
  have hb1 : Below w.heap.size w (w.alloc (.cells #[.slice (some ⟨b, o, none⟩) n c] 22)) := below_new w _
  go_region_held3 (fun w' => w'.cell? ⟨w.heap.size, 0, none⟩ = some (.slice (some ⟨b, o, none⟩) n c) ∧ w'.cell? ⟨b, o, none⟩ = some (.slice A0 m c0)) (go_keep) (fail)
  go_wp2
  refine bodyPost_ret (v := .agg #[.int .i64 (n : Int), .int .i64 (m : Int), .func (.func 65) #[] #[.pointer (some ⟨w.heap.size, 0, none⟩)]]) ?_ rfl (hR.out _ _ ⟨w.heap.size, rfl, ?_, Nat.le_refl _, ?_⟩)
  · simp [results, Try.results51, go_sem]
  · exact ((below_new (w.alloc (.cells #[.slice (some ⟨b, o, none⟩) n c] 22)) _).block _ (by simp)).trans (heap_alloc_new w _)
  · exact ((below_new w _).trans ((below_new (w.alloc (.cells #[.slice (some ⟨b, o, none⟩) n c] 22)) _).mono (by simp))).drew
end Go.Proofs.Ytjdhcdoekfikpaa
