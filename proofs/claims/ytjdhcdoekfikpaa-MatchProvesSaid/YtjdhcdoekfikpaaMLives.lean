/-
  The contract of the law's lives: true.
-/
import Derived.Test.YtjdhcdoekfikpaaMBestW
namespace Go.Proofs.Ytjdhcdoekfikpaa
open Go.RowKit

theorem hall_some (A : Option Addr) (n c m : Nat) (T : List (List Int)) (w : World) (hT : SlR w A n T) (hok : TOk T m) (h : kuhn (gT T) m (List.range n) ≠ n) (S : List Nat) (hS : hallF (gT T) m (List.range n) (List.range n) = S) :
    Calls Try.prog 28 #[.slice A n c] w fun e w' => (∃ A' c', e = .returned (.tuple #[.slice A' S.length c', .int .i64 0]) ∧ SlE intE 1 w' A' S.length (castL S) ∧ S.length ≤ c' ∧ c' ≤ 9223372036854775807) ∧ Below w.heap.size w w' := by
  subst hS
  exact (hall_yes A n c m T w hT hok).mono fun _ _ hh => by rw [if_neg h] at hh; exact hh
theorem hall_none (A : Option Addr) (n c m : Nat) (T : List (List Int)) (w : World) (hT : SlR w A n T) (hok : TOk T m) (h : kuhn (gT T) m (List.range n) = n) :
    Calls Try.prog 28 #[.slice A n c] w fun e w' => e = .returned (.tuple #[.slice none 0 0, .int .i64 6]) ∧ Below w.heap.size w w' :=
  (hall_yes A n c m T w hT hok).mono fun _ _ hh => by rw [if_pos h] at hh; exact hh
def T1 : List (List Int) := [[4, 1], [2, 0]]
def T2 : List (List Int) := [[5, -1], [7, -1]]
theorem t1_ok : TOk T1 2 := tabB_iff.1 (by decide +kernel)
theorem t2_ok : TOk T2 2 := tabB_iff.1 (by decide +kernel)
theorem t1_kuhn : kuhn (gT T1) 2 (List.range 2) = 2 := by decide +kernel
theorem t2_kuhn : kuhn (gT T2) 2 (List.range 2) ≠ 2 := by decide +kernel
theorem t2_hall : hallF (gT T2) 2 (List.range 2) (List.range 2) = [0, 1] := by decide +kernel
theorem t1_best : bestO T1 2 = some ([1, 0], 3) := by decide +kernel
theorem t1_bst {l : List Nat} {s : Int} {lu lv : List Int} (h : Bst T1 2 l s lu lv) : l = [1, 0] ∧ s = 3 := IsBest.unique h.best (bestO_some t1_best)
theorem slR_two (w : World) (a b c d : Int) : SlR (((w.alloc (.cells #[.int .i64 a, .int .i64 b] 3)).alloc (.cells #[.int .i64 c, .int .i64 d] 3)).alloc (.cells #[.slice (some ⟨w.heap.size, 0, none⟩) 2 2, .slice (some ⟨w.heap.size + 1, 0, none⟩) 2 2] 26)) (some ⟨w.heap.size + 1 + 1, 0, none⟩) 2 [[a, b], [c, d]] := by
  have b2 := below_new ((w.alloc (.cells #[.int .i64 a, .int .i64 b] 3)).alloc (.cells #[.int .i64 c, .int .i64 d] 3)) (.cells #[.slice (some ⟨w.heap.size, 0, none⟩) 2 2, .slice (some ⟨w.heap.size + 1, 0, none⟩) 2 2] 26)
  have h0 := (b2.block w.heap.size (by simp <;> omega)).trans (heap_two1 w _ _)
  have h1 := (b2.block (w.heap.size + 1) (by simp)).trans (heap_two2 w _ _)
  have h2 := heap_alloc_new ((w.alloc (.cells #[.int .i64 a, .int .i64 b] 3)).alloc (.cells #[.int .i64 c, .int .i64 d] 3)) (.cells #[.slice (some ⟨w.heap.size, 0, none⟩) 2 2, .slice (some ⟨w.heap.size + 1, 0, none⟩) 2 2] 26)
  simp only [World.size_alloc] at h2
  refine ⟨rfl, fun _ => ⟨_, 0, rfl, by simp, fun i r hr => ?_⟩⟩
  rw [Nat.zero_add, cell_of_row _ _ _ _ _ (0, 0) h2]
  match i, hr with
  | 0, hr =>
    simp at hr
    subst hr
    exact ⟨_, _, rfl, slE_of_block (e := 3) h0 rfl⟩
  | 1, hr =>
    simp at hr
    subst hr
    exact ⟨_, _, rfl, slE_of_block (e := 3) h1 rfl⟩
  | i + 2, hr => simp at hr
theorem slR_twoAt {w : World} {g : Nat} (a b c d : Int) (hg : g = w.heap.size) : SlR (((w.alloc (.cells #[.int .i64 a, .int .i64 b] 3)).alloc (.cells #[.int .i64 c, .int .i64 d] 3)).alloc (.cells #[.slice (some ⟨g, 0, none⟩) 2 2, .slice (some ⟨g + 1, 0, none⟩) 2 2] 26)) (some ⟨g + 1 + 1, 0, none⟩) 2 [[a, b], [c, d]] := by
  subst hg; exact slR_two w a b c d
theorem below_three (w : World) (o0 o1 o2 : Obj) : Below w.heap.size w (((w.alloc o0).alloc o1).alloc o2) := (below_two w o0 o1).trans ((below_new _ o2).mono (by simp <;> omega))
theorem slE_pair {w : World} {b : Nat} (x y : Int) (hb : b = w.heap.size) : SlE intE 1 (w.alloc (.cells #[.int .i64 x, .int .i64 y] 3)) (some ⟨b, 0, none⟩) 2 [x, y] := by
  subst hb
  exact slE_of_block (e := 3) (heap_alloc_new w _) rfl
set_option maxRecDepth 100000 in
set_option maxHeartbeats 400000 in
theorem lives_any (w : World) : Calls Try.prog 24 #[] w fun e w' => e = .returned (.bool true) ∧ Below w.heap.size w w' := by
  refine calls_cps ?_
  intro R hR
  go_enter Try.func24, Try.ntmps24
  go_wp2_with fail
  refine (best_yes _ 2 2 2 T1 _ (slR_two w 4 1 2 0) t1_ok t1_kuhn).mono ?_
  rintro e w1 ⟨A1, A2, A3, c1, c2, c3, l, s, lu, lv, rfl, hB, s1, _, _, hc1, hc2, hc3, hd1, hd2, hd3, hb1⟩
  obtain ⟨rfl, rfl⟩ := t1_bst hB
  have Hf1 := Lib.hid ((below_three w _ _ _).trans (hb1.mono (by simp <;> omega)))
  have S1 := Lib.hid (s1.alloc (.cells #[.slice A1 2 c1, .slice A2 2 c2, .slice A3 2 c3, .int .i64 3] 28))
  have X1 := Lib.hid (heap_alloc_new w1 (.cells #[.slice A1 2 c1, .slice A2 2 c2, .slice A3 2 c3, .int .i64 3] 28))
  have Hba := Lib.hid (below_new w1 (.cells #[.slice A1 2 c1, .slice A2 2 c2, .slice A3 2 c3, .int .i64 3] 28))
  clear hB s1 hb1
  go_wp2_with fail
  refine (hall_some _ 2 2 2 T2 _ (slR_twoAt 5 (-1) 7 (-1) (World.size_alloc _ _).symm) t2_ok t2_kuhn [0, 1] t2_hall).mono ?_
  rintro e w2 ⟨⟨A4, c4, rfl, s4, _, _⟩, hb2⟩
  have hx2 := (hb2.block w1.heap.size (by simp <;> omega)).trans (((below_three (w1.alloc (.cells #[.slice A1 2 c1, .slice A2 2 c2, .slice A3 2 c3, .int .i64 3] 28)) _ _ _).block w1.heap.size (by simp)).trans X1.out)
  obtain ⟨r0, r1, r2, r3, r4⟩ := cells4 hx2
  have hba2 := Hba.out.trans (((below_three (w1.alloc (.cells #[.slice A1 2 c1, .slice A2 2 c2, .slice A3 2 c3, .int .i64 3] 28)) _ _ _).trans (hb2.mono (by simp <;> omega))).mono (by simp))
  have S2 := Lib.hid ((S1.out.below (below_three _ _ _ _)).below hb2)
  have Hf2 := Lib.hid (Hf1.out.trans (hba2.mono Hf1.out.size))
  have S4 := Lib.hid s4
  have hsz := hba2.size
  clear hb2 hx2 s4 hba2
  go_wp2_with fail
  refine (same_any A1 _ 2 c1 2 2 [1, 0] [1, 0] _ (S2.out.alloc _) (slE_pair 1 0 rfl) (by omega) (by omega)).mono ?_
  rw [decide_eq_true rfl]
  rintro e w3 ⟨rfl, hq3⟩
  have hb3 : Below w2.heap.size w2 w3 := (below_new w2 _).trans (hq3.below.mono (by simp <;> omega))
  have S5 := Lib.hid (S4.out.below hb3)
  have Hf3 := Lib.hid (Hf2.out.trans (hb3.mono Hf2.out.size))
  clear hq3 hb3 r0 r1 r2 r3 r4
  go_wp2_with fail
  refine (same_any A4 _ 2 c4 2 2 [0, 1] [0, 1] _ (S5.out.alloc _) (slE_pair 0 1 rfl) (by omega) (by omega)).mono ?_
  rw [decide_eq_true rfl]
  rintro e w4 ⟨rfl, hq4⟩
  have hf4 := Hf3.out.trans (((below_new w3 (.cells #[.int .i64 0, .int .i64 1] 3)).trans (hq4.below.mono (by simp <;> omega))).mono Hf3.out.size)
  clear hq4
  go_wp2
  exact hR.out _ _ ⟨rfl, hf4⟩
end Go.Proofs.Ytjdhcdoekfikpaa
