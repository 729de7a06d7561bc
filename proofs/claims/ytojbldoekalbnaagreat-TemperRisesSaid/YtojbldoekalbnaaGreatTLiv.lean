/-
  Contract of the law's lives: it returns true; no condition.
-/
import Derived.Test.YtojbldoekalbnaaGreatTLiv0
import Derived.Test.YtojbldoekalbnaaGreatMSame
import Derived.Test.YtojbldoekalbnaaGreatTBes
namespace Go.Proofs.YtojbldoekalbnaaGreat
open Go.RowKit
def ring3 (A B : Option Addr) : Value := .agg #[.int .i64 3, .int .i64 2, .int .i64 0, .int .i64 3, .int .i64 3, .int .i64 2, .int .i64 1000, .slice A 3 3, .slice B 3 3]
theorem best3 (A B : Option Addr) (w : World) (hF : SlE intE 1 w A 3 [1, 1, 1]) (hT : SlE intE 1 w B 3 [1, 1, 1]) :
    Calls Tryz.prog 25 #[ring3 A B] w fun e w' => (∃ A' c', e = .returned (.tuple #[.slice A' 3 c', .int .i64 3, .int .i64 0]) ∧ SlE intE 1 w' A' 3 [1, 1, 1]) ∧ Below w.heap.size w w' := by
  refine (callsIn_wide.1 (best_ok 6 (Nat.le_refl _) r3 r3_ok A B 3 3 3 3 w hF hT)).mono ?_
  rintro e w' ⟨h, hb⟩
  refine ⟨?_, hb⟩
  rcases h with ⟨-, h⟩ | ⟨st, cs, A', c', rfl, h, ho⟩
  · exact absurd r3_best.good (h _)
  · obtain ⟨rfl, rfl⟩ := h.uniq r3_best
    exact ⟨A', c', rfl, SlE.of_own ho rfl⟩
theorem bear3 (A : Option Addr) (w : World) (hS : SlE linkE 3 w A 3 L3) :
    Calls Tryz.prog 27 #[.int .i64 3, .slice A 3 3] w fun e w' => (∃ A' c', e = .returned (.tuple #[.slice A' 2 c', .int .i64 0]) ∧ SlE intE 1 w' A' 2 [0, 1]) ∧ Below w.heap.size w w' := by
  refine (bear_ok 3 A 3 3 L3 w hS L3_pln (by decide) [0, 1] L3_kru).mono ?_
  rintro e w' ⟨hb, h⟩
  refine ⟨?_, hb⟩
  rcases h with ⟨h, -⟩ | ⟨-, A', c', rfl, ho⟩
  · exact absurd h (by decide)
  · rw [isrt01] at ho
    exact ⟨A', c', rfl, SlE.of_own ho rfl⟩
theorem ones_new (W : World) (b : Nat) (hb : b = W.heap.size) : SlE intE 1 (W.alloc (.cells #[.int .i64 1, .int .i64 1, .int .i64 1] 3)) (some ⟨b, 0, none⟩) 3 [1, 1, 1] := by
  subst hb; exact ⟨rfl, Sl.new W #[.int .i64 1, .int .i64 1, .int .i64 1] 3 1 3 rfl⟩
theorem zo_new (W : World) (b : Nat) (hb : b = W.heap.size) : SlE intE 1 (W.alloc (.cells #[.int .i64 0, .int .i64 1] 3)) (some ⟨b, 0, none⟩) 2 [0, 1] := by
  subst hb; exact ⟨rfl, Sl.new W #[.int .i64 0, .int .i64 1] 3 1 2 rfl⟩
theorem same111 (A : Option Addr) (c : Nat) (b : Nat) (w : World) (h1 : SlE intE 1 w A 3 [1, 1, 1]) (h2 : SlE intE 1 w (some ⟨b, 0, none⟩) 3 [1, 1, 1]) :
    Calls Tryz.prog 28 #[.slice A 3 c, .slice (some ⟨b, 0, none⟩) 3 3] w fun e w' => e = .returned (.bool true) ∧ Qt w w' := same_any A _ 3 c 3 3 _ _ w h1 h2 (by omega) (by omega)
theorem same01 (A : Option Addr) (c : Nat) (b : Nat) (w : World) (h1 : SlE intE 1 w A 2 [0, 1]) (h2 : SlE intE 1 w (some ⟨b, 0, none⟩) 2 [0, 1]) :
    Calls Tryz.prog 28 #[.slice A 2 c, .slice (some ⟨b, 0, none⟩) 2 2] w fun e w' => e = .returned (.bool true) ∧ Qt w w' := same_any A _ 2 c 2 2 _ _ w h1 h2 (by omega) (by omega)
theorem slE_drewN {W : World} {A : Option Addr} {n : Nat} {l : List Int} (h : SlE intE 1 W A n l) (q : Nat) : SlE intE 1 (W.drewN q) A n l := h
theorem three_any (w : World) : Calls Tryz.prog 26 #[] w fun e w' => (∃ A B, e = .returned (ring3 A B) ∧ SlE intE 1 w' A 3 [1, 1, 1] ∧ SlE intE 1 w' B 3 [1, 1, 1]) ∧ Below w.heap.size w w' := by
  refine calls_cps ?_
  intro R hR
  go_enter Tryz.func26, Tryz.ntmps26
  go_wp2_with fail
  obtain ⟨o0, ho0⟩ : ∃ o0, (Obj.cells #[.int .i64 3, .int .i64 2, .int .i64 0, .int .i64 3, .int .i64 3, .int .i64 2, .int .i64 1000, .slice (some ⟨w.heap.size + 1, 0, none⟩) 3 3, .slice (some ⟨w.heap.size + 1 + 1, 0, none⟩) 3 3] 50) = o0 := ⟨_, rfl⟩
  have hb : Below w.heap.size w (((w.alloc o0).alloc (.cells #[.int .i64 1, .int .i64 1, .int .i64 1] 3)).alloc (.cells #[.int .i64 1, .int .i64 1, .int .i64 1] 3)) :=
    ((below_new w _).alloc (by simp) _).alloc (by simp; omega) _
  have s2 := ones_new ((w.alloc o0).alloc (.cells #[.int .i64 1, .int .i64 1, .int .i64 1] 3)) (w.heap.size + 1 + 1) (by simp)
  have s1 := (ones_new (w.alloc o0) (w.heap.size + 1) (by simp)).alloc (.cells #[.int .i64 1, .int .i64 1, .int .i64 1] 3)
  have hcell : (((w.alloc o0).alloc (.cells #[.int .i64 1, .int .i64 1, .int .i64 1] 3)).alloc (.cells #[.int .i64 1, .int .i64 1, .int .i64 1] 3)).heap[w.heap.size]? = some o0 := by
    rw [Below.heap_alloc _ _ _ (by simp; omega), Below.heap_alloc _ _ _ (by simp)]; exact heap_alloc_new w _
  rw [ho0]
  obtain ⟨W, hW⟩ : ∃ W, ((w.alloc o0).alloc (.cells #[.int .i64 1, .int .i64 1, .int .i64 1] 3)).alloc (.cells #[.int .i64 1, .int .i64 1, .int .i64 1] 3) = W := ⟨_, rfl⟩
  rw [hW] at hb s2 s1 hcell ⊢
  rw [← ho0] at hcell
  refine bodyPost_ret (v := ring3 (some ⟨w.heap.size + 1, 0, none⟩) (some ⟨w.heap.size + 1 + 1, 0, none⟩)) ?_ rfl (hR.out _ _ ⟨⟨_, _, rfl, s1, s2⟩, hb⟩)
  have c0 := cell_of_row _ _ 0 _ _ (0, 0) hcell
  have c1 := cell_of_row _ _ 1 _ _ (0, 0) hcell
  have c2 := cell_of_row _ _ 2 _ _ (0, 0) hcell
  have c3 := cell_of_row _ _ 3 _ _ (0, 0) hcell
  have c4 := cell_of_row _ _ 4 _ _ (0, 0) hcell
  have c5 := cell_of_row _ _ 5 _ _ (0, 0) hcell
  have c6 := cell_of_row _ _ 6 _ _ (0, 0) hcell
  have c7 := cell_of_row _ _ 7 _ _ (0, 0) hcell
  have c8 := cell_of_row _ _ 8 _ _ (0, 0) hcell
  simp [results, Tryz.results26, go_sem, c0, c1, c2, c3, c4, c5, c6, c7, c8]
  rfl
theorem links_new (W : World) (b : Nat) (hb : b = W.heap.size) : SlE linkE 3 (W.alloc (.cells #[.int .i64 0, .int .i64 1, .int .i64 5, .int .i64 1, .int .i64 2, .int .i64 5, .int .i64 0, .int .i64 2, .int .i64 5] 55)) (some ⟨b, 0, none⟩) 3 L3 := by
  subst hb; exact ⟨rfl, Sl.new W #[.int .i64 0, .int .i64 1, .int .i64 5, .int .i64 1, .int .i64 2, .int .i64 5, .int .i64 0, .int .i64 2, .int .i64 5] 55 3 3 rfl⟩
set_option maxRecDepth 8000 in
set_option maxHeartbeats 4000000 in
theorem lives_any (w : World) : Calls Tryz.prog 10 #[] w fun e w' => e = .returned (.bool true) ∧ Below w.heap.size w w' := by
  refine calls_cps ?_
  intro R hR
  go_enter Tryz.func10, Tryz.ntmps10
  go_upto_region 2 with (first
    | (go_at_call 26; refine (three_any _).mono ?_; rintro e w1 ⟨⟨A, B, rfl, sA, sB⟩, hb1⟩; have Hb1 := Lib.hid hb1; clear hb1)
    | (go_at_call 25; refine (best3 _ _ _ sA sB).mono ?_; rintro e w2 ⟨⟨A2, c2, rfl, s2⟩, hb2⟩; have Hs2 := Lib.hid s2; have Hb2 := Lib.hid hb2; clear sA sB s2 hb2))
  go_upto_region 3 with (go_at_call 27; refine (bear3 _ _ (links_new w2 _ rfl)).mono ?_; rintro e w3 ⟨⟨A3, c3, rfl, s3⟩, hb3⟩; have Hs3 := Lib.hid s3; have Hb3 := Lib.hid ((below_new w2 _).trans (hb3.mono (by simp))); clear s3 hb3)
  have HA := Lib.hid ((Hs2.out.below Hb3.out).alloc (.cells #[.int .i64 1, .int .i64 1, .int .i64 1] 3))
  have HB := Lib.hid (Hs3.out.alloc (.cells #[.int .i64 1, .int .i64 1, .int .i64 1] 3))
  have Hb4 := Lib.hid (((Hb1.out.trans (Hb2.out.mono Hb1.out.size)).trans (Hb3.out.mono (Nat.le_trans Hb1.out.size Hb2.out.size))).alloc (Nat.le_trans Hb1.out.size (Nat.le_trans Hb2.out.size Hb3.out.size)) (.cells #[.int .i64 1, .int .i64 1, .int .i64 1] 3))
  clear Hs2 Hs3
  go_wp2_with (go_at_call 28; first
    | ((with_reducible refine (same111 A2 c2 _ _ HA.out (ones_new w3 _ rfl)).mono ?_); rintro e w5 ⟨rfl, q, rfl⟩)
    | ((with_reducible refine (same01 A3 c3 _ _ (SlE.alloc (slE_drewN HB.out _) _) (zo_new _ (w3.heap.size + 1) (by simp))).mono ?_); rintro e w6 ⟨rfl, q2, rfl⟩))
  refine hR.out _ _ ⟨rfl, ?_⟩
  have hb5 := below_drewN Hb4.out q
  exact below_drewN (hb5.alloc hb5.size _) q2
end Go.Proofs.YtojbldoekalbnaaGreat
