/-
  The contract of clavecinlaw08.few: a panel with a copy of its first shapes; no condition but that the shapes read.
-/
import Derived.Test.YtfkpioibinpfhaaPLaw
import Derived.Test.YtfkpioibinpfhaaMem3
namespace Go.Proofs.Ytfkpioibinpfhaa
open Go.RowKit

theorem elemShp : ElemOk Try.prog 22 37 4 32 := ElemOk.of (z := .agg #[.int .i64 0, .int .i64 0, .int .i64 0, .bool false]) Try.underlying22 (by kernel_rfl) rfl (by omega)
def fewV (x : Int) : Int := if 20 < x ∧ x ≤ 64 then x % 20 + 1 else x
theorem shp_one (l : List Shp) : ∀ u ∈ l.flatMap Shp.enc, u.oneCell' = true := by
  intro u hu
  obtain ⟨x, _, hx⟩ := List.mem_flatMap.1 hu
  simp only [Shp.enc, List.mem_cons, List.not_mem_nil, or_false] at hx
  rcases hx with rfl | rfl | rfl | rfl <;> rfl
theorem SlE.cut {α : Type} {enc : α → List Value} {sz : Nat} (hsz : ∀ x, (enc x).length = sz) {w : World} {A : Option Addr} {n k : Nat} {l : List α} (h : SlE enc sz w A n l) (hk : k ≤ n) : SlE enc sz w A k (l.take k) := by
  refine ⟨by rw [List.length_take, ← h.1]; omega, by rw [flat_length hsz, List.length_take, ← h.1, Nat.min_eq_left hk], fun h0 => ?_⟩
  obtain ⟨b, o, hA, hb, hc⟩ := h.2.2 (by omega)
  refine ⟨b, o, hA, hb, fun j u hu => hc j u ?_⟩
  rw [← List.take_append_drop k l, List.flatMap_append, List.getElem?_append_left (List.getElem?_eq_some_iff.1 hu).1]
  exact hu
theorem own_new3 (w : World) (o1 o2 : Obj) (e : TypeId) (sz : Nat) : (((w.alloc o1).alloc o2).alloc (.cells #[] e)).ownsRow (w.heap.size + 1 + 1) e sz (.slice (some ⟨w.heap.size + 1 + 1, 0, none⟩) 0 0) 0 [] := by
  have h := own_new ((w.alloc o1).alloc o2) #[] e sz 0 (w.heap.size + 1 + 1) (by simp) (by simp) (by unfold maxLen; omega)
  rw [World.size_alloc, World.size_alloc] at h
  exact h
theorem few_boxes {w w1 : World} {o1 o2 o3 : Obj} (hg : (((w.alloc o1).alloc o2).alloc o3).grownBy w1 (some (w.heap.size + 1 + 1))) : w1.heap[w.heap.size]? = some o1 ∧ w1.heap[w.heap.size + 1]? = some o2 ∧ Below w.heap.size w w1 := by
  obtain ⟨a0, a1, _, a3, a4⟩ := alloc3 w o1 o2 o3
  refine ⟨(hg.block _ (by omega) (by simp; omega)).trans a0, (hg.block _ (by omega) (by simp)).trans a1, a4.trans ⟨hg.os, hg.tape, hg.output, hg.size, fun j hj => hg.block j (by omega) (by simp; omega)⟩⟩
set_option maxRecDepth 100000 in
set_option maxHeartbeats 4000000 in
theorem few_any (W H K : Int) (A : Option Addr) (n c : Nat) (ss : List Shp) (w : World) (hS : SlE Shp.enc 4 w A n ss) (hnc : n ≤ c) (hc : c ≤ 9223372036854775807) :
    Calls Try.prog 15 #[.agg #[.int .i64 W, .int .i64 H, .int .i64 K, .slice A n c]] w fun e w' => ∃ A' c', e = .returned (.agg #[.int .i64 (fewV W), .int .i64 (fewV H), .int .i64 K, .slice A' (ss.take 17).length c']) ∧
      w'.ownsRow w.heap.size 37 4 (.slice A' (ss.take 17).length c') (ss.take 17).length ((ss.take 17).flatMap Shp.enc) ∧ Below w.heap.size w w' := by
  refine calls_cps ?_
  intro R hR
  obtain ⟨L, hL⟩ : ∃ L, (ss.take 17).length = L := ⟨_, rfl⟩
  have hL17 : L ≤ 17 := by rw [← hL, List.length_take]; omega
  have Hfin := Lib.hid (show ∀ (A' : Option Addr) (c' : Nat) (W' H' : Int) (wz : World), W' = fewV W → H' = fewV H → wz.ownsRow (w.heap.size + 1 + 1) 37 4 (.slice A' L c') L ((ss.take 17).flatMap Shp.enc) → Below w.heap.size w wz → R (.returned (.agg #[.int .i64 W', .int .i64 H', .int .i64 K, .slice A' L c'])) wz from
    fun A' c' W' H' wz e1 e2 ho hb => hR.out _ _ ⟨A', c', by rw [hL, e1, e2], by rw [hL]; exact own_base ho (by omega), hb⟩)
  clear hR
  by_cases hn : n ≤ 17
  · have hall : ss.take 17 = ss := List.take_of_length_le (by rw [← hS.1]; exact hn)
    rw [hall] at Hfin hL
    have hnL : n = L := by rw [hS.1, hL]
    subst hnL
    clear hL hall hL17
    go_enter Try.func15, Try.ntmps15
    go_wp2_with (at_builtin; refine wpList_app rfl (.tmp 11) (.tmp 13) _ rfl elemShp (w.heap.size + 1 + 1) _ _ _ rfl (own_new3 _ _ _ _ _) _ _ _ _ rfl (((hS.2.alloc _).alloc _).alloc _) (shp_one _) (by unfold maxLen; omega) (by omega) (by simp) ?_; intro A1 c1 w1 ho1 hg1 hgs; clear hgs; obtain ⟨x0, x1, hb1⟩ := few_boxes hg1; obtain ⟨q0, q1, q2, q3, q4⟩ := cells4 x0; obtain ⟨r0, r1, r2, r3, r4⟩ := cells4 x1; rw [Nat.zero_add, List.nil_append] at ho1; clear hg1 x0 x1)
    all_goals
      first
      | (have e1 : W % 20 + 1 = fewV W := by (simp only [fewV]; split <;> omega)); (have e2 : H % 20 + 1 = fewV H := by (simp only [fewV]; split <;> omega))
        refine bodyPost_ret (v := .agg #[.int .i64 (W % 20 + 1), .int .i64 (H % 20 + 1), .int .i64 K, .slice A1 n c1]) ?_ rfl (Hfin.out A1 c1 _ _ _ e1 e2 ?_ ?_)
        · simp [results, Try.results15, go_sem, r0, r1, r2, r3]
        · repeat (first | with_reducible exact ho1 | with_reducible refine ownsRow_setCell_below ?_ (by dsimp only; omega) _)
        · repeat (first | with_reducible exact hb1 | with_reducible refine Below.setCell ?_ (by dsimp only; omega) _)
      | (have e1 : W = fewV W := by (simp only [fewV]; split <;> omega)); (have e2 : H % 20 + 1 = fewV H := by (simp only [fewV]; split <;> omega))
        refine bodyPost_ret (v := .agg #[.int .i64 (W), .int .i64 (H % 20 + 1), .int .i64 K, .slice A1 n c1]) ?_ rfl (Hfin.out A1 c1 _ _ _ e1 e2 ?_ ?_)
        · simp [results, Try.results15, go_sem, r0, r1, r2, r3]
        · repeat (first | with_reducible exact ho1 | with_reducible refine ownsRow_setCell_below ?_ (by dsimp only; omega) _)
        · repeat (first | with_reducible exact hb1 | with_reducible refine Below.setCell ?_ (by dsimp only; omega) _)
      | (have e1 : W % 20 + 1 = fewV W := by (simp only [fewV]; split <;> omega)); (have e2 : H = fewV H := by (simp only [fewV]; split <;> omega))
        refine bodyPost_ret (v := .agg #[.int .i64 (W % 20 + 1), .int .i64 (H), .int .i64 K, .slice A1 n c1]) ?_ rfl (Hfin.out A1 c1 _ _ _ e1 e2 ?_ ?_)
        · simp [results, Try.results15, go_sem, r0, r1, r2, r3]
        · repeat (first | with_reducible exact ho1 | with_reducible refine ownsRow_setCell_below ?_ (by dsimp only; omega) _)
        · repeat (first | with_reducible exact hb1 | with_reducible refine Below.setCell ?_ (by dsimp only; omega) _)
      | (have e1 : W = fewV W := by (simp only [fewV]; split <;> omega)); (have e2 : H = fewV H := by (simp only [fewV]; split <;> omega))
        refine bodyPost_ret (v := .agg #[.int .i64 (W), .int .i64 (H), .int .i64 K, .slice A1 n c1]) ?_ rfl (Hfin.out A1 c1 _ _ _ e1 e2 ?_ ?_)
        · simp [results, Try.results15, go_sem, r0, r1, r2, r3]
        · repeat (first | with_reducible exact ho1 | with_reducible refine ownsRow_setCell_below ?_ (by dsimp only; omega) _)
        · repeat (first | with_reducible exact hb1 | with_reducible refine Below.setCell ?_ (by dsimp only; omega) _)
  · have hcut := SlE.cut Shp.enc_len hS (k := 17) (by omega)
    have hL : (ss.take 17).length = 17 := by rw [List.length_take, ← hS.1]; omega
    have hL' : L = 17 := by rw [← ‹(ss.take 17).length = L›, hL]
    subst hL'
    clear hL17
    go_enter Try.func15, Try.ntmps15
    go_wp2_with (at_builtin; refine wpList_app rfl (.tmp 11) (.tmp 13) _ rfl elemShp (w.heap.size + 1 + 1) _ _ _ rfl (own_new3 _ _ _ _ _) _ _ _ _ rfl (((hcut.2.alloc _).alloc _).alloc _) (shp_one _) (by unfold maxLen; omega) (by omega) (by simp) ?_; intro A1 c1 w1 ho1 hg1 hgs; clear hgs; obtain ⟨x0, x1, hb1⟩ := few_boxes hg1; obtain ⟨q0, q1, q2, q3, q4⟩ := cells4 x0; obtain ⟨r0, r1, r2, r3, r4⟩ := cells4 x1; rw [Nat.zero_add, List.nil_append] at ho1; clear hg1 x0 x1)
    all_goals
      first
      | (have e1 : W % 20 + 1 = fewV W := by (simp only [fewV]; split <;> omega)); (have e2 : H % 20 + 1 = fewV H := by (simp only [fewV]; split <;> omega))
        refine bodyPost_ret (v := .agg #[.int .i64 (W % 20 + 1), .int .i64 (H % 20 + 1), .int .i64 K, .slice A1 17 c1]) ?_ rfl (Hfin.out A1 c1 _ _ _ e1 e2 ?_ ?_)
        · simp [results, Try.results15, go_sem, r0, r1, r2, r3]
        · repeat (first | with_reducible exact ho1 | with_reducible refine ownsRow_setCell_below ?_ (by dsimp only; omega) _)
        · repeat (first | with_reducible exact hb1 | with_reducible refine Below.setCell ?_ (by dsimp only; omega) _)
      | (have e1 : W = fewV W := by (simp only [fewV]; split <;> omega)); (have e2 : H % 20 + 1 = fewV H := by (simp only [fewV]; split <;> omega))
        refine bodyPost_ret (v := .agg #[.int .i64 (W), .int .i64 (H % 20 + 1), .int .i64 K, .slice A1 17 c1]) ?_ rfl (Hfin.out A1 c1 _ _ _ e1 e2 ?_ ?_)
        · simp [results, Try.results15, go_sem, r0, r1, r2, r3]
        · repeat (first | with_reducible exact ho1 | with_reducible refine ownsRow_setCell_below ?_ (by dsimp only; omega) _)
        · repeat (first | with_reducible exact hb1 | with_reducible refine Below.setCell ?_ (by dsimp only; omega) _)
      | (have e1 : W % 20 + 1 = fewV W := by (simp only [fewV]; split <;> omega)); (have e2 : H = fewV H := by (simp only [fewV]; split <;> omega))
        refine bodyPost_ret (v := .agg #[.int .i64 (W % 20 + 1), .int .i64 (H), .int .i64 K, .slice A1 17 c1]) ?_ rfl (Hfin.out A1 c1 _ _ _ e1 e2 ?_ ?_)
        · simp [results, Try.results15, go_sem, r0, r1, r2, r3]
        · repeat (first | with_reducible exact ho1 | with_reducible refine ownsRow_setCell_below ?_ (by dsimp only; omega) _)
        · repeat (first | with_reducible exact hb1 | with_reducible refine Below.setCell ?_ (by dsimp only; omega) _)
      | (have e1 : W = fewV W := by (simp only [fewV]; split <;> omega)); (have e2 : H = fewV H := by (simp only [fewV]; split <;> omega))
        refine bodyPost_ret (v := .agg #[.int .i64 (W), .int .i64 (H), .int .i64 K, .slice A1 17 c1]) ?_ rfl (Hfin.out A1 c1 _ _ _ e1 e2 ?_ ?_)
        · simp [results, Try.results15, go_sem, r0, r1, r2, r3]
        · repeat (first | with_reducible exact ho1 | with_reducible refine ownsRow_setCell_below ?_ (by dsimp only; omega) _)
        · repeat (first | with_reducible exact hb1 | with_reducible refine Below.setCell ?_ (by dsimp only; omega) _)
end Go.Proofs.Ytfkpioibinpfhaa
