/-
  Contracts of the law's cut and short; no condition but slices that read and lie within their capacity.
-/
import Derived.Test.YtojbldoekalbnaaGreatTLiv
import Derived.BigRegion
namespace Go.Proofs.YtojbldoekalbnaaGreat
open Go.RowKit
theorem slE_cut {w : World} {A : Option Addr} {n k : Nat} {l : List Int} (h : SlE intE 1 w A n l) (hk : k ≤ n) : SlE intE 1 w A k (l.take k) := by
  refine ⟨by rw [List.length_take, ← h.1]; omega, by rw [flat_length intE_len, List.length_take, ← h.1, Nat.min_eq_left hk], fun h0 => ?_⟩
  obtain ⟨b, o, hA, hb, hc⟩ := h.2.2 (by omega)
  refine ⟨b, o, hA, hb, fun j u hu => hc j u ?_⟩
  rw [← List.take_append_drop k l, List.flatMap_append, List.getElem?_append_left (List.getElem?_eq_some_iff.1 hu).1]
  exact hu
set_option maxRecDepth 100000 in
set_option maxHeartbeats 4000000 in
theorem cut_own (A : Option Addr) (n c : Nat) (l : List Int) (x : Int) (N : Nat) (hx : x = (N : Int)) (hN : N ≤ 600) (w : World) (hA : SlE intE 1 w A n l) (hnc : n ≤ c) (_hc : c ≤ 9223372036854775807) :
    Calls Tryz.prog 8 #[.slice A n c, .int .i64 x] w fun e w' => ∃ A' c', e = .returned (.slice A' (l.take N).length c') ∧ w'.ownsRow w.heap.size 3 1 (.slice A' (l.take N).length c') (l.take N).length ((l.take N).flatMap intE) ∧ Below w.heap.size w w' := by
  subst hx
  refine calls_cps ?_
  intro R hR
  have hl := hA.1
  have HO := Lib.hid (own_new w #[] 3 1 0 w.heap.size rfl (Nat.le_refl _) (by unfold maxLen; omega))
  by_cases h : N < n
  · have hlen : (l.take N).length = N := by rw [List.length_take, ← hl]; omega
    have HC := Lib.hid (slE_cut hA (k := N) (by omega))
    rw [hlen] at hR
    have i1 : (N : Int) < (n : Int) := by omega
    have i2 : (N : Int) ≤ (c : Int) := by omega
    have Hlen := Lib.hid hlen
    clear hA hl hlen
    go_enter Tryz.func8, Tryz.ntmps8
    go_wp2_with (at_builtin; refine wpList_app rfl (.tmp 12) (.tmp 13) _ rfl elemInt w.heap.size _ _ _ rfl HO.out _ _ _ _ rfl (HC.out.2.alloc _) (int_one _) (by unfold maxLen; omega) (by omega) (by simp) ?_; intro A3 c3 w3 ho3 hg3 _; rw [Nat.zero_add, List.nil_append] at ho3; have hb3 := app_below1 rfl hg3; clear hg3)
    exact hR.out _ _ ⟨A3, c3, rfl, ho3, hb3⟩
  · have htk : l.take N = l := List.take_of_length_le (by rw [← hl]; omega)
    rw [htk, ← hl] at hR
    have HC := Lib.hid hA
    have Hl := Lib.hid hl
    have hn66 : n ≤ 600 := by omega
    have i1 : (n : Int) ≤ (N : Int) := by omega
    clear hA hl htk
    go_enter Tryz.func8, Tryz.ntmps8
    go_wp2_with (at_builtin; refine wpList_app rfl (.tmp 12) (.tmp 13) _ rfl elemInt w.heap.size _ _ _ rfl HO.out _ _ _ _ rfl (HC.out.2.alloc _) (int_one _) (by unfold maxLen; omega) (by omega) (by simp) ?_; intro A3 c3 w3 ho3 hg3 _; rw [Nat.zero_add, List.nil_append] at ho3; have hb3 := app_below1 rfl hg3; clear hg3)
    exact hR.out _ _ ⟨A3, c3, rfl, ho3, hb3⟩
theorem cells9' {W : World} {b : Nat} {t : TypeId} {u0 u1 u2 u3 u4 u5 u6 u7 u8 : Value} (h : W.heap[b]? = some (.cells #[u0, u1, u2, u3, u4, u5, u6, u7, u8] t (0, 0))) :
    W.cell? ⟨b, 0, none⟩ = some u0 ∧ W.cell? ⟨b, 1, none⟩ = some u1 ∧ W.cell? ⟨b, 2, none⟩ = some u2 ∧ W.cell? ⟨b, 3, none⟩ = some u3 ∧ W.cell? ⟨b, 4, none⟩ = some u4 ∧ W.cell? ⟨b, 5, none⟩ = some u5 ∧ W.cell? ⟨b, 6, none⟩ = some u6 ∧ W.cell? ⟨b, 7, none⟩ = some u7 ∧ W.cell? ⟨b, 8, none⟩ = some u8 ∧ (∀ j, W.frozen? ⟨b, j, none⟩ = false) :=
  ⟨by rw [cell_of_row _ _ 0 _ _ (0, 0) h]; rfl, by rw [cell_of_row _ _ 1 _ _ (0, 0) h]; rfl, by rw [cell_of_row _ _ 2 _ _ (0, 0) h]; rfl, by rw [cell_of_row _ _ 3 _ _ (0, 0) h]; rfl, by rw [cell_of_row _ _ 4 _ _ (0, 0) h]; rfl, by rw [cell_of_row _ _ 5 _ _ (0, 0) h]; rfl, by rw [cell_of_row _ _ 6 _ _ (0, 0) h]; rfl, by rw [cell_of_row _ _ 7 _ _ (0, 0) h]; rfl, by rw [cell_of_row _ _ 8 _ _ (0, 0) h]; rfl, fun j => by simp [World.frozen?, h]⟩
theorem set78 {W : World} {b : Nat} {t : TypeId} {u0 u1 u2 u3 u4 u5 u6 u7 u8 : Value} {A' B' : Option Addr} {n' c' m' d' : Nat} (h : W.heap[b]? = some (.cells #[u0, u1, u2, u3, u4, u5, u6, u7, u8] t (0, 0))) :
    ((W.setCell ⟨b, 7, none⟩ (.slice A' n' c')).setCell ⟨b, 8, none⟩ (.slice B' m' d')).heap[b]? = some (.cells #[u0, u1, u2, u3, u4, u5, u6, .slice A' n' c', .slice B' m' d'] t (0, 0)) := by
  simp only [World.setCell, Array.getElem?_modify, h]
  simp
theorem set78_ne (W : World) (k b : Nat) (u v : Value) (h : k ≠ b) : ((W.setCell ⟨b, 7, none⟩ u).setCell ⟨b, 8, none⟩ v).heap[k]? = W.heap[k]? :=
  (Below.heap_setCell _ ⟨b, 8, none⟩ v k h).trans (Below.heap_setCell W ⟨b, 7, none⟩ u k h)
theorem set78_kx (W : World) (b : Nat) (u v : Value) : Kx (fun j => j = b) W ((W.setCell ⟨b, 7, none⟩ u).setCell ⟨b, 8, none⟩ v) := kx_setg (kx_setg (Kx.refl _ W) 7 u) 8 v
theorem own_bd {W : World} {base e sz n c : Nat} {A : Option Addr} {xs : List Value} (h : W.ownsRow base e sz (.slice A n c) n xs) : ∀ a, A = some a → base ≤ a.block ∧ a.block < W.heap.size := by
  rcases h.2 with ⟨h1, h2⟩ | ⟨g, cap, cur, h1, h2, h3, _⟩
  · simp only [Value.slice.injEq] at h1
    obtain ⟨rfl, _⟩ := h1
    exact fun a ha => by simp at ha
  · simp only [Value.slice.injEq, true_and] at h1
    obtain ⟨rfl, _⟩ := h1
    exact fun a ha => by injection ha with ha; subst ha; exact ⟨h2, (Array.getElem?_eq_some_iff.1 h3).1⟩
def put9 (W : World) (b : Nat) (v0 v1 v2 v3 v4 v5 v6 v7 v8 : Value) : World :=
  ((((((((W.setCell ⟨b, 0, none⟩ v0).setCell ⟨b, 1, none⟩ v1).setCell ⟨b, 2, none⟩ v2).setCell ⟨b, 3, none⟩ v3).setCell ⟨b, 4, none⟩ v4).setCell ⟨b, 5, none⟩ v5).setCell ⟨b, 6, none⟩ v6).setCell ⟨b, 7, none⟩ v7).setCell ⟨b, 8, none⟩ v8
theorem set9 {W : World} {b : Nat} {t : TypeId} {u0 u1 u2 u3 u4 u5 u6 u7 u8 v0 v1 v2 v3 v4 v5 v6 v7 v8 : Value} (h : W.heap[b]? = some (.cells #[u0, u1, u2, u3, u4, u5, u6, u7, u8] t (0, 0))) :
    (put9 W b v0 v1 v2 v3 v4 v5 v6 v7 v8).heap[b]? = some (.cells #[v0, v1, v2, v3, v4, v5, v6, v7, v8] t (0, 0)) := by
  unfold put9
  simp only [World.setCell, Array.getElem?_modify, h]
  simp
theorem kx9 (W : World) (b : Nat) (v0 v1 v2 v3 v4 v5 v6 v7 v8 : Value) : Kx (fun j => j = b) W (put9 W b v0 v1 v2 v3 v4 v5 v6 v7 v8) :=
  kx_setg (kx_setg (kx_setg (kx_setg (kx_setg (kx_setg (kx_setg (kx_setg (kx_setg (Kx.refl _ W) 0 v0) 1 v1) 2 v2) 3 v3) 4 v4) 5 v5) 6 v6) 7 v7) 8 v8
end Go.Proofs.YtojbldoekalbnaaGreat
