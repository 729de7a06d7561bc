/-
  Contract of the function that Bearings hands to kruskal: it notes down the link; conditions: the row noted down so far is of the call's own.
-/
import Derived.Test.YtojbldoekalbnaaGreatTPlan
namespace Go.Proofs.YtojbldoekalbnaaGreat
open Go.RowKit
/-- The box bo holds a row of one's own that reads T. -/
def Noted (W : World) (base bo : Nat) (T : List Int) : Prop := ∃ A c, W.heap[bo]? = some (.cells #[.slice A T.length c] 22 (0, 0)) ∧ W.ownsRow base 3 1 (.slice A T.length c) T.length (T.flatMap intE)
theorem Noted.nil {W : World} {base bo : Nat} (h : W.heap[bo]? = some (.cells #[.slice none 0 0] 22 (0, 0))) : Noted W base bo [] := ⟨none, 0, h, World.ownsRow_nil _ _ _ _⟩
theorem own_of_kx {W W' : World} {base e sz n : Nat} {v : Value} {xs : List Value} {S : Nat → Prop} (h : W.ownsRow base e sz v n xs) (hk : Kx S W W') (hs : ∀ j, base ≤ j → ¬ S j) : W'.ownsRow base e sz v n xs := by
  refine ⟨h.1, ?_⟩
  rcases h.2 with h3 | ⟨g, cap, cur, e, hb, hh, r⟩
  · exact .inl h3
  · exact .inr ⟨g, cap, cur, e, hb, (hk.block g (Array.getElem?_eq_some_iff.1 hh).1 (hs g hb)).trans hh, r⟩
theorem Noted.kx {W W' : World} {base bo : Nat} {T : List Int} {S : Nat → Prop} (h : Noted W base bo T) (hk : Kx S W W') (hb : ¬ S bo) (hs : ∀ j, base ≤ j → ¬ S j) : Noted W' base bo T := by
  obtain ⟨A, c, h1, h2⟩ := h
  exact ⟨A, c, (hk.block bo (Array.getElem?_eq_some_iff.1 h1).1 hb).trans h1, own_of_kx h2 hk hs⟩
theorem cells1 {W : World} {b : Nat} {t : TypeId} {u0 : Value} (h : W.heap[b]? = some (.cells #[u0] t (0, 0))) :
    W.cell? ⟨b, 0, none⟩ = some u0 ∧ (∀ j, W.frozen? ⟨b, j, none⟩ = false) :=
  ⟨by rw [cell_of_row _ _ 0 _ _ (0, 0) h]; rfl, fun j => by simp [World.frozen?, h]⟩
theorem own_ge {W : World} {base e sz n j : Nat} {v : Value} {xs : List Value} (h : W.ownsRow base e sz v n xs) (hj : v.ownBlock = some j) : base ≤ j := by
  rcases h.2 with ⟨rfl, _⟩ | ⟨g, cap, cur, rfl, h2, _⟩
  · simp [Value.ownBlock] at hj
  · simp [Value.ownBlock] at hj; omega
theorem own_kx {W w2 : World} {o : Obj} {base e sz n : Nat} {v : Value} {xs : List Value} (h : W.ownsRow base e sz v n xs) (hg : (W.alloc o).grownBy w2 v.ownBlock) : Kx (fun j => base ≤ j) W w2 :=
  ((Kx.refl _ W).below (below_new W o)).grown hg (fun _ hj => .inl (own_ge h hj))
set_option maxRecDepth 8000 in
set_option maxHeartbeats 4000000 in
theorem bcb_any (base bo bn : Nat) (sp : Value) (i notes : Int) (T : List Int) (w : World) (hJ : Noted w base bo T) (hbo : bo < base) (hbn : bn < base) (hne : bn ≠ bo) (hb : base ≤ w.heap.size) (hn : w.heap[bn]? = some (.cells #[.int .i64 notes] 3 (0, 0))) (hT : T.length ≤ 512) (h1 : 1 ≤ notes) (h2 : notes ≤ 64) :
    Calls Tryz.prog 53 #[.int .i64 i, sp, .pointer (some ⟨bo, 0, none⟩), .pointer (some ⟨bn, 0, none⟩)] w
      fun e w' => e = .returned (.bool (decide (((T.length + 1 : Nat) : Int) = notes - 1))) ∧ Noted w' base bo (T ++ [i]) ∧ Kx (fun j => j = bo ∨ base ≤ j) w w' := by
  refine calls_cps ?_
  intro R hR
  obtain ⟨A, c, hc, ho⟩ := hJ
  have c0 : w.cell? ⟨bo, 0, none⟩ = some (.slice A T.length c) := by rw [cell_of_row _ _ 0 _ _ (0, 0) hc]; rfl
  have f0 : ∀ j, w.frozen? ⟨bo, j, none⟩ = false := fun j => by simp [World.frozen?, hc]
  have Hc := Lib.hid hc
  have Ho := Lib.hid ho
  have Hn := Lib.hid hn
  have hbl : bo < w.heap.size := by omega
  clear hc ho hn
  go_enter Tryz.func53, Tryz.ntmps53
  have n0 : w.cell? ⟨bn, 0, none⟩ = some (.int .i64 notes) := by rw [cell_of_row _ _ 0 _ _ (0, 0) Hn.out]; rfl
  have hu : IntKind.i64.wrap (notes - 1) = notes - 1 := IntWalk.i64_in _ (by omega)
  have hi : ((T.length + 1 : Nat) : Int) = (T.length : Int) + 1 := by omega
  go_wp2_with (at_builtin; refine wpList_app rfl (.tmp 7) (.tmp 9) _ rfl elemInt base _ _ _ rfl (Ho.out.kept (World.grownBy_alloc w _ none) (by cases (Value.slice A T.length c).ownBlock <;> simp)) _ _ _ _ rfl (Sl.new _ _ _ 1 1 rfl) (by simp [Value.oneCell']) (by unfold maxLen; omega) (by omega) (by simp; omega) ?_; intro A1 c1 w2 ho2 hg2 _; have hk2 := own_kx Ho.out hg2; have hc2 := (hk2.block bo hbl (by omega)).trans Hc.out; obtain ⟨g0, g1⟩ := cells1 hc2; have hn2 := (hk2.block bn (by omega) (by omega)).trans Hn.out; have n2 := (cells1 hn2).1; have Hc2 := Lib.hid hc2; have Hk2 := Lib.hid hk2; have Ho2 := Lib.hid ho2; clear ho2 hg2 hc2 hk2 hn2 c0 f0 n0)
  have hk3 : Kx (fun j => j = bo) w2 (w2.setCell ⟨bo, 0, none⟩ (.slice A1 (T.length + 1) c1)) := kx_setb _ _ _ _
  refine hR.out _ _ ⟨ret_bool ?_, ⟨A1, c1, ?_, ?_⟩, ?_⟩
  · rw [hi]; rfl
  · rw [List.length_append]
    have := Hc2.out
    simp only [World.setCell, Array.getElem?_modify, this]
    simp
  · rw [List.length_append, List.flatMap_append]
    exact own_of_kx Ho2.out hk3 (fun j hj e => by omega)
  · exact ((Hk2.out.mono (fun j hj => .inr hj)).trans hk3 (fun j _ hj => .inl hj))
end Go.Proofs.YtojbldoekalbnaaGreat
