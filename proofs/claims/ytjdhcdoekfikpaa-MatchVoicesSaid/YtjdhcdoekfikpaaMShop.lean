/-
  The contract of the law's shop: copies of the first jacks and quills; condition: both lists read.
-/
import Derived.Test.YtjdhcdoekfikpaaMTblR
import Derived.Deep.AppendSrc
namespace Go.Proofs.Ytjdhcdoekfikpaa
open Go.RowKit

theorem app_empty {P : Program} (w : World) {t e : TypeId} {sz bytes : Nat} (hE : ElemOk P t e sz bytes) (ty : TypeId) (a : Addr) (A : Option Addr) (m c : Nat) (news : List Value) (hr : Sl w sz A m news) (h1 : ∀ u ∈ news, u.oneCell' = true)
    (h63 : m ≤ maxLen) (hbytes : m * bytes ≤ 140737488355328) :
    ∃ A' c' w', (Builtin.append_ #[t, t] ty #[.slice (some a) 0 0, .slice A m c]).run P w = .ok (.slice A' m c') w' ∧ Sl w' sz A' m news ∧ (0 < m → ∀ x, A' = some x → w.heap.size ≤ x.block) ∧ m ≤ c' ∧ c' ≤ 9223372036854775807 ∧ Below w.heap.size w w' := by
  by_cases h0 : m = 0
  · subst h0
    have hn : news = [] := List.eq_nil_of_length_eq_zero (by simpa using hr.1)
    subst hn
    obtain ⟨ht, i, z, hi, hz, hsize, hby, hzs, hsz⟩ := hE
    refine ⟨some a, 0, w, ?_, Sl.nil _ _ _, fun h => absurd h (by omega), Nat.le_refl _, by omega, Below.refl _ _⟩
    cases A with
    | none => simp [Builtin.append_, run_underlying ht, sizeOf, typeInfo, hi, Builtin.lenOf, Builtin.firstCells, storeCells]
    | some ad => simp [Builtin.append_, run_underlying ht, sizeOf, typeInfo, hi, Builtin.lenOf, Builtin.firstCells, storeCells, loadCells, loadCellsFrom]
  · obtain ⟨ht, i, z, hi, hz, hsize, hby, hzs, hsz⟩ := hE
    subst hsize
    obtain ⟨b, o, rfl, hb, hc⟩ := hr.2 (by omega)
    have hsrc : Src P i.size t (.slice (some ⟨b, o, none⟩) m c) m news w := Src.ofSlice w ht ⟨b, o, none⟩ m c news hr.1 (fun j u hu => by
      have hadd : (⟨b, o, none⟩ : Addr).add j = ⟨b, o + j, none⟩ := by unfold Addr.add; split <;> simp_all
      rw [hadd]; exact hc j u hu) h1
    have hrun := run_append_grow_src (P := P) w t t ty e i z ht hi hz (some a) 0 0 [] (run_firstCells_some w.drew i.size 0 a 0 0 [] (by simp) (fun j v h => by simp at h)) (.slice (some ⟨b, o, none⟩) m c) m news hsrc (by omega) (by unfold maxLen at h63; omega) (by rw [Nat.zero_add, hby]; exact growslice_fits (by omega) hbytes)
    rw [Nat.zero_add, List.nil_append] at hrun
    have hge := grownCap_ge w m 0 e
    have hle := grownCap_le_maxLen w m 0 e (by unfold maxLen at h63 ⊢; omega)
    refine ⟨_, _, _, hrun, ⟨hr.1, fun _ => ⟨w.heap.size, 0, rfl, by rw [World.size_alloc]; exact Nat.lt_succ_self _, fun j u hu => ?_⟩⟩, fun _ x hx => by injection hx with hx; subst hx; exact Nat.le_refl _, hge, hle, (Below.refl _ _).drew.alloc (Nat.le_refl _) _⟩
    rw [Nat.zero_add]
    have hh := heap_alloc_new w.drew (.cells (news.toArray ++ Builtin.zeroCells z.cells (grownCap w m 0 e - m)) e)
    rw [show w.drew.heap.size = w.heap.size from rfl] at hh
    rw [cell_of_row _ _ j _ e (0, 0) hh, Array.getElem?_append_left (by have := (List.getElem?_eq_some_iff.1 hu).1; simpa using this)]
    simpa using hu
theorem step_emp {P : Program} {w : World} {ops : Array Oper} {o : Oper} {a : Act} {K : Act → World → Prop} {Q : Exit → Act → World → Prop} {E : Prop} (hgd : o.guard = none) (s x : Operand) (t : TypeId)
    (ho : o.op = .call { callee := .builtin .append, args := #[s, x], argTypes := #[t, t] })
    {e : TypeId} {sz bytes : Nat} (hE : ElemOk P t e sz bytes) (ad : Addr) (hs : a.eval s = .slice (some ad) 0 0) (A : Option Addr) (m c : Nat) (news : List Value) (hx : a.eval x = .slice A m c) (hr : Sl w sz A m news) (h1 : ∀ u ∈ news, u.oneCell' = true)
    (h63 : m ≤ maxLen) (hbytes : m * bytes ≤ 140737488355328)
    (h : ∀ A' c' w', Sl w' sz A' m news → (0 < m → ∀ x, A' = some x → w.heap.size ≤ x.block) → m ≤ c' → c' ≤ 9223372036854775807 → Below w.heap.size w w' → K (a.put o.dst (.slice A' m c')) w') : if Region.wanted o (yielded ops a.tmps) = true then Oper.wp P o a w K Q else E := by
  have hw : Region.wanted o (yielded ops a.tmps) = true := by simp [Region.wanted, hgd]
  rw [if_pos hw]
  obtain ⟨A', c', w', hrun, g1, g2, g3, g4, g5⟩ := app_empty (P := P) w hE o.type ad A m c news hr h1 h63 hbytes
  unfold Oper.wp execOp
  simp only [ho, resolve, invoke, builtin, Sem.run_bind, Sem.run_pure, Result.andThen_ok, List.map_toArray, List.map_cons, List.map_nil, hs, hx, hrun]
  exact h A' c' w' g1 g2 g3 g4 g5
theorem below_al {w W : World} (h : Below w.heap.size w W) (o : Obj) : Below w.heap.size w (W.alloc o) := h.alloc h.size o
theorem step_empB {P : Program} {w w5 : World} {ops : Array Oper} {o : Oper} {a : Act} {K : Act → World → Prop} {Q : Exit → Act → World → Prop} {E : Prop} (hgd : o.guard = none) (s x : Operand) (t : TypeId)
    (ho : o.op = .call { callee := .builtin .append, args := #[s, x], argTypes := #[t, t] })
    {e : TypeId} {sz bytes : Nat} (hE : ElemOk P t e sz bytes) (hs : ∃ ad, a.eval s = Value.slice (some ad) 0 0) (A : Option Addr) (m c : Nat) (news : List Value) (hx : a.eval x = .slice A m c) (hr : ∀ W, Below w5.heap.size w5 W → Sl W sz A m news) (h1 : ∀ u ∈ news, u.oneCell' = true)
    (h63 : m ≤ maxLen) (hbytes : m * bytes ≤ 140737488355328) (h0 : Below w5.heap.size w5 w)
    (h : ∀ A' c' w', Sl w' sz A' m news → (0 < m → ∀ x, A' = some x → w5.heap.size ≤ x.block) → m ≤ c' → c' ≤ 9223372036854775807 → Below w.heap.size w w' → Below w5.heap.size w5 w' → K (a.put o.dst (.slice A' m c')) w') : if Region.wanted o (yielded ops a.tmps) = true then Oper.wp P o a w K Q else E :=
  let ⟨ad, hs⟩ := hs
  step_emp hgd s x t ho hE ad hs A m c news hx (hr w h0) h1 h63 hbytes fun A' c' w' g1 g2 g3 g4 g5 => h A' c' w' g1 (fun hm y hy => Nat.le_trans h0.size (g2 hm y hy)) g3 g4 g5 (h0.trans (g5.mono h0.size))
theorem pr_one (l : List (Int × Int)) : ∀ u ∈ l.flatMap prE, u.oneCell' = true := by
  intro u hu
  obtain ⟨x, _, hx⟩ := List.mem_flatMap.1 hu
  simp only [prE, List.mem_cons, List.not_mem_nil, or_false] at hx
  rcases hx with rfl | rfl <;> rfl
theorem slP_cut {w : World} {A : Option Addr} {n k : Nat} {l : List (Int × Int)} (h : SlE prE 2 w A n l) (hk : k ≤ n) : SlE prE 2 w A k (l.take k) := by
  refine ⟨by rw [List.length_take, ← h.1]; omega, by rw [flat_length prE_len, List.length_take, ← h.1, Nat.min_eq_left hk], fun h0 => ?_⟩
  obtain ⟨b, o, hA, hb, hc⟩ := h.2.2 (by omega)
  refine ⟨b, o, hA, hb, fun j u hu => hc j u ?_⟩
  rw [← List.take_append_drop k l, List.flatMap_append, List.getElem?_append_left (List.getElem?_eq_some_iff.1 hu).1]
  exact hu
theorem elemJack : ElemOk Try.prog 53 69 2 16 := ElemOk.of (z := .agg #[.int .i64 0, .int .i64 0]) Try.underlying53 (by kernel_rfl) rfl (by omega)
theorem elemQuill : ElemOk Try.prog 54 67 2 16 := ElemOk.of (z := .agg #[.int .i64 0, .int .i64 0]) Try.underlying54 (by kernel_rfl) rfl (by omega)
theorem slP_kx {S : Nat → Prop} {W W' : World} {A : Option Addr} {n : Nat} {l : List (Int × Int)} (h : SlE prE 2 W A n l) (hk : Kx S W W') (hs : 0 < n → ∀ a, A = some a → ¬ S a.block) : SlE prE 2 W' A n l :=
  ⟨h.1, h.2.1, fun hn => by
    obtain ⟨b, o, e, hb, hc⟩ := h.2.2 hn
    exact ⟨b, o, e, Nat.lt_of_lt_of_le hb hk.size, fun j u hu => (World.cell?_of_block (w := W) (hk.block b hb (hs hn _ e))).trans (hc j u hu)⟩⟩
/-- The shop's box, under way. -/
def ShSt (w wx : World) (v0 v1 : Value) (be tr : Int) : Prop := wx.heap[w.heap.size]? = some (.cells #[v0, v1, .int .i64 be, .int .i64 tr] 56 (0, 0)) ∧ wx.heap[w.heap.size + 1]? = some (.cells #[.slice none 0 0, .slice none 0 0, .int .i64 0, .int .i64 0] 56 (0, 0)) ∧ wx.heap.size = w.heap.size + 2 ∧ Below w.heap.size w wx
theorem shSt_new (w : World) (v0 v1 : Value) (be tr : Int) : ShSt w ((w.alloc (.cells #[v0, v1, .int .i64 be, .int .i64 tr] 56)).alloc (.cells #[.slice none 0 0, .slice none 0 0, .int .i64 0, .int .i64 0] 56)) v0 v1 be tr := by
  have h2 := heap_alloc_new (w.alloc (.cells #[v0, v1, .int .i64 be, .int .i64 tr] 56)) (.cells #[.slice none 0 0, .slice none 0 0, .int .i64 0, .int .i64 0] 56)
  rw [World.size_alloc] at h2
  exact ⟨((below_new (w.alloc (.cells #[v0, v1, .int .i64 be, .int .i64 tr] 56)) (.cells #[.slice none 0 0, .slice none 0 0, .int .i64 0, .int .i64 0] 56)).block _ (by simp)).trans (heap_alloc_new w _), h2, by rw [World.size_alloc, World.size_alloc], below_two w _ _⟩
theorem ShSt.set0 {w wx : World} {v0 v1 : Value} {be tr : Int} (h : ShSt w wx v0 v1 be tr) (v : Value) : ShSt w (wx.setCell ⟨w.heap.size, 0, none⟩ v) v v1 be tr :=
  ⟨by simp [World.setCell, Array.getElem?_modify, h.1], (Below.heap_setCell wx ⟨w.heap.size, 0, none⟩ v (w.heap.size + 1) (by dsimp only; omega)).trans h.2.1, by simp [World.setCell, h.2.2.1], h.2.2.2.setCell (Nat.le_refl _) _⟩
theorem ShSt.set1 {w wx : World} {v0 v1 : Value} {be tr : Int} (h : ShSt w wx v0 v1 be tr) (v : Value) : ShSt w (wx.setCell ⟨w.heap.size, 1, none⟩ v) v0 v be tr :=
  ⟨by simp [World.setCell, Array.getElem?_modify, h.1], (Below.heap_setCell wx ⟨w.heap.size, 1, none⟩ v (w.heap.size + 1) (by dsimp only; omega)).trans h.2.1, by simp [World.setCell, h.2.2.1], h.2.2.2.setCell (Nat.le_refl _) _⟩
theorem below_step {a b c : World} (h : Below a.heap.size a b) (k : Below b.heap.size b c) : Below a.heap.size a c := h.trans (k.mono h.size)
theorem kx_set1 (W : World) (g k : Nat) (v : Value) : Kx (fun j => j = g) W (W.setCell ⟨g, k, none⟩ v) :=
  ⟨rfl, rfl, rfl, by simp [World.setCell], fun j _ hn => Below.heap_setCell W ⟨g, k, none⟩ v j (fun e => hn e)⟩
theorem kx_two (W : World) (g k k' : Nat) (v v' : Value) : Kx (fun j => j = g) W ((W.setCell ⟨g, k, none⟩ v).setCell ⟨g, k', none⟩ v') := (kx_set1 W g k v).trans (kx_set1 _ g k' v') (fun _ _ h => h)
theorem shop_mk {w w5 wA wB : World} {A1 A2 B1 B2 : Option Addr} {k1 k2 c1 c2 d1 d2 : Nat} {l1 l2 : List (Int × Int)} {be tr : Int} (hl1 : l1.length = k1) (hl2 : l2.length = k2) (h5 : ShSt w w5 (.slice A1 k1 c1) (.slice A2 k2 c2) be tr)
    (sA : Sl wA 2 B1 k1 (l1.flatMap prE)) (fA : 0 < k1 → ∀ x, B1 = some x → w5.heap.size ≤ x.block) (gA : k1 ≤ d1) (uA : d1 ≤ 9223372036854775807) (sB : Sl wB 2 B2 k2 (l2.flatMap prE)) (fB : 0 < k2 → ∀ x, B2 = some x → w5.heap.size ≤ x.block) (gB : k2 ≤ d2) (uB : d2 ≤ 9223372036854775807)
    (hAB : Below wA.heap.size wA wB) (hB : Below w5.heap.size w5 wB) :
    ∃ B1' B2' d1' d2', ((wB.setCell ⟨w.heap.size, 0, none⟩ (.slice B1 k1 d1)).setCell ⟨w.heap.size, 1, none⟩ (.slice B2 k2 d2)).heap[w.heap.size]? = some (.cells #[.slice B1' k1 d1', .slice B2' k2 d2', .int .i64 be, .int .i64 tr] 56 (0, 0)) ∧
      ((wB.setCell ⟨w.heap.size, 0, none⟩ (.slice B1 k1 d1)).setCell ⟨w.heap.size, 1, none⟩ (.slice B2 k2 d2)).heap[w.heap.size + 1]? = some (.cells #[.slice none 0 0, .slice none 0 0, .int .i64 0, .int .i64 0] 56 (0, 0)) ∧
      (SlE prE 2 ((wB.setCell ⟨w.heap.size, 0, none⟩ (.slice B1 k1 d1)).setCell ⟨w.heap.size, 1, none⟩ (.slice B2 k2 d2)) B1' k1 l1 ∧ k1 ≤ d1' ∧ d1' ≤ 9223372036854775807 ∧ (0 < k1 → ∀ a, B1' = some a → w.heap.size + 2 ≤ a.block)) ∧
      (SlE prE 2 ((wB.setCell ⟨w.heap.size, 0, none⟩ (.slice B1 k1 d1)).setCell ⟨w.heap.size, 1, none⟩ (.slice B2 k2 d2)) B2' k2 l2 ∧ k2 ≤ d2' ∧ d2' ≤ 9223372036854775807 ∧ (0 < k2 → ∀ a, B2' = some a → w.heap.size + 2 ≤ a.block)) ∧
      Below w.heap.size w ((wB.setCell ⟨w.heap.size, 0, none⟩ (.slice B1 k1 d1)).setCell ⟨w.heap.size, 1, none⟩ (.slice B2 k2 d2)) := by
  obtain ⟨x1, x2, x3, x4⟩ := h5
  rw [x3] at fA fB
  have hg := (hB.block w.heap.size (by rw [x3]; omega)).trans x1
  have hz := (hB.block (w.heap.size + 1) (by rw [x3]; omega)).trans x2
  have hk := kx_two wB w.heap.size 0 1 (.slice B1 k1 d1) (.slice B2 k2 d2)
  refine ⟨B1, B2, d1, d2, by simp [World.setCell, Array.getElem?_modify, hg], (hk.block _ (Array.getElem?_eq_some_iff.1 hz).1 (by omega)).trans hz, ⟨slP_kx (SlE.below ⟨hl1.symm, sA⟩ hAB) hk (fun h a ha e => by have := fA h a ha; omega), gA, uA, fA⟩,
    ⟨slP_kx ⟨hl2.symm, sB⟩ hk (fun h a ha e => by have := fB h a ha; omega), gB, uB, fB⟩, Kx.low (x4.trans (hB.mono x4.size)) hk (fun j hj => by subst hj; exact Nat.le_refl _) (x4.trans (hB.mono x4.size)).size⟩
set_option maxRecDepth 100000 in
set_option maxHeartbeats 8000000 in
theorem shop_any (A1 A2 : Option Addr) (n1 n2 c1 c2 : Nat) (js qs : List (Int × Int)) (be tr : Int) (w : World) (h1 : SlE prE 2 w A1 n1 js) (h2 : SlE prE 2 w A2 n2 qs) (hn1 : n1 ≤ c1) (hn2 : n2 ≤ c2) (hc1 : c1 ≤ 9223372036854775807) (hc2 : c2 ≤ 9223372036854775807) :
    Calls Try.prog 37 #[.agg #[.slice A1 n1 c1, .slice A2 n2 c2, .int .i64 be, .int .i64 tr]] w fun e w' => ∃ B1 B2 d1 d2, e = .returned (.agg #[.slice B1 (js.take 66).length d1, .slice B2 (qs.take 66).length d2, .int .i64 be, .int .i64 tr]) ∧
      (SlE prE 2 w' B1 (js.take 66).length (js.take 66) ∧ (js.take 66).length ≤ d1 ∧ d1 ≤ 9223372036854775807) ∧ (SlE prE 2 w' B2 (qs.take 66).length (qs.take 66) ∧ (qs.take 66).length ≤ d2 ∧ d2 ≤ 9223372036854775807) ∧ Below w.heap.size w w' := by
  refine calls_cps ?_
  intro R hR
  obtain ⟨k1, hk1⟩ : ∃ k, (js.take 66).length = k := ⟨_, rfl⟩
  obtain ⟨k2, hk2⟩ : ∃ k, (qs.take 66).length = k := ⟨_, rfl⟩
  rw [hk1, hk2] at hR
  have hke1 : k1 = min 66 n1 := by rw [← hk1, List.length_take, h1.1]
  have hke2 : k2 = min 66 n2 := by rw [← hk2, List.length_take, h2.1]
  have Hs1 := Lib.hid (show SlE prE 2 w A1 k1 (js.take 66) from by
    by_cases h : 66 ≤ n1
    · have := slP_cut h1 h
      rwa [show k1 = 66 by omega]
    · rw [List.take_of_length_le (by rw [← h1.1]; omega), show k1 = n1 by omega]; exact h1)
  have Hs2 := Lib.hid (show SlE prE 2 w A2 k2 (qs.take 66) from by
    by_cases h : 66 ≤ n2
    · have := slP_cut h2 h
      rwa [show k2 = 66 by omega]
    · rw [List.take_of_length_le (by rw [← h2.1]; omega), show k2 = n2 by omega]; exact h2)
  have hkc1 : k1 ≤ c1 := by omega
  have hkc2 : k2 ≤ c2 := by omega
  have hk66 : k1 ≤ 66 ∧ k2 ≤ 66 := by omega
  have Hk1 := Lib.hid hk1
  have Hk2 := Lib.hid hk2
  have H0 := Lib.hid (shSt_new w (.slice A1 n1 c1) (.slice A2 n2 c2) be tr)
  obtain ⟨r0, r1, r2, r3, r4⟩ := cells4 H0.out.1
  have Hke1 := Lib.hid hke1
  have Hke2 := Lib.hid hke2
  clear hk1 hk2 h1 h2 hke1 hke2
  go_enter Try.func37, Try.ntmps37
  go_upto_if 6 with fail
  go_cut [1] (fun s1 wx => s1 = .pointer (some ⟨w.heap.size, 0, none⟩) ∧ ShSt w wx (.slice A1 k1 c1) (.slice A2 n2 c2) be tr)
  case first =>
    by_cases h66 : 66 < n1
    · have i1 : (66 : Int) < (n1 : Int) := by omega
      have i2 : (66 : Int) ≤ (c1 : Int) := by omega
      have he : k1 = 66 := by rw [Hke1.out]; omega
      subst he
      go_wp2_with fail
      go_meet
      exact ⟨rfl, shSt_new w _ _ be tr⟩
    · have i1 : (n1 : Int) ≤ 66 := by omega
      have he : k1 = n1 := by rw [Hke1.out]; omega
      subst he
      go_wp2_with fail
      go_meet
      exact ⟨rfl, H0.out⟩
  case rest =>
    obtain ⟨e1, hS⟩ := hcut
    subst e1
    obtain ⟨w3, rfl⟩ : ∃ w3 : World, w3 = wc := ⟨_, rfl⟩
    have H3 := Lib.hid hS
    clear r0 r1 r2 r3 r4 hS
    obtain ⟨r0, r1, r2, r3, r4⟩ := cells4 H3.out.1
    go_upto_if 14 with fail
    go_cut [1] (fun s1 wx => s1 = .pointer (some ⟨w.heap.size, 0, none⟩) ∧ ShSt w wx (.slice A1 k1 c1) (.slice A2 k2 c2) be tr)
    case first =>
      by_cases h66 : 66 < n2
      · have i1 : (66 : Int) < (n2 : Int) := by omega
        have i2 : (66 : Int) ≤ (c2 : Int) := by omega
        have he : k2 = 66 := by rw [Hke2.out]; omega
        subst he
        have HS := Lib.hid (H3.out.set1 (.slice A2 66 c2))
        go_wp2_with fail
        go_meet
        exact ⟨rfl, HS.out⟩
      · have i1 : (n2 : Int) ≤ 66 := by omega
        have he : k2 = n2 := by rw [Hke2.out]; omega
        subst he
        go_wp2_with fail
        go_meet
        exact ⟨rfl, H3.out⟩
    case rest =>
      obtain ⟨e1, hS⟩ := hcut
      subst e1
      obtain ⟨w5, rfl⟩ : ∃ w5 : World, w5 = wc := ⟨_, rfl⟩
      have H5 := Lib.hid hS
      clear r0 r1 r2 r3 r4 hS
      obtain ⟨r0, r1, r2, r3, r4⟩ := cells4 H5.out.1
      go_upto_region 5 with fail
      go_cut [1] (fun s1 wx => s1 = .pointer (some ⟨w.heap.size, 0, none⟩) ∧ ∃ B1 B2 d1 d2, wx.heap[w.heap.size]? = some (.cells #[.slice B1 k1 d1, .slice B2 k2 d2, .int .i64 be, .int .i64 tr] 56 (0, 0)) ∧ wx.heap[w.heap.size + 1]? = some (.cells #[.slice none 0 0, .slice none 0 0, .int .i64 0, .int .i64 0] 56 (0, 0)) ∧
        (SlE prE 2 wx B1 k1 (js.take 66) ∧ k1 ≤ d1 ∧ d1 ≤ 9223372036854775807 ∧ (0 < k1 → ∀ a, B1 = some a → w.heap.size + 2 ≤ a.block)) ∧ (SlE prE 2 wx B2 k2 (qs.take 66) ∧ k2 ≤ d2 ∧ d2 ≤ 9223372036854775807 ∧ (0 < k2 → ∀ a, B2 = some a → w.heap.size + 2 ≤ a.block)) ∧ Below w.heap.size w wx)
      case first =>
        have Hsz5 := Lib.hid H5.out.2.2.1
        have hsz5 : w.heap.size < w5.heap.size := by rw [Hsz5.out]; omega
        have HB5 := Lib.hid H5.out.2.2.2
        have Hq1 := Lib.hid (show ∀ W, Below w5.heap.size w5 W → Sl W 2 A1 k1 ((js.take 66).flatMap prE) from fun W hb => (Hs1.out.below (HB5.out.trans (hb.mono HB5.out.size))).2)
        have Hq2 := Lib.hid (show ∀ W, Below w5.heap.size w5 W → Sl W 2 A2 k2 ((qs.take 66).flatMap prE) from fun W hb => (Hs2.out.below (HB5.out.trans (hb.mono HB5.out.size))).2)
        have hb0 : Below w5.heap.size w5 w5.drew := (Below.refl _ _).drew
        have Hcell := Lib.hid (show ∀ W, Below w5.heap.size w5 W → W.cell? ⟨w.heap.size, 0, none⟩ = some (.slice A1 k1 c1) ∧ W.cell? ⟨w.heap.size, 1, none⟩ = some (.slice A2 k2 c2) ∧ (∀ j, W.frozen? ⟨w.heap.size, j, none⟩ = false) from fun W hb => by
          obtain ⟨a0, a1, _, _, a4⟩ := cells4 ((hb.block w.heap.size (by rw [Hsz5.out]; omega)).trans H5.out.1)
          exact ⟨a0, a1, a4⟩)
        go_region_law (first
          | (refine step_empB rfl (.tmp 19) (.tmp 21) 53 rfl elemJack ?_ A1 k1 c1 _ ?_ Hq1.out (pr_one _) (by unfold maxLen; omega) (by omega) ?_ ?_; (· (simp [Act.eval])); (· (simp [Act.eval])); (· (repeat (first | with_reducible exact Below.refl _ _ | with_reducible exact hb0 | with_reducible exact hbA | with_reducible exact hbB | with_reducible refine below_al ?_ _ | with_reducible refine Below.drew ?_))); intro B1 d1 wA sA fA gA uA tA hbA; obtain ⟨pA0, pA1, pAf⟩ := Hcell.out _ hbA; have szA := hbA.size; have yA := Nat.lt_of_lt_of_le hsz5 szA)
          | (refine step_empB rfl (.tmp 23) (.tmp 25) 54 rfl elemQuill ?_ A2 k2 c2 _ ?_ Hq2.out (pr_one _) (by unfold maxLen; omega) (by omega) ?_ ?_; (· (simp [Act.eval, Act.put])); (· (simp [Act.eval, Act.put])); (· (repeat (first | with_reducible exact Below.refl _ _ | with_reducible exact hb0 | with_reducible exact hbA | with_reducible exact hbB | with_reducible refine below_al ?_ _ | with_reducible refine Below.drew ?_))); intro B2 d2 wB sB fB gB uB tB hbB; obtain ⟨pB0, pB1, pBf⟩ := Hcell.out _ hbB; have szB := hbB.size; have yB := Nat.lt_of_lt_of_le hsz5 szB))
        all_goals
          have hAB : Below wA.heap.size wA wB := by
            refine below_step ?_ tB
            repeat (first | with_reducible exact Below.refl _ _ | with_reducible refine below_al ?_ _ | with_reducible refine Below.drew ?_)
          go_wp2_with fail
          go_meet
          exact ⟨rfl, shop_mk Hk1.out Hk2.out H5.out sA fA gA uA sB fB gB uB hAB hbB⟩
      case rest =>
        obtain ⟨e1, B1, B2, d1, d2, hx, hz, ⟨hs1, g1, u1, f1⟩, ⟨hs2, g2, u2, f2⟩, hb⟩ := hcut
        subst e1
        obtain ⟨w6, rfl⟩ : ∃ w6 : World, w6 = wc := ⟨_, rfl⟩
        clear r0 r1 r2 r3 r4
        obtain ⟨r0, r1, r2, r3, r4⟩ := cells4 hx
        obtain ⟨z0, z1, z2, z3, z4⟩ := cells4 hz
        go_wp2_with fail
        have hk : Kx (fun j => j = w.heap.size + 1) w6 ((((w6.setCell ⟨w.heap.size + 1, 0, none⟩ (.slice B1 k1 d1)).setCell ⟨w.heap.size + 1, 1, none⟩ (.slice B2 k2 d2)).setCell ⟨w.heap.size + 1, 2, none⟩ (.int .i64 be)).setCell ⟨w.heap.size + 1, 3, none⟩ (.int .i64 tr)) :=
          (kx_two w6 (w.heap.size + 1) 0 1 _ _).trans (kx_two _ (w.heap.size + 1) 2 3 _ _) (fun _ _ h => h)
        have hrr := Lib.hid (hR.out (.returned (.agg #[.slice B1 k1 d1, .slice B2 k2 d2, .int .i64 be, .int .i64 tr])) _ ⟨B1, B2, d1, d2, rfl, ⟨slP_kx hs1 hk (fun h a ha e => by have := f1 h a ha; omega), g1, u1⟩, ⟨slP_kx hs2 hk (fun h a ha e => by have := f2 h a ha; omega), g2, u2⟩, Kx.low hb hk (fun j hj => by subst hj; exact Nat.le_succ _) hb.size⟩)
        refine bodyPost_ret (v := .agg #[.slice B1 k1 d1, .slice B2 k2 d2, .int .i64 be, .int .i64 tr]) ?_ rfl hrr.out
        simp [results, Try.results37, go_sem, z0, z1, z2, z3]
end Go.Proofs.Ytjdhcdoekfikpaa
