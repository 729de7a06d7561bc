/-
  The contract of clavecinlaw08.PanelSharper: true at every input.
-/
import Derived.Test.YtfkpioibinpfhaaPKit
import Derived.Test.YtfkpioibinpfhaaPTurned
import Derived.Deep.RegionHeld3
namespace Go.Proofs.Ytfkpioibinpfhaa
open Go.RowKit

theorem step_app {P : Program} {w : World} {ops : Array Oper} {o : Oper} {a : Act} {K : Act → World → Prop} {Q : Exit → Act → World → Prop} {E : Prop} (hgd : o.guard = none) (s x : Operand) (t : TypeId)
    (ho : o.op = .call { callee := .builtin .append, args := #[s, x], argTypes := #[t, t] })
    {e : TypeId} {sz bytes : Nat} (hE : ElemOk P t e sz bytes) (base : Nat)
    (v : Value) (n : Nat) (xs : List Value) (hs : a.eval s = v) (hown : w.ownsRow base e sz v n xs) (A : Option Addr) (m c : Nat) (news : List Value) (hx : a.eval x = .slice A m c) (hr : Sl w sz A m news) (h1 : ∀ u ∈ news, u.oneCell' = true)
    (h63 : n + m ≤ maxLen) (hbytes : (n + m) * bytes ≤ 140737488355328) (hbase : base ≤ w.heap.size)
    (h : ∀ A' c' w', w'.ownsRow base e sz (.slice A' (n + m) c') (n + m) (xs ++ news) → w.grownBy w' v.ownBlock → ((Value.slice A' (n + m) c').ownBlock = v.ownBlock ∨ (Value.slice A' (n + m) c').ownBlock = some w.heap.size) →
      K (a.put o.dst (.slice A' (n + m) c')) w') : if Region.wanted o (yielded ops a.tmps) = true then Oper.wp P o a w K Q else E := by
  have hw : Region.wanted o (yielded ops a.tmps) = true := by simp [Region.wanted, hgd]
  rw [if_pos hw]
  exact wp_app s x t ho hE base v n xs hs hown A m c news hx hr h1 h63 hbytes hbase h
/-- The panel behind few, its shapes a row of the call's own, and the box of one shape more. -/
structure Px (w wr : World) (B1 b bm : Nat) (X Y K : Int) (mo : Shp) (A1 : Option Addr) (c1 L : Nat) (cur : List Shp) : Prop where
  own : wr.ownsRow B1 37 4 (.slice A1 L c1) L (cur.flatMap Shp.enc)
  lt : ∀ a, A1 = some a → a.block < b
  box : wr.heap[b]? = some (.cells #[.int .i64 X, .int .i64 Y, .int .i64 K, .slice A1 L c1] 24 (0, 0))
  mbox : wr.heap[bm]? = some (.cells #[.int .i64 mo.W, .int .i64 mo.H, .int .i64 mo.V, .bool mo.T] 37 (0, 0))
  bel : Below w.heap.size w wr
  hB1 : w.heap.size ≤ B1
  hbm : bm < B1
section
variable {w wr W1 : World} {B1 b bm : Nat} {X Y K : Int} {mo : Shp} {A1 : Option Addr} {c1 L : Nat} {cur : List Shp}
theorem Px.below (t : Px w wr B1 b bm X Y K mo A1 c1 L cur) (hb : Below wr.heap.size wr W1) : Px w W1 B1 b bm X Y K mo A1 c1 L cur :=
  ⟨t.own.kept (row := none) ⟨hb.os, hb.tape, hb.output, hb.size, fun k hk _ => hb.block k hk⟩ (by cases (Value.slice A1 L c1).ownBlock <;> simp), t.lt,
   (hb.block b (Array.getElem?_eq_some_iff.1 t.box).1).trans t.box, (hb.block bm (Array.getElem?_eq_some_iff.1 t.mbox).1).trans t.mbox, t.bel.trans (hb.mono t.bel.size), t.hB1, t.hbm⟩
theorem Px.store (t : Px w wr B1 b bm X Y K mo A1 c1 L cur) {g i : Nat} (hA : A1 = some ⟨g, 0, none⟩) {s : Shp} (hs : cur[i]? = some s) :
    Px w (wr.setCell ⟨g, i * 4 + 3, none⟩ (.bool true)) B1 b bm X Y K mo A1 c1 L (cur.set i (freed s)) := by
  subst hA
  obtain ⟨h1, h2⟩ := t.own.stored (i * 4 + 3) (.bool true)
  have hg := t.lt _ rfl
  have hgB := (t.own.lt g (by simp [Value.ownBlock])).1
  rw [enc_freed cur i s hs] at h1
  have hbm := t.hbm
  dsimp only at hg
  exact ⟨h1, t.lt, (Below.heap_setCell wr _ _ _ (by dsimp only; omega)).trans t.box, (Below.heap_setCell wr _ _ _ (by dsimp only; omega)).trans t.mbox, t.bel.setCell (by dsimp only; have := t.hB1; omega) _, t.hB1, t.hbm⟩
theorem Px.alloc (t : Px w wr B1 b bm X Y K mo A1 c1 L cur) (o : Obj) : Px w (wr.alloc o) B1 b bm X Y K mo A1 c1 L cur := t.below (below_new _ _)
theorem Px.drew (t : Px w wr B1 b bm X Y K mo A1 c1 L cur) : Px w wr.drew B1 b bm X Y K mo A1 c1 L cur := t.below ((Below.refl _ _).drew)
theorem Px.S (t : Px w wr B1 b bm X Y K mo A1 c1 L cur) : wr.cell? ⟨b, 3, none⟩ = some (.slice A1 L c1) ∧ wr.cell? ⟨bm, 0, none⟩ = some (.int .i64 mo.W) ∧ wr.cell? ⟨bm, 1, none⟩ = some (.int .i64 mo.H) ∧ wr.cell? ⟨bm, 2, none⟩ = some (.int .i64 mo.V) ∧ wr.cell? ⟨bm, 3, none⟩ = some (.bool mo.T) := by
  obtain ⟨m0, m1, m2, m3, _⟩ := cells4 t.mbox
  exact ⟨(cells4 t.box).2.2.2.1, m0, m1, m2, m3⟩
theorem Px.sl (t : Px w wr B1 b bm X Y K mo A1 c1 L cur) (hL : L = cur.length) : SlE Shp.enc 4 wr A1 L cur := SlE.of_own t.own hL
end
theorem grown_below {B r : Nat} {W0 W W3 : World} (hb : Below B W0 W) (hg : W.grownBy W3 (some r)) (h1 : B ≤ W.heap.size) (h2 : B ≤ r) : Below B W0 W3 :=
  hb.grown hg h1 (fun k hk => by injection hk with hk; omega)
theorem panOk_mk {w h k : Int} {ss : List Shp} (h1 : 1 ≤ w) (h2 : w ≤ 64) (h3 : 1 ≤ h) (h4 : h ≤ 64) (h5 : 0 ≤ k) (h6 : k ≤ 8) (h7 : ss.length ≤ 16) (h8 : ∀ s ∈ ss, (1 ≤ s.W ∧ s.W ≤ 64) ∧ (1 ≤ s.H ∧ s.H ≤ 64) ∧ 0 ≤ s.V ∧ s.V ≤ 1000000) : panOk w h k ss = true := by
  simp only [panOk, inB, Bool.and_eq_true, decide_eq_true_eq, List.all_eq_true, shpOk]
  exact ⟨⟨⟨⟨⟨h1, h2⟩, h3, h4⟩, h5, h6⟩, h7⟩, fun s hs => by have := h8 s hs; omega⟩
set_option maxRecDepth 100000 in
set_option maxHeartbeats 4000000 in
theorem sharper_any (W H K : Int) (mo : Shp) (A : Option Addr) (n c : Nat) (ss : List Shp) (w : World) (hS : SlE Shp.enc 4 w A n ss) (hnc : n ≤ c) (hc : c ≤ 9223372036854775807) :
    Calls Try.prog 5 #[.agg #[.int .i64 W, .int .i64 H, .int .i64 K, .slice A n c], .agg #[.int .i64 mo.W, .int .i64 mo.H, .int .i64 mo.V, .bool mo.T]] w fun e w' => e = .returned (.bool true) ∧ Below w.heap.size w w' := by
  refine calls_cps ?_
  intro R hR
  obtain ⟨s1, es⟩ : ∃ s, ss.take 17 = s := ⟨_, rfl⟩
  obtain ⟨L, hL⟩ : ∃ L, s1.length = L := ⟨_, rfl⟩
  have hLm : L ≤ 17 := by rw [← hL, ← es, List.length_take]; omega
  obtain ⟨W1, eW⟩ : ∃ x, fewV W = x := ⟨_, rfl⟩
  obtain ⟨H1, eH⟩ : ∃ x, fewV H = x := ⟨_, rfl⟩
  have HL := Lib.hid hL
  have Hes := Lib.hid es
  have HW := Lib.hid eW
  have HH := Lib.hid eH
  clear hL es eW eH
  by_cases hp : panOk W1 H1 K s1 = true
  · have Hp := Lib.hid hp
    obtain ⟨hW1, hW2, hH1, hH2, hk0, hk8, hss, hok⟩ := panOk_ok hp
    have hW64 : W1 + 1 ≤ 64 := by
      rw [← HW.out] at hW2 ⊢
      simp only [fewV] at hW2 ⊢
      split at hW2 <;> omega
    obtain ⟨k1, hk1⟩ : ∃ k1, max (K - 1) 0 = k1 := ⟨_, rfl⟩
    have hp1 : panOk W1 H1 k1 s1 = true := panOk_mk hW1 hW2 hH1 hH2 (by omega) (by omega) hss hok
    have hp2 : panOk (W1 + 1) H1 K s1 = true := panOk_mk (by omega) hW64 hH1 hH2 hk0 hk8 hss hok
    have hp3 : panOk W1 H1 K (s1.map freed) = true := panOk_mk hW1 hW2 hH1 hH2 hk0 hk8 (by rw [List.length_map]; exact hss) (by
      intro s hs
      obtain ⟨t, ht, rfl⟩ := List.mem_map.1 hs
      exact hok t ht)
    obtain ⟨v, hv⟩ : ∃ v, val K s1 W1 H1 = v := ⟨_, rfl⟩
    obtain ⟨va, hva⟩ : ∃ v, val k1 s1 W1 H1 = v := ⟨_, rfl⟩
    obtain ⟨vb, hvb⟩ : ∃ v, val K s1 (W1 + 1) H1 = v := ⟨_, rfl⟩
    obtain ⟨vc, hvc⟩ : ∃ v, val K (s1 ++ [mo]) W1 H1 = v := ⟨_, rfl⟩
    obtain ⟨vd, hvd⟩ : ∃ v, val K (s1.map freed) W1 H1 = v := ⟨_, rfl⟩
    have i1 : v ≤ va := by rw [← hv, ← hva]; exact val_more K k1 s1 s1 (by omega) (by omega) (fun s hs => ⟨s, hs, rfl, rfl, rfl, id⟩) _ _
    have i2 : v ≤ vb := by rw [← hv, ← hvb]; exact val_wider hk0 _ _ _ (by omega)
    have i3 : v ≤ vc := by rw [← hv, ← hvc]; exact val_more K K s1 _ hk0 (Int.le_refl _) (fun s hs => ⟨s, List.mem_append_left _ hs, rfl, rfl, rfl, id⟩) _ _
    have i4 : v ≤ vd := by rw [← hv, ← hvd]; exact val_more K K s1 _ hk0 (Int.le_refl _) (fun s hs => ⟨freed s, List.mem_map_of_mem hs, rfl, rfl, rfl, fun _ => rfl⟩) _ _
    have Hk1 := Lib.hid hk1
    have Hp1 := Lib.hid hp1
    have Hp2 := Lib.hid hp2
    have Hp3 := Lib.hid hp3
    have Hv := Lib.hid hv
    have Hva := Lib.hid hva
    have Hvb := Lib.hid hvb
    have Hvc := Lib.hid hvc
    have Hvd := Lib.hid hvd
    have Hok := Lib.hid hok
    clear hk1 hp hp1 hp2 hp3 hv hva hvb hvc hvd hok
    go_enter Try.func5, Try.ntmps5
    go_wp2_with fail
    refine (few_any _ _ _ _ _ _ ss _ ((hS.alloc _).alloc _) hnc hc).mono ?_
    rw [Hes.out, HL.out, HW.out, HH.out]
    rintro e w1 ⟨A1, c1, rfl, ho1, hb1⟩
    have hP : Px w (w1.alloc (.cells #[.int .i64 W1, .int .i64 H1, .int .i64 K, .slice A1 L c1] 24)) (w.heap.size + 1 + 1) w1.heap.size (w.heap.size + 1) W1 H1 K mo A1 c1 L s1 := by
      rw [World.size_alloc, World.size_alloc] at ho1 hb1
      have hm : w1.heap[w.heap.size + 1]? = some (.cells #[.int .i64 mo.W, .int .i64 mo.H, .int .i64 mo.V, .bool mo.T] 37 (0, 0)) := by
        refine (hb1.block _ (by omega)).trans ?_
        have := heap_alloc_new (w.alloc (.cells #[.int .i64 W, .int .i64 H, .int .i64 K, .slice A n c] 24)) (.cells #[.int .i64 mo.W, .int .i64 mo.H, .int .i64 mo.V, .bool mo.T] 37)
        rwa [World.size_alloc] at this
      have hf : Below w.heap.size w w1 := (below_two w _ _).trans (hb1.mono (by omega))
      exact ⟨ho1.alloc _, fun a ha => by subst ha; exact (ho1.lt a.block (by simp [Value.ownBlock])).2, heap_alloc_new w1 _, (Below.heap_alloc _ _ _ (Array.getElem?_eq_some_iff.1 hm).1).trans hm, hf.alloc hf.size _, by omega, by omega⟩
    obtain ⟨B1, hB1⟩ : ∃ B1, w.heap.size + 1 + 1 = B1 := ⟨_, rfl⟩
    rw [hB1] at hP
    clear ho1 hb1 hB1
    go_wp2_with fail
    try clear q0 q1 q2 q3 q4
    refine (refCheck_any W1 H1 K A1 L c1 s1 _ (hP.sl HL.out.symm) (by omega)).mono ?_
    rw [Hp.out]
    rintro e wq2 ⟨rfl, hb⟩
    have hP2 := hP.below hb
    obtain ⟨q0, q1, q2, q3, q4⟩ := cells4 hP2.box
    clear hb
    go_wp2_with fail
    try clear q0 q1 q2 q3 q4
    refine (best_ok W1 H1 K A1 L c1 s1 _ (hP2.sl HL.out.symm) Hp.out).mono ?_
    rw [Hv.out]
    rintro e wq3 ⟨v3, rfl, _, hb⟩
    have hP3 := hP2.below hb
    obtain ⟨q0, q1, q2, q3, q4⟩ := cells4 hP3.box
    clear hb
    have HB := Lib.hid (show ∀ k' W', k' = k1 → SlE Shp.enc 4 W' A1 L s1 → Calls Try.prog 16 #[.int .i64 W1, .int .i64 H1, .int .i64 k', .slice A1 L c1] W' fun e w' => ∃ v, e = .returned (.tuple #[v, .int .i64 va, .int .i64 0]) ∧ Below W'.heap.size W' w' from fun k' W' hk hs => by
      subst hk
      refine (best_ok W1 H1 k' A1 L c1 s1 _ hs Hp1.out).mono ?_
      rw [Hva.out]
      rintro e w' ⟨v, rfl, _, hb⟩
      exact ⟨v, rfl, hb⟩)
    go_upto_region 5 with fail
    go_cut [9, 10, 11] (fun s9 s10 s11 wx => (∃ v, s9 = v) ∧ s10 = .int .i64 va ∧ s11 = .int .i64 0 ∧ Px w wx B1 w1.heap.size (w.heap.size + 1) W1 H1 K mo A1 c1 L s1)
    case first =>
      go_wp2_with fail
      all_goals
        refine (HB.out _ _ (by rw [← Hk1.out]; omega) (hP3.sl HL.out.symm)).mono ?_
        rintro e wq4 ⟨v4, rfl, hb⟩
        have hP4 := hP3.below hb
        clear hb
        go_wp2_with fail
        go_meet
        exact ⟨⟨_, rfl⟩, rfl, rfl, hP4⟩
    case rest =>
    obtain ⟨⟨v9, hc1⟩, hc2, hc3, hP4⟩ := hcut
    subst hc1 hc2 hc3
    clear hP hP2 hP3
    obtain ⟨q0, q1, q2, q3, q4⟩ := cells4 hP4.box
    go_wp2_with fail
    try clear q0 q1 q2 q3 q4
    refine (best_ok (W1 + 1) H1 K A1 L c1 s1 _ (hP4.sl HL.out.symm) Hp2.out).mono ?_
    rw [Hvb.out]
    rintro e wq5 ⟨v5, rfl, _, hb⟩
    have hP5 := hP4.below hb
    obtain ⟨q0, q1, q2, q3, q4⟩ := cells4 hP5.box
    clear hb
    go_wp2_with fail
    try clear q0 q1 q2 q3 q4
    refine (lives_any _).mono ?_
    rintro e wq6 ⟨rfl, hb⟩
    have hP6 := hP5.below hb
    obtain ⟨q0, q1, q2, q3, q4⟩ := cells4 hP6.box
    clear hb
    go_wp2_with fail
    have hsrc := (hP6.sl HL.out.symm).2
    obtain ⟨m0, m1, m2, m3, m4⟩ := cells4 hP6.mbox
    have hz6 : w1.heap.size < wq6.heap.size := (Array.getElem?_eq_some_iff.1 hP6.box).1
    have hz7 : w.heap.size + 1 < wq6.heap.size := (Array.getElem?_eq_some_iff.1 hP6.mbox).1
    obtain ⟨wB, hwB⟩ : ∃ wB : World, wB = wq6 := ⟨_, rfl⟩
    go_cut [15] (fun s15 wx => ∃ A c, s15 = .slice A (L + 1) c ∧ SlE Shp.enc 4 wx A (L + 1) (s1 ++ [mo]) ∧ Px w wx B1 w1.heap.size (w.heap.size + 1) W1 H1 K mo A1 c1 L s1)
    case first =>
      subst hwB
      clear Hp Hk1 Hp1 Hp2 Hp3 Hv Hva Hvb Hvc Hvd Hok HB hP4 hP5 i1 i2 i3 i4 hS hW1 hW2 hH1 hH2 hk0 hk8 hW64 q0 q1 q2 q4 m4 hss
      have hfl : (s1 ++ [mo]).flatMap Shp.enc = s1.flatMap Shp.enc ++ (#[Value.int .i64 mo.W, .int .i64 mo.H, .int .i64 mo.V, .bool mo.T] : Array Value).toList := by simp [Shp.enc]
      have Hfl := Lib.hid hfl
      clear hfl
      go_region_held3 (fun w' => w'.cell? ⟨w1.heap.size, 3, none⟩ = some (.slice A1 L c1) ∧ w'.cell? ⟨w.heap.size + 1, 0, none⟩ = some (.int .i64 mo.W) ∧ w'.cell? ⟨w.heap.size + 1, 1, none⟩ = some (.int .i64 mo.H) ∧ w'.cell? ⟨w.heap.size + 1, 2, none⟩ = some (.int .i64 mo.V) ∧ w'.cell? ⟨w.heap.size + 1, 3, none⟩ = some (.bool mo.T))
        ((refine Px.S (w := w) (B1 := B1) (X := W1) (Y := H1) (K := K) (cur := s1) ?_; repeat (first | with_reducible exact hP9 | with_reducible exact hP3 | with_reducible exact hP6 | with_reducible refine Px.drew ?_ | with_reducible refine Px.alloc ?_ _)))
        (first
        | (refine step_app rfl (.tmp 102) (.tmp 104) _ rfl elemShp wB.heap.size (.slice (some ⟨_, 0, none⟩) 0 0) 0 [] rfl (by repeat (first | with_reducible exact own_newAt _ _ _ _ _ _ rfl (by simp) (by unfold maxLen; omega) (by simp) | with_reducible refine ownsRow_drew' ?_ | with_reducible refine World.ownsRow.alloc ?_ _)) A1 L c1 _ rfl (by repeat (first | with_reducible exact hsrc | with_reducible refine Sl.drew ?_ | with_reducible refine Sl.alloc ?_ _)) (shp_one _) (by unfold maxLen; omega) (by omega) (by first | omega | (simp; done) | (simp; omega)) ?_; intro A3 c3 w3 ho3 hg3 _; have hb3 := grown_below (B := wB.heap.size) (W0 := wB) (by repeat (first | with_reducible exact Below.refl _ _ | with_reducible refine Below.drew ?_ | with_reducible refine Below.alloc ?_ (by first | (simp; done) | (simp; omega)) _)) hg3 (by first | (simp; done) | (simp; omega)) (by first | (simp; done) | omega); have hP3 := hP6.below hb3; have hz8 := hb3.size; have ho5 := ho3; rw [Nat.zero_add, List.nil_append] at ho5)
        | (refine step_app rfl (.tmp 105) (.tmp 107) _ rfl elemShp wB.heap.size (.slice A3 L c3) L (s1.flatMap Shp.enc) rfl (by repeat (first | with_reducible exact ho5 | with_reducible refine ownsRow_drew' ?_ | with_reducible refine World.ownsRow.alloc ?_ _)) _ 1 1 (#[Value.int .i64 mo.W, .int .i64 mo.H, .int .i64 mo.V, .bool mo.T] : Array Value).toList rfl (by first | ((with_reducible refine Sl.newAt _ _ _ 4 1 ?_ ?_) <;> (simp; done)) | (refine Sl.grown ?_ hg3 (by intro _ a ha; simp at ha; subst ha; simp [Value.ownBlock]); first | ((with_reducible refine Sl.drew (Sl.newAt _ _ _ 4 1 ?_ ?_)) <;> (simp; done)) | ((with_reducible refine Sl.drew (Sl.alloc (Sl.newAt _ _ _ 4 1 ?_ ?_) _)) <;> (simp; done)))) (by intro u hu; simp at hu; rcases hu with rfl | rfl | rfl | rfl <;> rfl) (by unfold maxLen; omega) (by omega) (by first | omega | (simp; done) | (simp; omega)) ?_; intro A4 c4 w4 ho4 hg4 _; have hb4 : Below wB.heap.size wB w4 := (by first | exact below_own hb3 ho5 (Nat.le_refl _) hz8 hg4 | exact below_own (hb3.alloc hz8 _) (ho5.alloc _) (Nat.le_refl _) (by simp; omega) hg4); have hP9 := hP6.below hb4)
        | (refine step_app rfl (.tmp 105) (.tmp 107) _ rfl elemShp wB.heap.size (.slice A3 (0 + L) c3) (0 + L) ([] ++ s1.flatMap Shp.enc) rfl (by repeat (first | with_reducible exact ho3 | with_reducible refine ownsRow_drew' ?_ | with_reducible refine World.ownsRow.alloc ?_ _)) _ 1 1 (#[Value.int .i64 mo.W, .int .i64 mo.H, .int .i64 mo.V, .bool mo.T] : Array Value).toList rfl (by first | ((with_reducible refine Sl.newAt _ _ _ 4 1 ?_ ?_) <;> (simp; done)) | (refine Sl.grown ?_ hg3 (by intro _ a ha; simp at ha; subst ha; simp [Value.ownBlock]); first | ((with_reducible refine Sl.drew (Sl.newAt _ _ _ 4 1 ?_ ?_)) <;> (simp; done)) | ((with_reducible refine Sl.drew (Sl.alloc (Sl.newAt _ _ _ 4 1 ?_ ?_) _)) <;> (simp; done)))) (by intro u hu; simp at hu; rcases hu with rfl | rfl | rfl | rfl <;> rfl) (by unfold maxLen; omega) (by omega) (by first | omega | (simp; done) | (simp; omega)) ?_; intro A4 c4 w4 ho4 hg4 _; have hb4 : Below wB.heap.size wB w4 := (by first | exact below_own hb3 ho3 (Nat.le_refl _) hz8 hg4 | exact below_own (hb3.alloc hz8 _) (ho3.alloc _) (Nat.le_refl _) (by simp; omega) hg4); have hP9 := hP6.below hb4))
      all_goals
        try rw [Nat.zero_add, List.nil_append] at ho4
        rw [← Hfl.out] at ho4
        go_wp2_with fail
        go_meet
        exact ⟨_, _, rfl, SlE.of_own ho4 (by simp [HL.out]), hP9⟩
    case rest =>
    obtain ⟨A8, c8, hc1, hS8, hP8⟩ := hcut
    subst hc1
    clear hP6 hsrc m0 m1 m2 m3 m4 hz6 hz7 q0 q1 q2 q3 q4 hwB hP4 hP5 HB
    obtain ⟨q0, q1, q2, q3, q4⟩ := cells4 hP8.box
    obtain ⟨pw, hpw⟩ : ∃ b, panOk W1 H1 K (s1 ++ [mo]) = b := ⟨_, rfl⟩
    have Hpw := Lib.hid hpw
    clear hpw
    go_wp2_with fail
    refine (refCheck_any W1 H1 K A8 (L + 1) c8 (s1 ++ [mo]) _ hS8 (by omega)).mono ?_
    rw [Hpw.out]
    rintro e w9 ⟨rfl, hb⟩
    have hP9 := hP8.below hb
    have hS9 := hS8.below hb
    clear hb q0 q1 q2 q3 q4
    obtain ⟨q0, q1, q2, q3, q4⟩ := cells4 hP9.box
    obtain ⟨cw, hcw⟩ : ∃ c : Int, (if pw = true then (0 : Int) else 1) = c := ⟨_, rfl⟩
    rw [hcw]
    have Hcw := Lib.hid hcw
    clear hcw
    go_upto_if 117 with fail
    go_cut [16] (fun sx wx => (∃ v, sx = v) ∧ Px w wx B1 w1.heap.size (w.heap.size + 1) W1 H1 K mo A1 c1 L s1)
    case first =>
      cases pw
      · have hcw := Hcw.out
        simp at hcw
        subst hcw
        go_wp2
        go_meet
        exact ⟨⟨_, rfl⟩, hP9⟩
      · have hcw := Hcw.out
        simp at hcw
        subst hcw
        go_wp2_with fail
        refine (best_ok W1 H1 K A8 (L + 1) c8 (s1 ++ [mo]) _ hS9 Hpw.out).mono ?_
        rw [Hvc.out]
        rintro e w10 ⟨v10, rfl, _, hb⟩
        have hP10 := hP9.below hb
        clear hb
        go_wp2
        go_meet
        exact ⟨⟨_, rfl⟩, hP10⟩
    case rest =>
    obtain ⟨⟨v16, hc1⟩, hP10⟩ := hcut
    subst hc1
    clear hP8 hS8 hP9 hS9 q0 q1 q2 q3 q4
    go_wp2_with fail
    go_loopw [19] (fun i wr => ∃ (j : Nat), j ≤ L ∧ i = .int .i64 j ∧ Px w wr B1 w1.heap.size (w.heap.size + 1) W1 H1 K mo A1 c1 L (part freed s1 j)) (fun i _ => L - (intOf i).toNat)
    case atStart => exact ⟨0, by omega, rfl, by rw [part_zero]; exact hP10⟩
    case round =>
      clear hP10
      obtain ⟨j, hj, rfl, hP⟩ := hrel
      obtain ⟨q0, q1, q2, q3, q4⟩ := cells4 hP.box
      obtain ⟨wo, rfl⟩ : ∃ wo : World, wo = wr := ⟨_, rfl⟩
      by_cases hlt : j < L
      · obtain ⟨g, s, rfl, hgB, hbl, hs, e0, e1, e2, e3, e4⟩ := own_at4 hP.own (by rw [part_len, HL.out]) hlt
        rw [part_get] at hs
        have hT := hP.store rfl (show (part freed s1 j)[j]? = some s by rw [part_get]; exact hs)
        rw [part_set freed s1 j s hs] at hT
        have HT := Lib.hid hT
        clear hs hT
        go_wp2
        exact ⟨⟨j + 1, by omega, by go_num, HT.out⟩, by simp [intOf]; omega⟩
      · obtain rfl : L = j := by omega
        have hfp : part freed s1 L = s1.map freed := by rw [← HL.out, part_all]
        rw [hfp] at hP
        clear hfp
        go_wp2_with fail
        refine (best_ok W1 H1 K A1 L c1 (s1.map freed) _ (hP.sl (by rw [List.length_map, HL.out])) Hp3.out).mono ?_
        rw [Hvd.out]
        rintro e w11 ⟨v11, rfl, _, hb⟩
        have hf := (hP.below hb).bel
        clear hb
        go_wp2
        exact hR.out _ _ ⟨rfl, hf⟩
  · have Hp := Lib.hid (show panOk W1 H1 K s1 = false from by simpa using hp)
    clear hp
    go_enter Try.func5, Try.ntmps5
    go_wp2_with fail
    refine (few_any _ _ _ _ _ _ ss _ ((hS.alloc _).alloc _) hnc hc).mono ?_
    rw [Hes.out, HL.out, HW.out, HH.out]
    rintro e w1 ⟨A1, c1, rfl, ho1, hb1⟩
    have hf1 : Below w.heap.size w w1 := (below_two w _ _).trans (hb1.mono (by simp; omega))
    have hs1 := SlE.of_own ho1 HL.out.symm
    clear ho1 hb1
    go_wp2_with fail
    refine (refCheck_any W1 H1 K A1 L c1 s1 _ (hs1.alloc _) (by omega)).mono ?_
    rw [Hp.out]
    rintro e w2 ⟨rfl, hb⟩
    have hf2 := (hf1.alloc hf1.size _).trans (hb.mono (by have := hf1.size; simp; omega))
    clear hb
    go_wp2_with fail
    refine (lives_any _).mono ?_
    rintro e w6 ⟨rfl, hb6⟩
    have hf6 := hf2.trans (hb6.mono hf2.size)
    clear hb6
    go_wp2
    exact hR.out _ _ ⟨rfl, hf6⟩
end Go.Proofs.Ytfkpioibinpfhaa
