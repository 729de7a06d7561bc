/-
  The contract of clavecinref08.Table: the table of the greatest values; condition: the panel is valid.
-/
import Derived.Test.YtfkpioibinpfhaaPCuts
namespace Go.Proofs.Ytfkpioibinpfhaa
open Go.RowKit

theorem elemRow : ElemOk Try.prog 40 45 1 24 := ElemOk.of (z := .slice none 0 0) Try.underlying40 (by kernel_rfl) rfl (by omega)
theorem infoInt : (Try.prog.info? 3).map (fun i => (i.zero, i.size, i.bytes)) = some (some (.int .i64 0), 1, 8) := by kernel_rfl
theorem one1s (a : Option Addr) (n c : Nat) : ∀ u ∈ (#[Value.slice a n c] : Array Value).toList, u.oneCell' = true := by simp [Value.oneCell']
theorem tabP_rows (k : Int) (ss : List Shp) (h i j : Nat) (hh : h ≤ 64) (y : Int) (hy : y ≤ h) : ∀ r ∈ tabP k ss h i j, y ≤ r.length ∧ r.length ≤ 64 := by
  intro r hr
  rcases List.mem_append.1 hr with hr | hr
  · simp only [tabV, List.mem_map, List.mem_range] at hr
    obtain ⟨a, _, rfl⟩ := hr
    rw [rowV_len]; omega
  · simp only [List.mem_singleton] at hr
    subst hr
    rw [rowP_len]; omega
/-- The table while the best of one rectangle is sought: x so far. -/
def tabQ (k : Int) (ss : List Shp) (h i j : Nat) (x : Int) : List (List Int) := (tabP k ss h i j).set i ((rowP k ss h i j).set j x)
theorem tabQ_zero (k : Int) (ss : List Shp) (h i j : Nat) (hj : j < h) : tabQ k ss h i j 0 = tabP k ss h i j := by
  have h1 : (rowP k ss h i j).set j 0 = rowP k ss h i j := by
    apply List.ext_getElem?
    intro b
    rw [List.getElem?_set]
    by_cases hb : j = b
    · subst hb; simp [rowP, hj]
    · rw [if_neg hb]
  rw [tabQ, h1]
  apply List.ext_getElem?
  intro a
  rw [List.getElem?_set]
  by_cases ha : i = a
  · subst ha
    rw [if_pos rfl, if_pos (by rw [tabP, List.length_append, tabV_len]; simp), tabP_last]
  · rw [if_neg ha]
theorem tabQ_val (k : Int) (ss : List Shp) (h i j : Nat) (hj : j < h) : tabQ k ss h i j (val k ss ((i : Int) + 1) ((j : Int) + 1)) = tabP k ss h i (j + 1) := by
  rw [tabQ, rowP_set _ _ _ _ _ hj, tabP, List.set_append_right _ _ (by rw [tabV_len]; exact Nat.le_refl _), tabV_len, Nat.sub_self]
  rfl
theorem tabQ_set (k : Int) (ss : List Shp) (h i j : Nat) (x y : Int) : (tabQ k ss h i j x).set i (((rowP k ss h i j).set j x).set j y) = tabQ k ss h i j y := by
  rw [tabQ, tabQ, List.set_set, List.set_set]
theorem tabQ_row (k : Int) (ss : List Shp) (h i j : Nat) (x : Int) : (tabQ k ss h i j x)[i]? = some ((rowP k ss h i j).set j x) := by
  rw [tabQ, List.getElem?_set_self]
  rw [tabP, List.length_append, tabV_len]; simp
theorem tabQ_cell (k : Int) (ss : List Shp) (h i j : Nat) (x : Int) (hj : j < h) : ((rowP k ss h i j).set j x)[j]? = some x := by
  rw [List.getElem?_set_self]; rw [rowP_len]; exact hj
theorem most_take (l : List Way) (k : Nat) (x : Way) (hx : l[k]? = some x) : most (l.take (k + 1)) = max (most (l.take k)) x.2 := by
  obtain ⟨hk, rfl⟩ := List.getElem?_eq_some_iff.1 hx
  rw [List.take_succ_eq_append_getElem hk, most_snoc]

theorem max_if (a b : Int) : max a b = if a < b then b else a := by
  split <;> omega
theorem ownsRow_drew' {W : World} {base e size n : Nat} {v : Value} {xs : List Value} (h : W.ownsRow base e size v n xs) : W.drew.ownsRow base e size v n xs := h
theorem Tbl.drew {W : World} {base L h : Nat} {eo ei : TypeId} {v : Value} {rows : List (List Int)} {gs : List Nat} (t : Tbl W base eo ei v L h rows gs) : Tbl W.drew base eo ei v L h rows gs := ⟨t.cnt, t.own, t.len, t.row, t.ne⟩
set_option maxRecDepth 100000 in
set_option maxHeartbeats 4000000 in
theorem refTable_any (W H : Nat) (k : Int) (B : Option Addr) (m d : Nat) (ss : List Shp) (w : World) (hS : SlE Shp.enc 4 w B m ss) (hp : panOk W H k ss = true) :
    Calls Try.prog 23 #[.int .i64 W, .int .i64 H, .int .i64 k, .slice B m d] w fun e w' => ∃ A c, e = .returned (.slice A W c) ∧ SlR w' A W (tabV k ss W H) ∧ Below w.heap.size w w' := by
  refine calls_cps ?_
  intro R hR
  obtain ⟨hW1, hW2, hH1, hH2, hk0, hk8, hss, hok⟩ := panOk_ok hp
  have Hok := Lib.hid hok
  clear hok hp
  go_enter Try.func23, Try.ntmps23
  go_wp2_with fail
  go_loopw [9, 10] (fun v i wr => ∃ (i0 : Nat) (A : Option Addr) (c : Nat) (gs : List Nat), i0 ≤ W ∧ i = .int .i64 (i0 + 1) ∧ v = .slice A i0 c ∧ Tbl wr w.heap.size 45 3 (.slice A i0 c) i0 H (tabV k ss i0 H) gs ∧ Below w.heap.size w wr) (fun _ i _ => (W + 1 - intOf i).toNat)
  case atStart =>
    exact ⟨0, _, _, [], Nat.zero_le _, rfl, rfl, Tbl.ofOwn (own_new w #[] 45 1 0 w.heap.size rfl (Nat.le_refl _) (by unfold maxLen; omega)), (Below.refl _ _).alloc (Nat.le_refl _) _⟩
  case round =>
    obtain ⟨i0, A, c, gs, hi, rfl, rfl, ht, hb⟩ := hrel
    obtain ⟨wo, rfl⟩ : ∃ wo : World, wo = wr := ⟨_, rfl⟩
    by_cases hlt : i0 < W
    · go_wp2_with (first
        | (at_make; refine wpList_mkInt rfl (.tmp 22) (.tmp 22) _ rfl 3 Try.underlying45 infoInt H H rfl rfl rfl (by omega) ?_; intro w1 hw1 hg1)
        | (at_builtin; refine wpList_app rfl (.tmp 21) (.tmp 24) _ rfl elemRow w.heap.size _ _ _ rfl ((ht.own.kept hg1 (by cases (Value.slice A i0 c).ownBlock <;> simp)).alloc _) _ _ _ _ rfl (Sl.new _ _ _ 1 1 rfl) (one1s _ _ _) (by unfold maxLen; omega) (by omega) (by have := hb.size; have := hg1.size; simp; omega) ?_; intro A1 c1 w2 ho2 hg2 _))
      have hbw1 : Below wo.heap.size wo (w1.alloc (.cells #[.slice (some ⟨wo.heap.size, 0, none⟩) H H] 45)) := by
        refine Below.alloc (Below.grown (Below.refl _ _) hg1 (Nat.le_refl _) (fun k hk => by cases hk)) hg1.size _
      have ht1 := ht.snoc (by decide) (r := List.replicate H 0) (g := wo.heap.size) (List.length_replicate ..) hb.size (Nat.le_refl _) hbw1
        (by rw [Below.heap_alloc _ _ _ (Array.getElem?_eq_some_iff.1 hw1).1, hw1]; simp) ho2 hg2
      have hb2 : Below w.heap.size w w2 := below_own (hb.trans (hbw1.mono hb.size)) (ht.own.kept (row := none) ⟨hbw1.os, hbw1.tape, hbw1.output, hbw1.size, fun k hk _ => hbw1.block k hk⟩ (by cases (Value.slice A i0 c).ownBlock <;> simp)) (Nat.le_refl _) (by have := hb.size; have := hbw1.size; omega) hg2
      rw [← rowP_zero k ss H i0, ← tabP] at ht1
      obtain ⟨gs1, hgs1⟩ : ∃ gs1, gs ++ [wo.heap.size] = gs1 := ⟨_, rfl⟩
      rw [hgs1] at ht1
      clear hgs1 ho2 hg2 hbw1 hw1 hg1 ht hb
      go_loopw [11] (fun i wr => ∃ j0 : Nat, j0 ≤ H ∧ i = .int .i64 (j0 + 1) ∧ Tbl wr w.heap.size 45 3 (.slice A1 (i0 + 1) c1) (i0 + 1) H (tabP k ss H i0 j0) gs1 ∧ Below w.heap.size w wr) (fun i _ => (H + 1 - intOf i).toNat)
      case atStart => exact ⟨0, Nat.zero_le _, rfl, ht1, hb2⟩
      case round =>
        clear ht1 hb2
        obtain ⟨j0, hj, rfl, ht, hb⟩ := hrel
        obtain ⟨wj, rfl⟩ : ∃ wj : World, wj = wr := ⟨_, rfl⟩
        by_cases hltj : j0 < H
        · have hSb := hS.below hb
          have HR1 := Lib.hid (tabP_rows k ss H i0 j0 (by omega) ((j0 : Int) + 1) (by omega))
          have HR2 := Lib.hid (tabF_mem (tabP k ss H i0 j0) 1000000000000 (by omega) (tabP_small k ss hk0 (fun s hs => by have := Hok.out s hs; omega) H i0 j0 (by omega) (by omega)))
          have HR3 := Lib.hid (show ∀ s ∈ ss, 0 ≤ s.V ∧ s.V ≤ 1000000 from fun s hs => (Hok.out s hs).2.2)
          go_wp2_with (go_at_call 43; refine (cuts_any _ _ _ (tabP k ss H i0 j0) _ _ _ _ _ _ ss _ ht.slr hSb (by omega) (by omega) (by omega) (by omega) HR1.out hk0 hk8 hss HR2.out HR3.out (by omega)).mono ?_; rintro e w' ⟨v1, v2, rfl, h2, hbc⟩; rw [ways_tabP k ss hk0 H i0 j0 hltj] at h2; obtain ⟨ws, hws⟩ : ∃ ws, ways (val k ss) k ss ((i0 : Int) + 1) ((j0 : Int) + 1) = ws := ⟨_, rfl⟩; rw [hws] at h2; have Hws := Lib.hid hws; clear hws HR1 HR2 HR3; obtain ⟨hL, ho1, ho2⟩ := h2; clear hL ho1; obtain ⟨L, hL⟩ : ∃ L, ws.length = L := ⟨_, rfl⟩; rw [hL] at ho2; have HL := Lib.hid hL; clear hL; obtain ⟨A2, c2, rfl, _, hc2, ho2⟩ := own_slice ho2; have hL64 : L ≤ 9223372036854775807 := by unfold maxLen at hc2; omega)
          have ht1 := ht.below hbc (Nat.le_refl _)
          have hb1 := hb.trans (hbc.mono hb.size)
          rw [← tabQ_zero k ss H i0 j0 hltj] at ht1
          obtain ⟨wc, rfl⟩ : ∃ wc : World, wc = w' := ⟨_, rfl⟩
          clear hSb
          go_loopw [14] (fun i wr => ∃ k0 : Nat, k0 ≤ L ∧ i = .int .i64 k0 ∧ Tbl wr w.heap.size 45 3 (.slice A1 (i0 + 1) c1) (i0 + 1) H (tabQ k ss H i0 j0 (most (ws.take k0))) gs1 ∧ wr.ownsRow wj.heap.size 3 1 (.slice A2 L c2) L (wsV ws) ∧ Below w.heap.size w wr) (fun i _ => (L - intOf i).toNat)
          case atStart => exact ⟨0, Nat.zero_le _, rfl, ht1, ho2, hb1⟩
          case round =>
            clear ht1 ho2 hb1
            obtain ⟨k0, hk0', rfl, ht1, ho2, hb1⟩ := hrel
            by_cases hltk : k0 < L
            · obtain ⟨b, cb, hv, hbb, hbl, hcell⟩ := ht1.outer (by omega)
              have hA1 : A1 = some ⟨b, 0, none⟩ := by injection hv
              subst hA1
              clear hv
              have hgl : i0 < gs1.length := by rw [ht1.len, ← ht1.cnt]; omega
              obtain ⟨g, hg⟩ : ∃ g, gs1[i0]? = some g := ⟨_, List.getElem?_eq_getElem hgl⟩
              have q0 := hcell i0 g hg
              clear hcell
              have hrow := tabQ_row k ss H i0 j0 (most (ws.take k0))
              have q1 := ht1.cellRow hg hrow j0 _ (tabQ_cell k ss H i0 j0 _ hltj)
              have q2 := ht1.frozenRow hg hrow j0
              have hglt : g < wj.heap.size := (ht.lt hg).2
              obtain ⟨x, hx⟩ : ∃ x, ws[k0]? = some x := ⟨_, List.getElem?_eq_getElem (by rw [HL.out]; exact hltk)⟩
              obtain ⟨b2, o2, y, rfl, hb2, hy, q3⟩ := (SlE.of_own (l := ws.map (·.2)) ho2 (by rw [List.length_map, HL.out])).at1 hltk
              have hxy : y = x.2 := by rw [List.getElem?_map, hx] at hy; simpa using hy.symm
              subst hxy
              have HM := Lib.hid ((most_take ws k0 x hx).trans (max_if _ _))
              have HN := Lib.hid (ht1.set (by decide) hg hrow j0 (if most (ws.take k0) < x.2 then x.2 else most (ws.take k0)))
              have HO := Lib.hid (ownsRow_setCell_below ho2 (a := ⟨g, j0, none⟩) hglt (.int .i64 (if most (ws.take k0) < x.2 then x.2 else most (ws.take k0))))
              have HB := Lib.hid (hb1.setCell (p := ⟨g, j0, none⟩) (by exact (ht.lt hg).1) (.int .i64 (if most (ws.take k0) < x.2 then x.2 else most (ws.take k0))))
              obtain ⟨mo, hmo⟩ : ∃ mo, most (ws.take k0) = mo := ⟨_, rfl⟩
              rw [hmo] at q1 HM HN HO HB
              have Hmo := Lib.hid hmo
              have Hg := Lib.hid hg
              clear hrow hmo hx hy hg hgl
              go_wp2_with fail
              have hwi : IntKind.i64.wrap (i0 : Int) = i0 := IntWalk.i64_in _ (by omega)
              have hwj : IntKind.i64.wrap (j0 : Int) = j0 := IntWalk.i64_in _ (by omega)
              have hwi2 : IntKind.i64.wrap ((i0 : Int) + 1 - 1) = i0 := by rw [show (i0 : Int) + 1 - 1 = i0 by omega]; exact hwi
              have hwj2 : IntKind.i64.wrap ((j0 : Int) + 1 - 1) = j0 := by rw [show (j0 : Int) + 1 - 1 = j0 by omega]; exact hwj
              have hix : (i0 : Int) < (i0 : Int) + 1 := by omega
              go_still_tail 22, (by kernel_rfl)
              clear hwi hwj hwi2 hwj2 hix
              go_wp2
              refine ⟨⟨k0 + 1, by omega, by go_num, ?_, ownsRow_drew' HO.out, HB.out.drew⟩, by simp [intOf]; omega⟩
              rw [HM.out, ← tabQ_set k ss H i0 j0 mo]
              exact HN.out.drew
            · obtain rfl : k0 = L := by omega
              have HT := Lib.hid (show Tbl wr w.heap.size 45 3 (.slice A1 (i0 + 1) c1) (i0 + 1) H (tabP k ss H i0 (j0 + 1)) gs1 from by
                rw [List.take_of_length_le (by rw [HL.out]; exact Nat.le_refl _), ← Hws.out, ← val_eq k ss hk0 _ _ (by omega) (by omega), tabQ_val k ss H i0 j0 hltj] at ht1
                exact ht1)
              go_wp2
              exact ⟨⟨j0 + 1, by omega, by go_num, HT.out, hb1⟩, by simp [intOf]; omega⟩
        · obtain rfl : j0 = H := by omega
          rw [tabP_full] at ht
          go_wp2
          exact ⟨⟨i0 + 1, _, _, _, by omega, by go_num, rfl, ht, hb⟩, by simp [intOf]; omega⟩
    · obtain rfl : i0 = W := by omega
      have Hfin := Lib.hid (show R (.returned (.slice A i0 c)) wo from hR.out _ _ ⟨_, _, rfl, ht.slr, hb⟩)
      go_wp2
      exact Hfin.out
end Go.Proofs.Ytfkpioibinpfhaa
