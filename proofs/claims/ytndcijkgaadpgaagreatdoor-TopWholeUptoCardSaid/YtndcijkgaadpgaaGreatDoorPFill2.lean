/-
  The contract of panel.fill: the values of all rectangles; condition: the panel is valid.
-/
import Derived.Test.YtndcijkgaadpgaaGreatDoorPFill
namespace Go.Proofs.YtndcijkgaadpgaaGreatDoor
open Go.RowKit Go.Shelf
attribute [local go_sem] Oper.semAt_some

theorem wpListIn_build {n : Nat} {P : Program} {ops : Array Oper} {Q : Exit → Act → World → Prop} {a : Act} {w : World} {rest : List Oper} {o : Oper} (hgd : o.guard = none) (t : TypeId) (parts : List (Nat × Operand)) (ho : o.op = .build t parts.toArray) (vs : List (Nat × Value)) (hv : (parts.map fun x => (x.1, a.eval x.2)) = vs) (cells : Array Value)
    (hb : P.built t vs = some cells) (h : wpListIn Fence.wide n P ops Q rest (a.put o.dst (.agg cells)) w) : wpListIn Fence.wide n P ops Q (o :: rest) a w := by
  refine wpListIn_plain hgd fun K hK => ?_
  have hr := run_build (P := P) w t (parts.toArray.map fun (i, x) => (i, a.eval x)) cells (by
    rw [List.map_toArray, ← hb, ← hv])
  refine ⟨fun f hf => trivial, ?_⟩
  rw [show (Fence.wide.round) = none from rfl, Oper.semAt_none]
  unfold execOp
  rw [ho]
  simp only [Sem.run_bind, hr, Result.andThen_ok, Sem.run_pure]
  exact hK _ _ h
/-- What holds at the heads of fill's loops. -/
structure FillI (w W' : World) (k : Int) (B : Option Addr) (m d : Nat) (ss : List Shp) (h i j : Nat) (ds : List Deferred) (C : Array Value) : Prop where
  blk : W'.heap[w.heap.size]? = some (.cells C 374 (0, 0))
  saw : SawC C k B m d ss h i j
  marks : Marks w.heap.size W'.heap.size W' ds
  below : Below w.heap.size w W'
theorem fill_drew {w W' : World} {k : Int} {B : Option Addr} {m d : Nat} {ss : List Shp} {h i j : Nat} {ds : List Deferred} {C : Array Value} (f : FillI w W' k B m d ss h i j ds C) : FillI w W'.drew k B m d ss h i j ds C := ⟨f.blk, f.saw, f.marks, f.below.drew⟩
/-- What holds between two rounds over the ways of a rectangle. -/
structure FI (w W : World) (k : Int) (B : Option Addr) (m d : Nat) (ss : List Shp) (h i j : Nat) (ds : List Deferred) (C : Array Value) (bm : Nat) (pre : List Way) : Prop where
  cm : W.cell? ⟨bm, 0, none⟩ = some (.int .i64 (most pre))
  fm : W.frozen? ⟨bm, 0, none⟩ = false
  blk : W.heap[w.heap.size]? = some (.cells C 374 (0, 0))
  marks : Marks w.heap.size bm W ds
  below : Below w.heap.size w W
theorem alloc4 (W : World) (o1 o2 o3 o4 : Obj) : ((((W.alloc o1).alloc o2).alloc o3).alloc o4).heap[W.heap.size]? = some o1 ∧ ((((W.alloc o1).alloc o2).alloc o3).alloc o4).heap[W.heap.size + 1]? = some o2 ∧
    ((((W.alloc o1).alloc o2).alloc o3).alloc o4).heap[W.heap.size + 1 + 1]? = some o3 ∧ ((((W.alloc o1).alloc o2).alloc o3).alloc o4).heap[W.heap.size + 1 + 1 + 1]? = some o4 ∧ ((((W.alloc o1).alloc o2).alloc o3).alloc o4).heap.size = W.heap.size + 4 ∧
    (∀ j, j < W.heap.size → ((((W.alloc o1).alloc o2).alloc o3).alloc o4).heap[j]? = W.heap[j]?) ∧ Below W.heap.size W ((((W.alloc o1).alloc o2).alloc o3).alloc o4) := by
  have hb : Below W.heap.size W ((((W.alloc o1).alloc o2).alloc o3).alloc o4) := ((((Below.refl _ _).alloc (Nat.le_refl _) _).alloc (by simp) _).alloc (by simp <;> omega) _).alloc (by simp <;> omega) _
  refine ⟨?_, ?_, ?_, ?_, ?_, fun j hj => hb.block j hj, hb⟩
  · rw [Below.heap_alloc _ _ _ (by simp <;> omega), Below.heap_alloc _ _ _ (by simp <;> omega), Below.heap_alloc _ _ _ (by simp), heap_alloc_new]
  · rw [Below.heap_alloc _ _ _ (by simp <;> omega), Below.heap_alloc _ _ _ (by simp)]
    have h := heap_alloc_new (W.alloc o1) o2
    rwa [World.size_alloc] at h
  · rw [Below.heap_alloc _ _ _ (by simp)]
    have h := heap_alloc_new ((W.alloc o1).alloc o2) o3
    rwa [World.size_alloc, World.size_alloc] at h
  · have h := heap_alloc_new (((W.alloc o1).alloc o2).alloc o3) o4
    rwa [World.size_alloc, World.size_alloc, World.size_alloc] at h
  · simp
set_option maxRecDepth 100000 in
set_option maxHeartbeats 8000000 in
theorem fill_any (n : Nat) (hn : 3 ≤ n) (W H : Nat) (k : Int) (B : Option Addr) (m d : Nat) (ss : List Shp) (w : World) (hS : SlE Shp.enc 4 w B m ss) (hp : panOk W H k ss = true) :
    CallsIn Fence.wide n Tryz.prog 241 #[.int .i64 W, .int .i64 H, .int .i64 k, .slice B m d] w fun e w' =>
      ∃ C, e = .returned (.pointer (some ⟨w.heap.size, 0, none⟩)) ∧ w'.heap[w.heap.size]? = some (.cells C 374 (0, 0)) ∧ SawC C k B m d ss H (W + 1) 1 ∧ Below w.heap.size w w' := by
  refine callsIn_cps ?_
  intro R hR
  obtain ⟨hW1, hW2, hH1, hH2, hk0, hk8, hss, hok⟩ := panOk_ok hp
  have Hok := Lib.hid hok
  clear hok hp
  have Hblk := Lib.hid (heap_alloc_new w (.cells (sawC k B m d) 374))
  have Hbel := Lib.hid ((Below.refl w.heap.size w).alloc (Nat.le_refl _) (.cells (sawC k B m d) 374))
  have h1n : 1 ≤ n := by omega
  refine callsIn_of_wp_marks Tryz.func241 rfl trivial ?_ rfl
  simp only [Tryz.ntmps241, List.size_toArray, List.length_cons, List.length_nil, Nat.reduceAdd, Nat.reduceSub, Array.replicate_succ, Array.replicate_zero, List.push_toArray, List.append_toArray, List.nil_append, List.cons_append]
  gi_wp2_with (refine wpListIn_build rfl 374 _ rfl [(0, .int .i64 k), (1, .slice B m d)] rfl (sawC k B m d) (saw_built k B m d) ?_)
  refine wpIn_loop (fun a' W' => ∃ (i0 : Nat) (C : Array Value) (ds : List Deferred) (u11 u12 u13 u18 u19 u20 u21 u22 u23 u24 u25 u26 u27 u28 u29 u30 u31 u32 u33 u34 u35 u36 u37 u38 u39 u40 u41 u42 u43 u44 : Value), i0 ≤ W ∧ FillI w W' k B m d ss H (i0 + 1) 1 ds C ∧ a' = { tmps := #[.int .i64 W, .int .i64 H, .int .i64 k, .slice B m d, undef, undef, undef, undef, .pointer none, .pointer (some ⟨w.heap.size, 0, none⟩), .int .i64 (i0 + 1), u11, u12, u13, .int .i64 k, .slice B m d, .agg (sawC k B m d), .pointer (some ⟨w.heap.size, 0, none⟩), u18, u19, u20, u21, u22, u23, u24, u25, u26, u27, u28, u29, u30, u31, u32, u33, u34, u35, u36, u37, u38, u39, u40, u41, u42, u43, u44, undef], defers := ds }) (fun a' _ => W + 1 - (intOf (a'.tmps.getD 10 undef)).toNat) ?_ ?_
  · exact ⟨0, sawC k B m d, [], undef, undef, undef, undef, undef, undef, undef, undef, undef, undef, undef, undef, undef, undef, undef, undef, undef, undef, undef, undef, undef, undef, undef, undef, undef, undef, undef, undef, undef, undef, Nat.zero_le _, ⟨Hblk.out, SawC.start k B m d ss H, Marks.nil _ _ _, Hbel.out⟩, rfl⟩
  · rintro a1 wo ⟨i0, C1, ds1, u11, u12, u13, u18, u19, u20, u21, u22, u23, u24, u25, u26, u27, u28, u29, u30, u31, u32, u33, u34, u35, u36, u37, u38, u39, u40, u41, u42, u43, u44, hi, hF1, rfl⟩
    by_cases hlt : i0 < W
    · gi_wp2_with fail
      refine wpIn_loop (fun a' W' => ∃ (j0 : Nat) (C : Array Value) (ds : List Deferred) (v18 v19 v20 v21 v22 u12 u13 u23 u24 u25 u26 u27 u28 u29 u30 u31 u32 u33 u34 u35 u36 u37 u38 u39 u40 u41 u42 u43 u44 : Value), j0 ≤ H ∧ FillI w W' k B m d ss H (i0 + 1) (j0 + 1) ds C ∧ a' = { tmps := #[.int .i64 W, .int .i64 H, .int .i64 k, .slice B m d, undef, undef, undef, undef, .pointer none, .pointer (some ⟨w.heap.size, 0, none⟩), .int .i64 (i0 + 1), .int .i64 (j0 + 1), u12, u13, .int .i64 k, .slice B m d, .agg (sawC k B m d), .pointer (some ⟨w.heap.size, 0, none⟩), v18, v19, v20, v21, v22, u23, u24, u25, u26, u27, u28, u29, u30, u31, u32, u33, u34, u35, u36, u37, u38, u39, u40, u41, u42, u43, u44, undef], defers := ds }) (fun a' _ => H + 1 - (intOf (a'.tmps.getD 11 undef)).toNat) ?_ ?_
      · exact ⟨0, C1, ds1, _, _, _, _, _, _, _, _, _, _, _, _, _, _, _, _, _, _, _, _, _, _, _, _, _, _, _, _, _, Nat.zero_le _, hF1, rfl⟩
      · clear hF1
        rintro a2 wj ⟨j0, C, ds, v18, v19, v20, v21, v22, u12, u13, u23, u24, u25, u26, u27, u28, u29, u30, u31, u32, u33, u34, u35, u36, u37, u38, u39, u40, u41, u42, u43, u44, hj, hF, rfl⟩
        by_cases hltj : j0 < H
        · obtain ⟨hblk, hsaw, hmk, hbel⟩ := hF
          gi_wp2_with fail
          refine ⟨trivial, ?_⟩
          refine (callsIn_wide.2 (ways_any _ _ _ _)).mono ?_
          rintro e w' ⟨rfl, rfl⟩
          obtain ⟨wy, hwy⟩ : ∃ wy, (((wj.alloc (.cells #[.int .i64 0] 3)).alloc (.cells #[.pointer (some ⟨w.heap.size, 0, none⟩)] 367)).alloc (.cells #[.int .i64 ((i0 : Int) + 1)] 3)).alloc (.cells #[.int .i64 ((j0 : Int) + 1)] 3) = wy := ⟨_, rfl⟩
          obtain ⟨a0, a1, a2, a3, a4, a5, a6⟩ := alloc4 wj (.cells #[.int .i64 0] 3) (.cells #[.pointer (some ⟨w.heap.size, 0, none⟩)] 367) (.cells #[.int .i64 ((i0 : Int) + 1)] 3) (.cells #[.int .i64 ((j0 : Int) + 1)] 3)
          rw [hwy] at a0 a1 a2 a3 a4 a5 a6
          have hFI : FI w wy k B m d ss H (i0 + 1) (j0 + 1) ds C wj.heap.size [] := ⟨by rw [cell_of_row _ _ 0 _ _ (0, 0) a0]; rfl, by simp [World.frozen?, a0], (a5 _ (Array.getElem?_eq_some_iff.1 hblk).1).trans hblk, hmk.keep (fun D hD hc => (a5 D hD).trans hc), hbel.trans (a6.mono hbel.size)⟩
          have hWM : WM wy w.heap.size (wj.heap.size + 1) (i0 + 1) (j0 + 1) k B m d ss :=
            ⟨by rw [cell_of_row _ _ 0 _ _ (0, 0) a1]; rfl, by rw [cell_of_row _ _ 0 _ _ (0, 0) a2]; rfl, by rw [cell_of_row _ _ 0 _ _ (0, 0) a3]; rfl,
             by rw [cell_of_row _ _ 0 _ _ (0, 0) hFI.blk]; exact hsaw.c0, by rw [cell_of_row _ _ 1 _ _ (0, 0) hFI.blk]; exact hsaw.c1,
             fun a ha => by rw [cell_of_row _ _ _ _ _ (0, 0) hFI.blk]; exact hsaw.cv a (j0 + 1) (by omega) (by omega) (by omega),
             fun a ha => by rw [cell_of_row _ _ _ _ _ (0, 0) hFI.blk]; exact hsaw.cv (i0 + 1) a (by omega) (by omega) (by omega), hS.below hFI.below⟩
          have hps : w.heap.size < wj.heap.size := (Array.getElem?_eq_some_iff.1 hblk).1
          have hWB : WB (some wj.heap.size) w.heap.size (wj.heap.size + 1) B m := ⟨by simp; omega, by simp, by simp; omega, by simp; omega, fun hm a ha => by
            obtain ⟨b', o', hB, hlt', _⟩ := hS.2.2 hm
            rw [ha] at hB
            injection hB with hB
            subst hB
            simp
            omega⟩
          have hst := ways_stops (n - 1) (some wj.heap.size) w.heap.size (wj.heap.size + 1) (i0 + 1) (j0 + 1) k B m d ss hWB (by omega) (by omega) (by omega) (by omega) (by omega) hk0 hk8 hss (fun s hs => by have := Hok.out s hs; omega) wy (fun b hb => by injection hb with hb; omega) hWM
          obtain ⟨ws, hws⟩ : ∃ ws, ways (val k ss) k ss ((i0 + 1 : Nat) : Int) ((j0 + 1 : Nat) : Int) = ws := ⟨_, rfl⟩
          rw [hws] at hst
          have Hws := Lib.hid hws
          clear hws
          rw [hwy]
          gi_wp2_with fail
          refine wpIn_rangeFunc_ownH (α := { z : Way // z ∈ ws }) rfl h1n (gf := 377) (lb := #[.pointer (some ⟨wj.heap.size + 1, 0, none⟩), .pointer (some ⟨wj.heap.size + 1 + 1, 0, none⟩), .pointer (some ⟨wj.heap.size + 1 + 1 + 1, 0, none⟩)]) rfl trivial
            (enters_of Tryz.func377 (by kernel_rfl) rfl) hst
            (fun h k => h.trans k) (fun W l o o' hl ho hc hw => KC.putObj W l o o' ho hc) (Below.refl _ _) (fun _ => rfl) (fun pre Wz => FI w Wz k B m d ss H (i0 + 1) (j0 + 1) ds C wj.heap.size (pre.map (·.1))) (fun _ _ _ => False) ?hI (fun _ _ _ _ _ hs _ _ => hs) hFI
            (fun x a' Wz => ∃ Bx : Nat, Bx ≠ wj.heap.size ∧ Wz.cell? ⟨Bx, 2, none⟩ = some (.int .i64 x.1.2) ∧ a' = { tmps := #[.int .i64 W, .int .i64 H, .int .i64 k, .slice B m d, undef, undef, undef, undef, .pointer none, .pointer (some ⟨w.heap.size, 0, none⟩), .int .i64 (i0 + 1), .int .i64 (j0 + 1), .pointer (some ⟨wj.heap.size, 0, none⟩), .pointer (some ⟨Bx, 0, none⟩), .int .i64 k, .slice B m d, .agg (sawC k B m d), .pointer (some ⟨w.heap.size, 0, none⟩), v18, v19, v20, v21, v22, .int .i64 (j0 + 1), .int .i64 H, .bool true, u26, u27, .pointer (some ⟨w.heap.size, 0, none⟩), .int .i64 (i0 + 1), .int .i64 (j0 + 1), .func (.func 377) #[] #[.pointer (some ⟨wj.heap.size + 1, 0, none⟩), .pointer (some ⟨wj.heap.size + 1 + 1, 0, none⟩), .pointer (some ⟨wj.heap.size + 1 + 1 + 1, 0, none⟩)], .agg #[.int .i64 x.1.1.1, .int .i64 x.1.1.2, .int .i64 x.1.2], u33, u34, u35, u36, u37, u38, u39, u40, u41, u42, u43, u44, undef], defers := [] }) ?hAx ?assign ?body ?done ?stop
          case hI =>
            rintro pre A1 A2 row hs hg hr
            have hr' : ∀ r, row = some r → ∃ o : Obj, A1.heap[r]? = some o ∧ o.isCells = false := fun r e => (hr r e).2
            refine ⟨cell_kept hs.cm hg hr', (frozen_kept hs.cm hg hr').trans hs.fm, (hg.block _ (Array.getElem?_eq_some_iff.1 hs.blk).1 (fun e => ?_)).trans hs.blk, hs.marks.keep (fun D hD hc => (hg.block D (Array.getElem?_eq_some_iff.1 hc).1 (fun e => ?_)).trans hc), hs.below.trans ⟨hg.os, hg.tape, hg.output, hg.size, fun j hj => hg.block j (by have := hs.below.size; omega) (fun e => ?_)⟩⟩
            · obtain ⟨o, ho, hc⟩ := hr' _ e.symm
              rw [hs.blk] at ho
              injection ho with ho
              subst ho
              cases hc
            · have := (hr _ e.symm).1
              omega
            · have := (hr _ e.symm).1
              omega
          case hAx =>
            rintro x a' _ A1 A2 row ⟨Bx, h1, h2, h3⟩ hg hr
            exact ⟨Bx, h1, cell_kept h2 hg (fun r e => (hr r e).2), h3⟩
          case assign =>
            rintro l pre x Wr K hi hK
            unfold wayV
            gi_wp2_with fail
            refine hK _ _ ((KeepsOthers.alloc _ _).from _) (KC.alloc _ _) ⟨?_, ?_, ?_, ?_, ?_⟩ ⟨Wr.heap.size, ?_, ?_, rfl⟩
            · rw [World.cell?_alloc_lt _ _ _ (by exact World.block_lt_of_cell? _ _ hi.cm)]; exact hi.cm
            · rw [World.frozen?_of_block (w := Wr) (Below.heap_alloc _ _ _ (World.block_lt_of_cell? _ _ hi.cm))]; exact hi.fm
            · rw [Below.heap_alloc _ _ _ (Array.getElem?_eq_some_iff.1 hi.blk).1]; exact hi.blk
            · exact hi.marks.keep (fun D _ hc => (Below.heap_alloc _ _ _ (Array.getElem?_eq_some_iff.1 hc).1).trans hc)
            · exact hi.below.alloc hi.below.size _
            · have := World.block_lt_of_cell? _ _ hi.cm
              dsimp only at this
              omega
            · rw [cell_of_row _ _ 2 _ _ (0, 0) (heap_alloc_new Wr _)]; rfl
          case body =>
            rintro l pre x a' Wr hl hr hfi ⟨Bx, hBx, hcx, rfl⟩ hlt
            obtain ⟨mo, hmo⟩ : ∃ mo, most (pre.map (·.1)) = mo := ⟨_, rfl⟩
            have hcm := hfi.cm
            have hfm := hfi.fm
            rw [hmo] at hcm
            have Hmo := Lib.hid hmo
            clear hmo hr
            gi_wp2_with fail
            all_goals
              refine ⟨(KeepsOthers.setCell _ _ _).from _, KC.setCell _ rfl _, ⟨?_, ?_, ?_, ?_, ?_⟩⟩
              · rw [List.map_append, List.map_cons, List.map_nil, most_snoc, Hmo.out]
                refine (World.cell?_setCell_same' _ _ _ (by rw [hcm]; rfl)).trans (congrArg (fun z => some (Value.int .i64 z)) ?_)
                omega
              · rw [World.frozen?_setCell]; exact hfm
              · rw [Below.heap_setCell _ _ _ _ (by dsimp only; omega)]; exact hfi.blk
              · exact hfi.marks.keep (fun D hD hc => (Below.heap_setCell _ _ _ _ (by dsimp only; omega)).trans hc)
              · exact hfi.below.setCell (p := ⟨wj.heap.size, 0, none⟩) (by dsimp only; omega) _
          case done =>
            rintro D xs Wr hD hSx hfi hK
            rw [hSx] at hfi
            have hcm := hfi.cm
            rw [← Hws.out, ← val_eq k ss hk0 _ _ (by omega) (by omega)] at hcm
            obtain ⟨vv, hvv⟩ : ∃ vv, val k ss ((i0 + 1 : Nat) : Int) ((j0 + 1 : Nat) : Int) = vv := ⟨_, rfl⟩
            rw [hvv] at hcm
            have Hvv := Lib.hid hvv
            clear hvv hSx
            have hsz := hsaw.sz
            have hctg : Wr.cell? ⟨w.heap.size, 2 + (i0 + 1) * 65 + (j0 + 1), none⟩ = some (C[2 + (i0 + 1) * 65 + (j0 + 1)]'(by omega)) := by
              rw [cell_of_row _ _ _ _ _ (0, 0) hfi.blk, Array.getElem?_eq_getElem]
            have hftg : Wr.frozen? ⟨w.heap.size, 2 + (i0 + 1) * 65 + (j0 + 1), none⟩ = false := by simp [World.frozen?, hfi.blk]
            have hF' : FillI w (Wr.setCell ⟨w.heap.size, 2 + (i0 + 1) * 65 + (j0 + 1), none⟩ (.int .i64 vv)) k B m d ss H (i0 + 1) (j0 + 1 + 1) ({ target := .collected D, args := #[] } :: ds) (C.setIfInBounds (2 + (i0 + 1) * 65 + (j0 + 1)) (.int .i64 vv)) := by
              refine ⟨?_, by rw [← Hvv.out]; exact hsaw.set (by omega) (by omega), ?_, hfi.below.setCell (p := ⟨w.heap.size, _, none⟩) (Nat.le_refl _) _⟩
              · simp [World.setCell, Array.getElem?_modify, hfi.blk]
              · have h := (hfi.marks.cons (by omega) (by omega) hK).keep (W' := Wr.setCell ⟨w.heap.size, 2 + (i0 + 1) * 65 + (j0 + 1), none⟩ (.int .i64 vv)) (fun E hE hc => (Below.heap_setCell _ _ _ _ (fun e => by
                  dsimp only at e
                  rw [e, hfi.blk] at hc
                  cases hc)).trans hc)
                simpa [World.setCell] using h
            have HF := Lib.hid hF'
            clear hF' hK
            generalize C[2 + (i0 + 1) * 65 + (j0 + 1)]'(by omega) = old at hctg
            have i1 : (i0 : Int) + 1 < 65 := by omega
            have i3 : (j0 : Int) + 1 < 65 := by omega
            have i5 : i0 + 1 < 65 := by omega
            have i6 : j0 + 1 < 65 := by omega
            have i9 : (0 : Int) ≤ (i0 : Int) + 1 := by omega
            have i10 : ((i0 : Int) + 1).toNat = i0 + 1 := by omega
            have i11 : (0 : Int) ≤ (j0 : Int) + 1 := by omega
            have i12 : ((j0 : Int) + 1).toNat = j0 + 1 := by omega
            gi_wp2_with fail
            refine wpIn_wide.2 ?_
            go_still_tail 8, (by kernel_rfl)
            clear i1 i3 i5 i6 i9 i10 i11 i12
            go_wp2_with fail
            gi_wp2_with fail
            refine ⟨⟨j0 + 1, _, _, _, _, _, _, _, _, _, _, _, _, _, _, _, _, _, _, _, _, _, _, _, _, _, _, _, _, _, _, _, by omega, fill_drew HF.out, rfl⟩, by simp [intOf]; omega⟩
          case stop =>
            rintro D c pre W _ _ h _
            exact h.elim
        · obtain rfl : j0 = H := by omega
          have hF' : FillI w wj k B m d ss j0 (i0 + 1 + 1) 1 ds C := ⟨hF.blk, hF.saw.row, hF.marks, hF.below⟩
          gi_wp2_with fail
          refine ⟨⟨i0 + 1, C, ds, _, _, _, _, _, _, _, _, _, _, _, _, _, _, _, _, _, _, _, _, _, _, _, _, _, _, _, _, _, _, by omega, hF', rfl⟩, ?_⟩
          simp [intOf]; omega
    · obtain rfl : i0 = W := by omega
      obtain ⟨hblk, hsaw, hmk, hbel⟩ := hF1
      gi_wp2_with fail
      exact marks_leave hmk (fun W' hk hb => ⟨_, results_tmp rfl _ _ _, hR.out _ _ ⟨C1, rfl, hk.2 _ _ hblk rfl (by simp), hsaw, hbel.trans hb⟩⟩)
end Go.Proofs.YtndcijkgaadpgaaGreatDoor
