/-
  cursor.take, cursor.number, decode where there is nothing left; Open on a new disk; conditions: those that each theorem states.
-/
import Derived.Test.YtndcijkgaadpgaaGreatDoorUh
namespace Go.Proofs.YtndcijkgaadpgaaGreatDoor
section
open Go.RowKit Go.Shelf Go.Maps
theorem infoBy0 : (Tryz.prog.info? 5).map (fun i => (i.zero, i.size, i.bytes)) = some (some (.int .u8 0), 1, 1) := by kernel_rfl
theorem run_mkB (m : Nat) (hm : m ≤ 1000) (w : World) : (Instr.makeSlice 107 (.int .i64 (m : Int)) (.int .i64 (m : Int))).run Tryz.prog w = .ok (.slice (some ⟨w.heap.size, 0, none⟩) m m) (w.alloc (.cells (madeCells #[.int .u8 0] m) 5)) :=
  run_make_row' 107 5 (.int .u8 0) 1 Tryz.underlying107 infoBy0 rfl .i64 .i64 m (by omega) (by omega) w
abbrev zeroB (n : Nat) : Obj := .cells (madeCells #[.int .u8 0] n) 5
theorem zero_cell (w : World) (b n : Nat) (hb : w.heap[b]? = some (zeroB n)) (j : Nat) (hj : j < n) : w.cell? ⟨b, j, none⟩ = some (.int .u8 0) := by
  rw [cell_of_row _ _ j _ _ (0, 0) hb]
  simp [madeCells, hj, Nat.mod_one]
theorem set_below {w w' : World} {b k : Nat} {v : Value} (h : Below b w w') (hk : b ≤ k) : Below b w (w'.setCell ⟨k, 1, none⟩ v) :=
  ⟨h.os, h.tape, h.output, by have := h.size; simpa [World.setCell] using this, fun j hj => (hset_ne (by omega)).trans (h.block j hj)⟩
set_option maxRecDepth 8000 in
set_option maxHeartbeats 2000000 in
theorem take2_any (w : World) (k : Nat) (A : Option Addr) (c : Nat) (o : Bool) (h : w.heap[k]? = some (.cells #[.slice A 0 c, .bool o] 162 (0, 0))) :
    Calls Tryz.prog 65 #[.pointer (some ⟨k, 0, none⟩), .int .i64 2] w fun e w' => e = .returned (.slice (some ⟨w.heap.size, 0, none⟩) 2 2) ∧ w' = (w.setCell ⟨k, 1, none⟩ (.bool true)).alloc (zeroB 2) := by
  refine calls_cps ?_
  intro R hR
  obtain ⟨c0, c1, f0⟩ := cells2 h
  have f1 := f0 1
  have hmk : ∀ w : World, (Instr.makeSlice 107 (.int .i64 2) (.int .i64 2)).run Tryz.prog w = .ok (.slice (some ⟨w.heap.size, 0, none⟩) 2 2) (w.alloc (zeroB 2)) := run_mkB 2 (by omega)
  clear h f0
  cases o
  all_goals
    go_enter Tryz.func65, Tryz.ntmps65
    go_wp2
    exact hR.out _ _ ⟨by simp, rfl⟩
set_option maxRecDepth 8000 in
set_option maxHeartbeats 2000000 in
theorem take4_any (w : World) (k : Nat) (A : Option Addr) (c : Nat) (o : Bool) (h : w.heap[k]? = some (.cells #[.slice A 0 c, .bool o] 162 (0, 0))) :
    Calls Tryz.prog 65 #[.pointer (some ⟨k, 0, none⟩), .int .i64 4] w fun e w' => e = .returned (.slice (some ⟨w.heap.size, 0, none⟩) 4 4) ∧ w' = (w.setCell ⟨k, 1, none⟩ (.bool true)).alloc (zeroB 4) := by
  refine calls_cps ?_
  intro R hR
  obtain ⟨c0, c1, f0⟩ := cells2 h
  have f1 := f0 1
  have hmk : ∀ w : World, (Instr.makeSlice 107 (.int .i64 4) (.int .i64 4)).run Tryz.prog w = .ok (.slice (some ⟨w.heap.size, 0, none⟩) 4 4) (w.alloc (zeroB 4)) := run_mkB 4 (by omega)
  clear h f0
  cases o
  all_goals
    go_enter Tryz.func65, Tryz.ntmps65
    go_wp2
    exact hR.out _ _ ⟨by simp, rfl⟩
set_option maxRecDepth 8000 in
set_option maxHeartbeats 2000000 in
theorem take0_any (w : World) (k : Nat) (A : Option Addr) (c : Nat) (o : Bool) (h : w.heap[k]? = some (.cells #[.slice A 0 c, .bool o] 162 (0, 0))) (ho : o = true) :
    Calls Tryz.prog 65 #[.pointer (some ⟨k, 0, none⟩), .int .i64 0] w fun e w' => e = .returned (.slice (some ⟨w.heap.size, 0, none⟩) 0 0) ∧ w' = (w.setCell ⟨k, 1, none⟩ (.bool true)).alloc (zeroB 0) := by
  refine calls_cps ?_
  intro R hR
  obtain ⟨c0, c1, f0⟩ := cells2 h
  have f1 := f0 1
  have hmk : ∀ w : World, (Instr.makeSlice 107 (.int .i64 0) (.int .i64 0)).run Tryz.prog w = .ok (.slice (some ⟨w.heap.size, 0, none⟩) 0 0) (w.alloc (zeroB 0)) := run_mkB 0 (by omega)
  clear h f0
  subst ho
  go_enter Tryz.func65, Tryz.ntmps65
  go_wp2
  exact hR.out _ _ ⟨by simp [], rfl⟩
set_option maxRecDepth 8000 in
set_option maxHeartbeats 2000000 in
theorem number2_any (w : World) (k : Nat) (A : Option Addr) (c : Nat) (o : Bool) (h : w.heap[k]? = some (.cells #[.slice A 0 c, .bool o] 162 (0, 0))) :
    Calls Tryz.prog 64 #[.pointer (some ⟨k, 0, none⟩), .int .i64 2] w fun e w' => e = .returned (.int .i64 0) ∧ w' = (w.setCell ⟨k, 1, none⟩ (.bool true)).alloc (zeroB 2) := by
  refine calls_cps ?_
  intro R hR
  have HT := Lib.hid (take2_any w k A c o h)
  have Hr := Lib.hid (hR.out (.returned (.int .i64 0)) ((w.setCell ⟨k, 1, none⟩ (.bool true)).alloc (zeroB 2)) ⟨rfl, rfl⟩)
  have Hz := Lib.hid (heap_alloc_new (w.setCell ⟨k, 1, none⟩ (.bool true)) (zeroB 2))
  have hsz : (w.setCell ⟨k, 1, none⟩ (.bool true)).heap.size = w.heap.size := by simp [World.setCell]
  rw [hsz] at Hz
  obtain ⟨W2, hW2⟩ : ∃ W2, (w.setCell ⟨k, 1, none⟩ (.bool true)).alloc (zeroB 2) = W2 := ⟨_, rfl⟩
  rw [hW2] at Hr Hz HT
  obtain ⟨g, hg⟩ : ∃ g, w.heap.size = g := ⟨_, rfl⟩
  rw [hg] at Hz HT
  clear hR h hsz hW2 hg
  go_enter Tryz.func64, Tryz.ntmps64
  go_wp2_with (go_at_call 65; (with_reducible refine HT.out.mono ?_); rintro e w' ⟨rfl, rfl⟩)
  go_loopw [5, 12] (fun s5 s12 wr => ∃ j : Nat, j ≤ 2 ∧ s5 = .int .i64 0 ∧ s12 = .int .i64 (j : Int) ∧ Hid (wr = w')) (fun _ s12 _ => 2 - (intOf s12).toNat)
  case atStart => exact ⟨0, by omega, rfl, rfl, Lib.hid rfl⟩
  case round =>
    obtain ⟨j, hj, rfl, rfl, Hw⟩ := hrel
    by_cases hlt : j < 2
    · have q0 := zero_cell wr g 2 (by have h := Hw.out; rw [h]; exact Hz.out) j hlt
      have i1 : (j : Int) < 2 := by omega
      go_wp2_with fail
      exact ⟨⟨j + 1, hlt, by go_num, by go_num, Hw⟩, by simp [intOf] <;> omega⟩
    · have hjn : j = 2 := by omega
      subst hjn
      have hr := Hr.out
      rw [← Hw.out] at hr
      have HF := Lib.hid hr
      clear Hr hr
      go_wp2
      exact HF.out
set_option maxRecDepth 8000 in
set_option maxHeartbeats 2000000 in
theorem number4_any (w : World) (k : Nat) (A : Option Addr) (c : Nat) (o : Bool) (h : w.heap[k]? = some (.cells #[.slice A 0 c, .bool o] 162 (0, 0))) :
    Calls Tryz.prog 64 #[.pointer (some ⟨k, 0, none⟩), .int .i64 4] w fun e w' => e = .returned (.int .i64 0) ∧ w' = (w.setCell ⟨k, 1, none⟩ (.bool true)).alloc (zeroB 4) := by
  refine calls_cps ?_
  intro R hR
  have HT := Lib.hid (take4_any w k A c o h)
  have Hr := Lib.hid (hR.out (.returned (.int .i64 0)) ((w.setCell ⟨k, 1, none⟩ (.bool true)).alloc (zeroB 4)) ⟨rfl, rfl⟩)
  have Hz := Lib.hid (heap_alloc_new (w.setCell ⟨k, 1, none⟩ (.bool true)) (zeroB 4))
  have hsz : (w.setCell ⟨k, 1, none⟩ (.bool true)).heap.size = w.heap.size := by simp [World.setCell]
  rw [hsz] at Hz
  obtain ⟨W2, hW2⟩ : ∃ W2, (w.setCell ⟨k, 1, none⟩ (.bool true)).alloc (zeroB 4) = W2 := ⟨_, rfl⟩
  rw [hW2] at Hr Hz HT
  obtain ⟨g, hg⟩ : ∃ g, w.heap.size = g := ⟨_, rfl⟩
  rw [hg] at Hz HT
  clear hR h hsz hW2 hg
  go_enter Tryz.func64, Tryz.ntmps64
  go_wp2_with (go_at_call 65; (with_reducible refine HT.out.mono ?_); rintro e w' ⟨rfl, rfl⟩)
  go_loopw [5, 12] (fun s5 s12 wr => ∃ j : Nat, j ≤ 4 ∧ s5 = .int .i64 0 ∧ s12 = .int .i64 (j : Int) ∧ Hid (wr = w')) (fun _ s12 _ => 4 - (intOf s12).toNat)
  case atStart => exact ⟨0, by omega, rfl, rfl, Lib.hid rfl⟩
  case round =>
    obtain ⟨j, hj, rfl, rfl, Hw⟩ := hrel
    by_cases hlt : j < 4
    · have q0 := zero_cell wr g 4 (by have h := Hw.out; rw [h]; exact Hz.out) j hlt
      have i1 : (j : Int) < 4 := by omega
      go_wp2_with fail
      exact ⟨⟨j + 1, hlt, by go_num, by go_num, Hw⟩, by simp [intOf] <;> omega⟩
    · have hjn : j = 4 := by omega
      subst hjn
      have hr := Hr.out
      rw [← Hw.out] at hr
      have HF := Lib.hid hr
      clear Hr hr
      go_wp2
      exact HF.out
theorem cur_next {w : World} {k n : Nat} {A : Option Addr} {c : Nat} {o : Bool} (h : w.heap[k]? = some (.cells #[.slice A 0 c, .bool o] 162 (0, 0))) :
    ((w.setCell ⟨k, 1, none⟩ (.bool true)).alloc (zeroB n)).heap[k]? = some (.cells #[.slice A 0 c, .bool true] 162 (0, 0)) := by
  have hs := hset (i := 1) (v := .bool true) h
  rw [heap_alloc_old _ _ (Array.getElem?_eq_some_iff.1 hs).1, hs]
  rfl
set_option maxRecDepth 8000 in
set_option maxHeartbeats 2000000 in
theorem decode0_any (w : World) (A : Option Addr) (c : Nat) : Calls Tryz.prog 41 #[.slice A 0 c] w fun e w' => e = .returned (.tuple #[.slice none 0 0, .int .i64 0]) ∧ Below w.heap.size w w' := by
  refine calls_cps ?_
  intro R hR
  have h0 := heap_alloc_new w (.cells #[.slice A 0 c, .bool false] 162)
  have b0 := below_new w (.cells #[.slice A 0 c, .bool false] 162)
  obtain ⟨k, hk⟩ : ∃ k, w.heap.size = k := ⟨_, rfl⟩
  have HK := Lib.hid hk
  rw [hk] at h0 b0
  have H0 := Lib.hid h0
  have HB0 := Lib.hid b0
  clear h0 b0 hk
  go_enter Tryz.func41, Tryz.ntmps41
  go_wp2_with fail
  rw [HK.out]
  refine (number2_any _ k A c false H0.out).mono ?_
  rintro e w1 ⟨rfl, hw1⟩
  have H1 := Lib.hid (show w1.heap[k]? = _ from hw1 ▸ cur_next (n := 2) H0.out)
  have HB1 := Lib.hid (show Below k w w1 from hw1 ▸ (set_below HB0.out (Nat.le_refl k)).alloc (by simp [World.setCell]; have := HK.out; omega) (zeroB 2))
  clear hw1 H0 HB0
  go_wp2_with fail
  refine (number4_any _ k A c true H1.out).mono ?_
  rintro e w2 ⟨rfl, hw2⟩
  have H2 := Lib.hid (show w2.heap[k]? = _ from hw2 ▸ cur_next (n := 4) H1.out)
  have HB2 := Lib.hid (show Below k w w2 from hw2 ▸ (set_below HB1.out (Nat.le_refl k)).alloc (by have := HB1.out.size; have := HK.out; simp [World.setCell]; omega) (zeroB 4))
  clear hw2 H1 HB1
  go_wp2_with fail
  refine (take0_any _ k A c true H2.out rfl).mono ?_
  rintro e w3 ⟨rfl, hw3⟩
  have H3 := Lib.hid (show w3.heap[k]? = _ from hw3 ▸ cur_next (n := 0) H2.out)
  have HB3 := Lib.hid (show Below k w w3 from hw3 ▸ (set_below HB2.out (Nat.le_refl k)).alloc (by have := HB2.out.size; have := HK.out; simp [World.setCell]; omega) (zeroB 0))
  clear hw3 H2 HB2
  obtain ⟨c0, c1, -⟩ := cells2 H3.out
  go_wp2
  exact hR.out _ _ ⟨rfl, by rw [HK.out]; exact HB3.out⟩
theorem bal_new (w : World) : BalZ (w.alloc (.map #[] 0)) w.heap.size 0 (balE []) :=
  ⟨.map [], ⟨World.ownsMap_made w _ _ _, fun p _ => rfl⟩, fun p _ => rfl, fun kl h => by simp [Maps.has] at h⟩
set_option maxRecDepth 8000 in
set_option maxHeartbeats 2000000 in
theorem open0_any (w : World) (F : Nat → Prop) (dk : Nat) (hd : Dsk w F dk Dk.new) (hu : Up w F) : Calls Tryz.prog 19 #[.pointer (some ⟨dk, 0, none⟩)] w fun e w' => ∃ a, w.heap.size ≤ a ∧ e = .returned (.tuple #[.pointer (some ⟨a, 0, none⟩), .int .i64 0]) ∧ Bd w' F a dk Dk.new ⟨[], false⟩ ∧ Below w.heap.size w w' := by
  refine calls_cps ?_
  intro R hR
  have HD := Lib.hid hd
  have HU := Lib.hid hu
  have hr := ready_any w F dk Dk.new hd
  obtain ⟨_, _, A, c, h2, _, _⟩ := hd
  unfold dkC at h2
  simp only [Dk.new, List.length_nil] at h2 hr
  have hlt := (Array.getElem?_eq_some_iff.1 h2).1
  have HR := Lib.hid hr
  have hmm := @run_makeMap Tryz.prog
  have H2 := Lib.hid h2
  have HW1 := Lib.hid (below_new w (.map #[] 0))
  obtain ⟨W1, hW1⟩ : ∃ W1, w.alloc (.map #[] 0) = W1 := ⟨_, rfl⟩
  have HB1 := Lib.hid (bal_new w)
  rw [hW1] at HW1 HB1
  have hs1 : W1.heap.size = w.heap.size + 1 := by rw [← hW1]; simp
  obtain ⟨W2, hW2⟩ : ∃ W2, W1.alloc (.cells #[.pointer (some ⟨dk, 0, none⟩), .slice none 0 0, .map (some w.heap.size), .bool false] 115) = W2 := ⟨_, rfl⟩
  have HW2 := Lib.hid (show Below w.heap.size w W2 from hW2 ▸ HW1.out.alloc (by omega) _)
  have hh2 := heap_alloc_new W1 (.cells #[.pointer (some ⟨dk, 0, none⟩), .slice none 0 0, .map (some w.heap.size), .bool false] 115)
  rw [hW2, hs1] at hh2
  have HH := Lib.hid hh2
  have HB2 := Lib.hid (HB1.out.keep (w := W2) (by rw [← hW2]; exact heap_alloc_old W1 _ HB1.out.lt))
  have HE1 := Lib.hid hW1
  have HE2 := Lib.hid hW2
  clear hu h2 hh2 hW1 hW2 hr
  go_enter Tryz.func19, Tryz.ntmps19
  go_wp2_with (go_at_call 40; (with_reducible refine HR.out.mono ?_); rintro e w' ⟨rfl, rfl⟩)
  rw [HE1.out, HE2.out]
  have hd2 := (HW2.out.block dk hlt).trans H2.out
  obtain ⟨d0, d1, d2, d3, d4, -⟩ := hcell5 hd2
  have HD2 := Lib.hid hd2
  have Hlt2 := Lib.hid (Array.getElem?_eq_some_iff.1 hd2).1
  have HDec := Lib.hid (fun A' c' => decode0_any W2 A' c')
  have HA := Lib.hid (show A = none ∨ ∃ g, A = some ⟨g, 0, none⟩ from by
    obtain ⟨_, _, A2, c2, k2, ho, _⟩ := HD.out
    unfold dkC at k2
    simp only [Dk.new, List.length_nil] at k2 ho
    rw [H2.out] at k2
    simp only [Option.some.injEq, Obj.cells.injEq, Array.mk.injEq, List.cons.injEq, Value.slice.injEq, and_true, true_and] at k2
    obtain ⟨rfl, rfl⟩ := k2
    rcases ho.2 with ⟨hv, _⟩ | ⟨g, _, _, hv, _⟩
    · simp only [Value.slice.injEq] at hv
      exact .inl hv.1
    · simp only [Value.slice.injEq] at hv
      exact .inr ⟨g, hv.1⟩)
  clear hd2 hmm hs1
  rcases HA.out with rfl | ⟨g, rfl⟩
  all_goals
    refine wp_loop_rounds 1 ?_
    rw [rounds_succ]
    go_wp2_with (go_at_call 41; (with_reducible refine (HDec.out _ _).mono ?_); rintro e w3 ⟨rfl, hb3⟩; have HB3 := Lib.hid hb3; obtain ⟨e0, e1, e2, e3, e4, -⟩ := hcell5 ((hb3.block dk Hlt2.out).trans HD2.out); clear hb3)
    have hb3 : Below w.heap.size w w3 := HW2.out.trans (HB3.out.mono HW2.out.size)
    have hl := (Array.getElem?_eq_some_iff.1 HH.out).1
    refine hR.out _ _ ⟨w.heap.size + 1, by omega, rfl, ⟨HD.out.below hb3, HU.out _ (by omega), none, 0, w.heap.size, 0, (HB3.out.block _ hl).trans HH.out, ⟨[], World.ownsRow_nil _ _ _ _, fun g hg => by simp [Value.ownBlock] at hg, fun i e he => by simp at he⟩, HU.out _ (Nat.le_refl _), by simp, HB2.out.keep (HB3.out.block _ (by omega))⟩, hb3⟩
end
end Go.Proofs.YtndcijkgaadpgaaGreatDoor
