/-
  Contracts of the small functions of the panel: in, within, both Checks, as, part; no condition but those that each contract states. Contracts of the small functions of the panel: Check; no condition but those that each contract states. The contract of panel.Layout: the pieces of a plan, or ErrForm, or ErrArg; its deferred closure by two contracts; no condition but that its arguments read. Contracts of the panel's bounds: enters, fits, Ceiling, Sheets; no condition but those that each contract states. Contracts of panel.Worth and panel.Waste, and of the document's Worth and Area; no condition but that the arguments read. Contracts of panel.Worth and panel.Waste; no condition but that the arguments read. The contracts of panel.Counts, and of Worth, Waste and Counts of a panel that is not valid; no condition but that the arguments read.
-/
import Derived.Test.YtndcijkgaadpgaaGreatDoorUm
import Derived.Test.YtndcijkgaadpgaaGreatDoorUv
import Derived.Test.YtndcijkgaadpgaaGreatDoorUu
import Derived.Test.YtndcijkgaadpgaaGreatDoorMMem
import Derived.Defers
import Derived.Recover
namespace Go.Proofs.YtndcijkgaadpgaaGreatDoor
section
open Go.RowKit

set_option maxHeartbeats 400000 in
theorem within_any (v hi : Int) (w : World) :
    Calls Tryz.prog 311 #[.int .i64 v, .int .i64 hi] w fun e w' => e = .returned (.bool (inB v 1 hi)) ∧ w = w' := by
  unfold inB
  by_cases h1 : 1 ≤ v <;> by_cases h2 : v ≤ hi
  all_goals
    go_enter Tryz.func311, Tryz.ntmps311
    go_wp2
    go_ret
    exact ⟨by simp [*], rfl⟩
end
section
open Go.RowKit

theorem take_all_succ {α : Type} (p : α → Bool) (l : List α) (k : Nat) (x : α) (hx : l[k]? = some x) : (l.take (k + 1)).all p = ((l.take k).all p && p x) := by
  obtain ⟨hk, rfl⟩ := List.getElem?_eq_some_iff.1 hx
  rw [List.take_succ_eq_append_getElem hk, List.all_append]
  simp
set_option maxHeartbeats 1000000 in
theorem check_any (W H K : Int) (A : Option Addr) (n c : Nat) (ss : List Shp) (w : World) (hS : SlE Shp.enc 4 w A n ss) (hn : n ≤ 9223372036854775807) :
    Calls Tryz.prog 240 #[.int .i64 W, .int .i64 H, .int .i64 K, .slice A n c] w fun e w' => e = .returned (.int .i64 (if panOk W H K ss then 0 else 1)) ∧ Below w.heap.size w w' := by
  refine calls_cps ?_
  intro R hR
  have hL := Lib.hid hS.1
  obtain ⟨B0, hB0⟩ : ∃ B0, (inB W 1 64 && inB H 1 64 && inB K 0 8 && decide (n ≤ 16)) = B0 := ⟨_, rfl⟩
  have hP : Hid (panOk W H K ss = (B0 && ss.all shpOk)) := by rw [← hB0, hS.1]; rfl
  have HB0 := Lib.hid hB0
  clear hB0
  go_enter Tryz.func240, Tryz.ntmps240
  go_upto_region 1 with fail
  go_cut [9] (fun s9 wx => s9 = .bool B0 ∧ wx = w)
  case first =>
    go_wp2_with (first | (go_at_call 311; refine (within_any _ _ _).mono ?_; rintro e w' ⟨rfl, rfl⟩))
    all_goals
      go_meet
      refine ⟨?_, rfl⟩
      rw [← HB0.out]
      simp_all [inB]
      try omega
  case rest =>
    obtain ⟨rfl, rfl⟩ := hcut
    go_wp2_with fail
    go_loopw [9, 33] (fun s i wr => ∃ (k : Nat) (bk : Bool), k ≤ n ∧ i = .int .i64 k ∧ s = .bool bk ∧ Hid (bk = (B0 && (ss.take k).all shpOk)) ∧ Below wc.heap.size wc wr) (fun _ i _ => n - (intOf i).toNat)
    case atStart => exact ⟨0, B0, Nat.zero_le _, rfl, rfl, Lib.hid (by simp), Below.refl _ _⟩
    case round =>
      obtain ⟨k, bk, hk, rfl, rfl, Hbk, hb⟩ := hrel
      by_cases hlt : k < n
      · obtain ⟨b, o, s, rfl, hbl, hs, c0, c1, c2, c3⟩ := (hS.below hb).at4 hlt
        have Hs := Lib.hid hs
        clear hs
        have Hn := Lib.hid (show ∀ b', b' = (bk && shpOk s) → b' = (B0 && (ss.take (k + 1)).all shpOk) from fun b' h => by rw [h, Hbk.out, take_all_succ shpOk ss k s Hs.out, Bool.and_assoc])
        cases bk
        all_goals
          go_wp2_with (first | (go_at_call 311; refine (within_any _ _ _).mono ?_; rintro e w' ⟨rfl, rfl⟩))
        all_goals
          go_roundw
          case rel => exact ⟨k + 1, _, by omega, by go_num, rfl, Lib.hid (Hn.out _ (by simp_all [shpOk, inB] <;> omega)), hb.alloc hb.size _⟩
          case measure => simp [intOf]; omega
      · obtain rfl : k = n := by omega
        have h := Hbk.out
        rw [List.take_of_length_le (by rw [hL.out]; exact Nat.le_refl _)] at h
        have Hfin := Lib.hid (show ∀ i W', i = (if bk then 0 else 1) → Below wc.heap.size wc W' → R (.returned (.int .i64 i)) W' from fun i W' h1 h2 => hR.out _ _ ⟨ret_int (by rw [h1, h, ← hP.out]), h2⟩)
        clear h Hbk
        cases bk
        all_goals
          go_wp2
          exact Hfin.out _ _ rfl hb
end
section
open Go.RowKit

theorem run_ta (w : World) : (Instr.typeAssert (.iface 457 (.agg #[])) 20 457 true).run Tryz.prog w = .ok (.tuple #[.agg #[], .bool true]) w := by
  simp [Instr.typeAssert, run_underlying Tryz.underlying457]
set_option maxRecDepth 100000 in
set_option maxHeartbeats 1000000 in
theorem catch_panicking (b b' : Nat) (x : Value) (y : Int) (older : List PanicEntry) (w : World) (hc : w.cell? ⟨b, 0, none⟩ = some x) (hc2 : w.cell? ⟨b', 0, none⟩ = some (.int .i64 y)) (hz : w.frozen? ⟨b, 0, none⟩ = false) (hz2 : w.frozen? ⟨b', 0, none⟩ = false) (hne : b ≠ b') (hb : b < w.heap.size) (hb' : b' < w.heap.size) :
    CallsD Tryz.prog 313 #[.pointer (some ⟨b, 0, none⟩), .pointer (some ⟨b', 0, none⟩)] (.panicking ({ v := .iface 457 (.agg #[]), recovered := false } :: older)) w fun e u' w' =>
      e = .returned (.tuple #[]) ∧ u' = .panicking ({ v := .iface 457 (.agg #[]), recovered := true } :: older) ∧ Below w.heap.size ((w.setCell ⟨b, 0, none⟩ (.slice none 0 0)).setCell ⟨b', 0, none⟩ (.int .i64 2)) w' := by
  refine callsD_of_wpS Tryz.func313 rfl fun c₀ cs hu => ?_
  apply wpS_seq
  apply wpS_region
  simp [wpOpsS, go_sem, recoverD, hu, Tryz.ntmps313, Exit.thenS]
  apply wpS_seq
  apply wpS_region
  simp [wpOpsS, go_sem, Exit.thenS]
  refine wpS_cond (t := true) (by simp [Act.eval, Array.replicate]) ?_
  simp only [if_true]
  refine wpS_of_wp ?_
  simp only [Array.replicate, List.replicate, List.setIfInBounds_toArray, List.set_cons_zero, List.set_cons_succ, List.append_toArray, List.cons_append, List.nil_append]
  have hta := run_ta
  go_wp2
  refine ⟨rfl, _, rfl, .tuple #[], by simp [results, Tryz.results313], rfl, rfl, ?_⟩
  have h := below_new ((w.setCell ⟨b, 0, none⟩ (.slice none 0 0)).setCell ⟨b', 0, none⟩ (.int .i64 2)) (.cells #[] 457)
  have e : ((w.setCell ⟨b, 0, none⟩ (.slice none 0 0)).setCell ⟨b', 0, none⟩ (.int .i64 2)).heap.size = w.heap.size := by simp [World.setCell]
  rwa [e] at h
set_option maxRecDepth 100000 in
set_option maxHeartbeats 1000000 in
theorem catch_idle (p q : Addr) (w : World) :
    CallsD Tryz.prog 313 #[.pointer (some p), .pointer (some q)] .returning w fun e u' w' => e = .returned (.tuple #[]) ∧ u' = .returning ∧ w' = w := by
  refine callsD_of_wpS Tryz.func313 rfl fun c₀ cs hu => ?_
  apply wpS_seq
  apply wpS_region
  simp [wpOpsS, go_sem, recoverD, hu, Tryz.ntmps313, Exit.thenS]
  apply wpS_seq
  apply wpS_region
  simp [wpOpsS, go_sem, Exit.thenS]
  refine wpS_cond (t := false) (by simp [Act.eval, Array.replicate]) ?_
  simp only [Bool.false_eq_true, if_false]
  refine wpS_of_wp (wp_skip ?_)
  cases c₀
  simp_all [bodyPostS, results, Tryz.results313]
theorem cells1 {W : World} {b : Nat} {t : TypeId} {u0 : Value} (h : W.heap[b]? = some (.cells #[u0] t (0, 0))) : W.cell? ⟨b, 0, none⟩ = some u0 ∧ (∀ j, W.frozen? ⟨b, j, none⟩ = false) :=
  ⟨by rw [cell_of_row _ _ 0 _ _ (0, 0) h]; rfl, fun j => by simp [World.frozen?, h]⟩
theorem lay_boxes {w w1 : World} {o1 o2 : Obj} (hb : Below (w.heap.size + 1 + 1) ((w.alloc o1).alloc o2) w1) : w1.heap[w.heap.size]? = some o1 ∧ w1.heap[w.heap.size + 1]? = some o2 ∧ Below w.heap.size w w1 := by
  refine ⟨(hb.block _ (by omega)).trans ((Below.heap_alloc _ _ _ (by simp)).trans (heap_alloc_new w _)), (hb.block _ (by omega)).trans ?_, (below_two w o1 o2).trans (hb.mono (by omega))⟩
  have := heap_alloc_new (w.alloc o1) o2
  rwa [World.size_alloc] at this
theorem unit_set {W : World} {b : Nat} {t : TypeId} {u0 u : Value} (h : W.heap[b]? = some (.cells #[u0] t (0, 0))) : (W.setCell ⟨b, 0, none⟩ u).heap[b]? = some (.cells #[u] t (0, 0)) := by
  simp [World.setCell, Array.getElem?_modify, h]
/-- The door behind a plan that is none: recovered, nil and ErrForm. -/
theorem lay_door {w w2 : World} {t0 t1 : TypeId} {R : Ending → World → Prop} {tmps : Array Value} {ch : List PanicEntry} (hch : ch = [{ v := .iface 457 (.agg #[]), recovered := false }])
    (g0 : w2.heap[w.heap.size]? = some (.cells #[.slice none 0 0] t0 (0, 0))) (g1 : w2.heap[w.heap.size + 1]? = some (.cells #[.int .i64 0] t1 (0, 0))) (hbw : Below w.heap.size w w2)
    (hR : ∀ W', Below w.heap.size w W' → R (.returned (.tuple #[.slice none 0 0, .int .i64 2])) W')
    (h10 : tmps[10]? = some (.pointer (some ⟨w.heap.size, 0, none⟩)) := by rfl) (h11 : tmps[11]? = some (.pointer (some ⟨w.heap.size + 1, 0, none⟩)) := by rfl) :
    bodyPostD Tryz.prog Tryz.f243 R (Exit.panic ch) { tmps := tmps, defers := [{ target := Target.fn (Fn.func 313) #[.pointer (some ⟨w.heap.size, 0, none⟩), .pointer (some ⟨w.heap.size + 1, 0, none⟩)], args := #[] }] } w2 := by
  subst hch
  obtain ⟨q0, q1⟩ := cells1 g0
  obtain ⟨z0, z1⟩ := cells1 g1
  have hz0 := (Array.getElem?_eq_some_iff.1 g0).1
  have hz1 := (Array.getElem?_eq_some_iff.1 g1).1
  refine leaves_cons (f := 313) (args := #[.pointer (some ⟨w.heap.size, 0, none⟩), .pointer (some ⟨w.heap.size + 1, 0, none⟩)]) (by simp) (by simp [go_sem]) ?_
  refine (catch_panicking w.heap.size (w.heap.size + 1) _ _ [] w2 q0 z0 (q1 0) (z1 0) (by omega) hz0 hz1).mono ?_
  rintro e u' w3 ⟨rfl, rfl, hb3⟩
  have k0 := (hb3.block w.heap.size hz0).trans ((Below.heap_setCell _ _ _ _ (by dsimp only; omega)).trans (unit_set g0 (u := .slice none 0 0)))
  have k1 := (hb3.block (w.heap.size + 1) hz1).trans (unit_set ((Below.heap_setCell _ _ _ _ (by dsimp only; omega)).trans g1) (u := .int .i64 2))
  obtain ⟨y0, _⟩ := cells1 k0
  obtain ⟨y1, _⟩ := cells1 k1
  have hbf := hR w3 (((hbw.setCell (by simp) _).setCell (by simp) _).trans (hb3.mono hbw.size))
  refine ⟨.tuple #[.slice none 0 0, .int .i64 2], ?_, hbf⟩
  simp [results, Tryz.results243, go_sem, y0, y1, h10, h11]
theorem own_low {W : World} {b b' e s n : Nat} {v : Value} {xs : List Value} (h : W.ownsRow b e s v n xs) (hb : b' ≤ b) : W.ownsRow b' e s v n xs := by
  refine ⟨h.1, ?_⟩
  rcases h.2 with h0 | ⟨g, c, cur, h1, h2, h3⟩
  · exact .inl h0
  · exact .inr ⟨g, c, cur, h1, Nat.le_trans hb h2, h3⟩
/-- What Layout hands back. -/
def LayPost (w : World) (res : Option (List Pc)) (e : Ending) (w' : World) : Prop :=
  Below w.heap.size w w' ∧ ((res = none ∧ e = .returned (.tuple #[.slice none 0 0, .int .i64 2])) ∨ ∃ p A n c, res = some p ∧ e = .returned (.tuple #[.slice A n c, .int .i64 0]) ∧ n = p.length ∧ w'.ownsRow w.heap.size 379 5 (.slice A n c) n (p.flatMap pcE))
set_option maxRecDepth 100000 in
set_option maxHeartbeats 4000000 in
theorem layout_no (W H k : Int) (B A : Option Addr) (m d n c : Nat) (ss : List Shp) (w : World) (hS : SlE Shp.enc 4 w B m ss) (hm : m ≤ 9223372036854775807) (hp : panOk W H k ss = false) :
    Calls Tryz.prog 243 #[.int .i64 W, .int .i64 H, .int .i64 k, .slice B m d, .slice A n c] w fun e w' => e = .returned (.tuple #[.slice none 0 0, .int .i64 1]) ∧ Below w.heap.size w w' := by
  have hmf : ∀ (fn : Fn) (first cap : Array Value) (w : World), (Instr.makeFunc fn first cap).run Tryz.prog w = .ok (.func fn first cap) w := fun _ _ _ _ => rfl
  go_enter_defers Tryz.func243, Tryz.ntmps243
  go_wp2_with fail
  refine (check_any _ _ _ _ _ _ ss _ ((hS.alloc _).alloc _) hm).mono ?_
  rw [hp]
  rintro e w1 ⟨rfl, hb⟩
  rw [World.size_alloc, World.size_alloc] at hb
  obtain ⟨h0, h1, h2⟩ := lay_boxes hb
  obtain ⟨q0, q1⟩ := cells1 h0
  obtain ⟨z0, z1⟩ := cells1 h1
  go_wp2
  refine ⟨.tuple #[.slice none 0 0, .int .i64 1], by simp [results, Tryz.results243, go_sem, q0, z0], rfl, (h2.setCell (by simp) _).setCell (by simp) _⟩
set_option maxRecDepth 100000 in
set_option maxHeartbeats 4000000 in
theorem layout_ok (W H k : Int) (B A : Option Addr) (m d n c : Nat) (ss : List Shp) (l : Cuts) (w : World) (hS : SlE Shp.enc 4 w B m ss) (hL : SlE cutE 2 w A n l) (hnc : n ≤ c) (hc : c ≤ 9223372036854775807) (hn : n ≤ 10000) (hp : panOk W H k ss = true) :
    Calls Tryz.prog 243 #[.int .i64 W, .int .i64 H, .int .i64 k, .slice B m d, .slice A n c] w (LayPost w (planOut k ss W H l)) := by
  refine calls_cps ?_
  intro R hR
  obtain ⟨hW1, hW2, hH1, hH2, hk0, hk8, hss, hok⟩ := panOk_ok hp
  have hm : m ≤ 9223372036854775807 := by rw [hS.1]; omega
  have hmf : ∀ (fn : Fn) (first cap : Array Value) (w : World), (Instr.makeFunc fn first cap).run Tryz.prog w = .ok (.func fn first cap) w := fun _ _ _ _ => rfl
  have Hok := Lib.hid hok
  clear hok
  go_enter_defers Tryz.func243, Tryz.ntmps243
  go_wp2_with fail
  refine (check_any _ _ _ _ _ _ ss _ ((hS.alloc _).alloc _) hm).mono ?_
  rw [hp]
  rintro e w1 ⟨rfl, hb⟩
  have hS1 := ((hS.alloc _).alloc _).below hb
  have hL1 := ((hL.alloc _).alloc _).below hb
  rw [World.size_alloc, World.size_alloc] at hb
  obtain ⟨h0, h1, h2⟩ := lay_boxes hb
  obtain ⟨q0, q1⟩ := cells1 h0
  obtain ⟨z0, z1⟩ := cells1 h1
  have hblk : ∀ {α : Type} {enc : α → List Value} {sz : Nat} {A : Option Addr} {n : Nat} {l : List α}, SlE enc sz w1 A n l → 0 < n → ∀ a, A = some a → a.block < w1.heap.size + 1 ∧ a.block ≠ w1.heap.size := fun h h0 a ha => by
    obtain ⟨b, o, hA, hlt, _⟩ := h.2.2 h0
    rw [ha] at hA
    injection hA with hA
    subst hA
    dsimp only
    omega
  have hr : Rdr (w1.alloc (.cells #[.int .i64 k, .slice B m d, .slice A n c, .slice none 0 0] 461)) w1.heap.size (w1.heap.size + 1) k B m d ss A n c l (.slice none 0 0) 0 [] :=
    ⟨heap_alloc_new w1 _, hS1.alloc _, hL1.alloc _, World.ownsRow_nil _ _ _ _, hblk hS1, hblk hL1, by omega, by simp, rfl, hnc, hc⟩
  have hln : l.length ≤ 10000 := by rw [← hL1.1]; exact hn
  have hx0 : w1.heap[w.heap.size]? = some (.cells #[.slice none 0 0] 375 (0, 0)) := h0
  have hx1 : w1.heap[w.heap.size + 1]? = some (.cells #[.int .i64 0] 31 (0, 0)) := h1
  have hz0 := (Array.getElem?_eq_some_iff.1 hx0).1
  have hz1 := (Array.getElem?_eq_some_iff.1 hx1).1
  clear hp hS hL hb hblk hS1 hL1 h0 h1
  obtain ⟨res, hres⟩ : ∃ r, rd k ss (l.length + 1) 0 0 W H l = r := ⟨_, rfl⟩
  have hpo : planOut k ss W H l = res.bind fun u => if u.1 = [] then some u.2 else none := by rw [← hres]; rfl
  have Hpo := Lib.hid hpo
  have Hres := Lib.hid hres
  clear hpo hres
  go_wp2_with fail
  refine (read_any k hk0 hk8 ss hss Hok.out w1.heap.size (w1.heap.size + 1) B m d (l.length + 1) 0 0 W H A n c l (.slice none 0 0) 0 [] _ (by omega) hr hW1 hW2 hH1 hH2 (by omega) (by omega) (by omega) (by omega) (by omega) (by omega) (by omega)).mono ?_
  rw [Hres.out]
  rintro e w2 (⟨l', pc', hres2, rfl, A', c', v', hr2, _, hk⟩ | ⟨hres2, rfl, hk⟩)
  · have hs2 := hk.size
    rw [World.size_alloc] at hs2
    have g0 : w2.heap[w.heap.size]? = some (.cells #[.slice none 0 0] 375 (0, 0)) := (hk.block _ (by simp; omega) (by omega) (by simp [Value.ownBlock])).trans ((Below.heap_alloc _ _ _ hz0).trans hx0)
    have g1 : w2.heap[w.heap.size + 1]? = some (.cells #[.int .i64 0] 31 (0, 0)) := (hk.block _ (by simp; omega) (by omega) (by simp [Value.ownBlock])).trans ((Below.heap_alloc _ _ _ hz1).trans hx1)
    have hbw : Below w.heap.size w w2 := ⟨hk.os.trans h2.os, hk.tape.trans h2.tape, hk.output.trans h2.output, Nat.le_trans h2.size (by omega), fun j hj => (hk.block j (by simp; have := h2.size; omega) (by have := h2.size; omega) (by simp [Value.ownBlock])).trans ((Below.heap_alloc _ _ _ (by have := h2.size; omega)).trans (h2.block j hj))⟩
    obtain ⟨q0, q1, q2, q3, q4⟩ := cells4 hr2.box
    obtain ⟨u0, u1⟩ := cells1 g0
    obtain ⟨z0, z1⟩ := cells1 g1
    have hl2 : l'.length ≤ 9223372036854775807 := Nat.le_trans hr2.nc hr2.cb
    by_cases hl0 : l' = []
    · subst hl0
      have hps : planOut k ss W H l = some pc' := by rw [Hpo.out, hres2]; rfl
      have hown := hr2.own
      rw [Nat.zero_add, List.nil_append] at hown
      obtain ⟨A5, c5, rfl, hn5, hc5, hown⟩ := own_slice hown
      have Hps := Lib.hid hps
      have hown2 : ((w2.setCell ⟨w.heap.size, 0, none⟩ (.slice A5 pc'.length c5)).setCell ⟨w.heap.size + 1, 0, none⟩ (.int .i64 0)).ownsRow w.heap.size 379 5 (.slice A5 pc'.length c5) pc'.length (pc'.flatMap pcE) :=
        own_low (ownsRow_setCell_below (ownsRow_setCell_below hown (a := ⟨w.heap.size, 0, none⟩) (by dsimp only; omega) _) (a := ⟨w.heap.size + 1, 0, none⟩) (by dsimp only; omega) _) (by have := h2.size; omega)
      have k0 := (Below.heap_setCell (w2.setCell ⟨w.heap.size, 0, none⟩ (.slice A5 pc'.length c5)) ⟨w.heap.size + 1, 0, none⟩ (.int .i64 0) w.heap.size (by dsimp only; omega)).trans (unit_set g0 (u := .slice A5 pc'.length c5))
      have k1 := unit_set ((Below.heap_setCell w2 ⟨w.heap.size, 0, none⟩ (.slice A5 pc'.length c5) (w.heap.size + 1) (by dsimp only; omega)).trans g1) (u := .int .i64 0)
      have K0 := Lib.hid k0
      have K1 := Lib.hid k1
      have HO := Lib.hid hown2
      have HB := Lib.hid ((hbw.setCell (p := ⟨w.heap.size, 0, none⟩) (by simp) (.slice A5 pc'.length c5)).setCell (p := ⟨w.heap.size + 1, 0, none⟩) (by simp) (.int .i64 0))
      clear hps hown2 k0 k1
      go_wp2_with (go_at_call 315; refine (must_ok _).mono ?_; rintro e w' ⟨rfl, rfl⟩)
      refine leaves_cons (f := 313) (args := #[.pointer (some ⟨w.heap.size, 0, none⟩), .pointer (some ⟨w.heap.size + 1, 0, none⟩)]) (by simp) (by simp [go_sem]) ?_
      refine (catch_idle _ _ _).mono ?_
      rintro e u' w3 ⟨rfl, rfl, rfl⟩
      obtain ⟨y0, _⟩ := cells1 K0.out
      obtain ⟨y1, _⟩ := cells1 K1.out
      refine ⟨.tuple #[.slice A5 pc'.length c5, .int .i64 0], ?_, hR.out _ _ ⟨HB.out, .inr ⟨pc', A5, _, c5, Hps.out, rfl, rfl, HO.out⟩⟩⟩
      simp only [results, Tryz.results243]
      simp [go_sem, y0, y1]
    · have hpn : planOut k ss W H l = none := by rw [Hpo.out, hres2]; simp [hl0]
      have hb0 : ((l'.length : Int) == 0) = false := by
        have : l'.length ≠ 0 := fun h => hl0 (List.eq_nil_of_length_eq_zero h)
        simp; omega
      have Hfin := Lib.hid (fun W' hb => hR.out (.returned (.tuple #[.slice none 0 0, .int .i64 2])) W' ⟨hb, .inl ⟨hpn, rfl⟩⟩)
      go_wp2_with (go_at_call 315; refine (must_no _).mono ?_; rintro e w' ⟨rfl, rfl⟩)
      exact lay_door (by simp [malP]) g0 g1 hbw Hfin.out
  · have hpn : planOut k ss W H l = none := by rw [Hpo.out, hres2]; rfl
    have hs2 := hk.size
    rw [World.size_alloc] at hs2
    have g0 : w2.heap[w.heap.size]? = some (.cells #[.slice none 0 0] 375 (0, 0)) := (hk.block _ (by simp; omega) (by omega) (by simp [Value.ownBlock])).trans ((Below.heap_alloc _ _ _ hz0).trans hx0)
    have g1 : w2.heap[w.heap.size + 1]? = some (.cells #[.int .i64 0] 31 (0, 0)) := (hk.block _ (by simp; omega) (by omega) (by simp [Value.ownBlock])).trans ((Below.heap_alloc _ _ _ hz1).trans hx1)
    have hbw : Below w.heap.size w w2 := ⟨hk.os.trans h2.os, hk.tape.trans h2.tape, hk.output.trans h2.output, Nat.le_trans h2.size (by omega), fun j hj => (hk.block j (by simp; have := h2.size; omega) (by have := h2.size; omega) (by simp [Value.ownBlock])).trans ((Below.heap_alloc _ _ _ (by have := h2.size; omega)).trans (h2.block j hj))⟩
    have Hfin := Lib.hid (fun W' hb => hR.out (.returned (.tuple #[.slice none 0 0, .int .i64 2])) W' ⟨hb, .inl ⟨hpn, rfl⟩⟩)
    go_wp2
    exact lay_door (by simp [malP]) g0 g1 hbw Hfin.out
end
section
open Go.RowKit


theorem boxed4 {W W1 : World} {u0 u1 u2 u3 : Value} {t : TypeId} (hb : Below (W.heap.size + 1) (W.alloc (.cells #[u0, u1, u2, u3] t)) W1) :
    W1.cell? ⟨W.heap.size, 0, none⟩ = some u0 ∧ W1.cell? ⟨W.heap.size, 1, none⟩ = some u1 ∧ W1.cell? ⟨W.heap.size, 2, none⟩ = some u2 ∧ W1.cell? ⟨W.heap.size, 3, none⟩ = some u3 ∧ (∀ j, W1.frozen? ⟨W.heap.size, j, none⟩ = false) ∧ Below W.heap.size W W1 ∧ W.heap.size < W1.heap.size := by
  have h := (hb.block W.heap.size (by omega)).trans (heap_alloc_new W (.cells #[u0, u1, u2, u3] t))
  refine ⟨by rw [cell_of_row _ _ 0 _ _ (0, 0) h]; rfl, by rw [cell_of_row _ _ 1 _ _ (0, 0) h]; rfl, by rw [cell_of_row _ _ 2 _ _ (0, 0) h]; rfl, by rw [cell_of_row _ _ 3 _ _ (0, 0) h]; rfl, fun j => by simp [World.frozen?, h], (below_new W _).trans (hb.mono (by omega)), ?_⟩
  have := hb.size
  simp at this; omega
end
section
open Go.RowKit

def worthO (ss : List Shp) (res : Option (List Pc)) : Int := match res with | some p => worthP ss p | none => 0
def wasteO (W H : Int) (res : Option (List Pc)) : Int := match res with | some p => W * H - areaP p | none => 0
def outE (res : Option (List Pc)) : Int := match res with | some _ => 0 | none => 2
theorem worthP_take (ss : List Shp) (p : List Pc) (j : Nat) (q : Pc) (hq : p[j]? = some q) : worthP ss (p.take (j + 1)) = worthP ss (p.take j) + pcVal ss q := by
  obtain ⟨hj, rfl⟩ := List.getElem?_eq_some_iff.1 hq
  rw [List.take_succ_eq_append_getElem hj, worthP_append]
  simp [worthP]
theorem areaP_take (p : List Pc) (j : Nat) (q : Pc) (hq : p[j]? = some q) : areaP (p.take (j + 1)) = areaP (p.take j) + q.W * q.H := by
  obtain ⟨hj, rfl⟩ := List.getElem?_eq_some_iff.1 hq
  rw [List.take_succ_eq_append_getElem hj, areaP_append]
  simp [areaP]
/-- What every piece of a plan of a valid panel is. -/
def PcOk (ss : List Shp) (q : Pc) : Prop := (0 ≤ q.X ∧ q.X ≤ 64) ∧ (0 ≤ q.Y ∧ q.Y ≤ 64) ∧ (1 ≤ q.W ∧ q.W ≤ 64) ∧ (1 ≤ q.H ∧ q.H ≤ 64) ∧ ∃ (i : Nat) (s : Shp), q.S = i ∧ ss[i]? = some s ∧ q.W * q.H = s.W * s.H
theorem planOut_ok {W H k : Int} {ss : List Shp} {l : Cuts} {p : List Pc} (hp : panOk W H k ss = true) (h : planOut k ss W H l = some p) : (∀ q ∈ p, PcOk ss q) ∧ p.length ≤ 4096 ∧ p.length ≤ l.length ∧ 0 ≤ areaP p ∧ areaP p ≤ W * H := by
  obtain ⟨hW1, hW2, hH1, hH2, hk0, _⟩ := panOk_ok hp
  have hr := planOut_Rd h
  obtain ⟨a1, a2, a3⟩ := hr.area hk0 hW1 hH1
  have hlen := hr.len
  have : W * H ≤ 64 * 64 := Int.mul_le_mul hW2 hH2 (by omega) (by omega)
  refine ⟨fun q hq => ?_, by omega, by simp at hlen; omega, a1, a2⟩
  obtain ⟨⟨i1, i2, i3, i4, i5, i6⟩, hs⟩ := hr.inside hk0 hW1 hH1 q hq
  exact ⟨⟨i1, by omega⟩, ⟨i2, by omega⟩, ⟨i3, by omega⟩, ⟨i4, by omega⟩, hs⟩
theorem worthP_bd {ss : List Shp} (hs : ∀ s ∈ ss, 0 ≤ s.V ∧ s.V ≤ 1000000) (p : List Pc) : 0 ≤ worthP ss p ∧ worthP ss p ≤ 1000000 * p.length := by
  induction p with
  | nil => simp [worthP]
  | cons q r ih =>
    have e : worthP ss (q :: r) = worthP ss [q] + worthP ss r := by rw [← worthP_append]; rfl
    have e2 : worthP ss [q] = pcVal ss q := by simp [worthP]
    have : 0 ≤ pcVal ss q ∧ pcVal ss q ≤ 1000000 := by
      unfold pcVal
      split
      · rename_i s h; exact hs s (List.mem_of_getElem? h)
      · omega
    rw [e, e2, List.length_cons]
    omega
theorem SlE.at5 {w : World} {A : Option Addr} {n k : Nat} {l : List Pc} (h : SlE pcE 5 w A n l) (hk : k < n) :
    ∃ b o s, A = some ⟨b, o, none⟩ ∧ b < w.heap.size ∧ l[k]? = some s ∧ w.cell? ⟨b, o + k * 5, none⟩ = some (.int .i64 s.X) ∧ w.cell? ⟨b, o + k * 5 + 1, none⟩ = some (.int .i64 s.Y) ∧
      w.cell? ⟨b, o + k * 5 + 2, none⟩ = some (.int .i64 s.W) ∧ w.cell? ⟨b, o + k * 5 + 3, none⟩ = some (.int .i64 s.H) ∧ w.cell? ⟨b, o + k * 5 + 4, none⟩ = some (.int .i64 s.S) := by
  obtain ⟨b, o, x, hA, hb, hx, hc⟩ := h.at_ pcE_len hk
  exact ⟨b, o, x, hA, hb, hx, by simpa using hc 0 _ rfl, by simpa [Nat.add_assoc] using hc 1 _ rfl, by simpa [Nat.add_assoc] using hc 2 _ rfl, by simpa [Nat.add_assoc] using hc 3 _ rfl, by simpa [Nat.add_assoc] using hc 4 _ rfl⟩
end
section
open Go.RowKit

theorem areaP_bd (p : List Pc) (h : ∀ q ∈ p, (1 ≤ q.W ∧ q.W ≤ 64) ∧ (1 ≤ q.H ∧ q.H ≤ 64)) : 0 ≤ areaP p ∧ areaP p ≤ 4096 * p.length := by
  induction p with
  | nil => simp [areaP]
  | cons q r ih =>
    have e : areaP (q :: r) = areaP [q] + areaP r := by rw [← areaP_append]; rfl
    have e2 : areaP [q] = q.W * q.H := by simp [areaP]
    obtain ⟨⟨a1, a2⟩, b1, b2⟩ := h q (by simp)
    have := mul_bd (a := q.W) (b := q.H) (by omega) (by omega) a2 b2
    have := ih fun q hq => h q (by simp [hq])
    rw [e, e2, List.length_cons]
    omega
set_option maxRecDepth 100000 in
set_option maxHeartbeats 2000000 in
theorem waste_ok (W H k : Int) (B A : Option Addr) (m d n c : Nat) (ss : List Shp) (l : Cuts) (w : World) (hS : SlE Shp.enc 4 w B m ss) (hL : SlE cutE 2 w A n l) (hnc : n ≤ c) (hc : c ≤ 9223372036854775807) (hn : n ≤ 10000) (hp : panOk W H k ss = true) :
    Calls Tryz.prog 171 #[.int .i64 W, .int .i64 H, .int .i64 k, .slice B m d, .slice A n c] w fun e w' => e = .returned (.tuple #[.int .i64 (wasteO W H (planOut k ss W H l)), .int .i64 (outE (planOut k ss W H l))]) ∧ Below w.heap.size w w' := by
  refine calls_cps ?_
  intro R hR
  have Hp := Lib.hid hp
  obtain ⟨hW1, hW2, hH1, hH2, _⟩ := panOk_ok hp
  obtain ⟨wh1, wh2⟩ := mul_bd (a := W) (b := H) (by omega) (by omega) hW2 hH2
  obtain ⟨res, hres⟩ : ∃ r, planOut k ss W H l = r := ⟨_, rfl⟩
  rw [hres] at hR
  have Hres := Lib.hid hres
  clear hp hres
  go_enter Tryz.func171, Tryz.ntmps171
  go_wp2_with fail
  refine (layout_ok W H k B A m d n c ss l _ hS hL hnc hc hn Hp.out).mono ?_
  rw [Hres.out]
  rintro e w1 ⟨hb1, ⟨rfl, rfl⟩ | ⟨p, A1, n1, c1, rfl, rfl, hn1, ho1⟩⟩
  · go_wp2
    exact hR.out _ _ ⟨rfl, hb1⟩
  · have hpo := planOut_ok Hp.out Hres.out
    have Hpo := Lib.hid hpo
    have hP1 := SlE.of_own ho1 hn1
    have hn4 : n1 ≤ 4096 := by rw [hn1]; exact hpo.2.1
    have Hn1 := Lib.hid hn1
    clear hn1 ho1 hpo
    go_wp2_with fail
    go_loopw [14, 34] (fun q i wr => ∃ (j : Nat) (s : Int), j ≤ n1 ∧ i = .int .i64 j ∧ q = .int .i64 s ∧ Hid (s = W * H - areaP (p.take j)) ∧ -50000000 ≤ s ∧ s ≤ 5000 ∧ Below w1.heap.size w1 wr) (fun _ i _ => n1 - (intOf i).toNat)
    case atStart => exact ⟨0, W * H, by omega, rfl, rfl, Lib.hid (by simp [areaP]), by omega, by omega, Below.refl _ _⟩
    case round =>
      obtain ⟨j, s, hj, rfl, rfl, Hs, hs0, hs1, hb⟩ := hrel
      obtain ⟨wi, rfl⟩ : ∃ wi : World, wi = wr := ⟨_, rfl⟩
      by_cases hlt : j < n1
      · obtain ⟨b, o, q, rfl, hbl, hq, e0, e1, e2, e3, e4⟩ := (hP1.below hb).at5 hlt
        obtain ⟨_, _, ⟨x1, x2⟩, ⟨y1, y2⟩, _⟩ := Hpo.out.1 q (List.mem_of_getElem? hq)
        obtain ⟨p1, p2⟩ := mul_bd (a := q.W) (b := q.H) (by omega) (by omega) x2 y2
        have hT := areaP_take p j q hq
        have hbd := areaP_bd (p.take (j + 1)) (fun q hq => by
          obtain ⟨_, _, h1, h2, _⟩ := Hpo.out.1 q (List.mem_of_mem_take hq)
          exact ⟨h1, h2⟩)
        have hlen : (p.take (j + 1)).length ≤ 4096 := by rw [List.length_take]; omega
        have hs' := Hs.out
        have HT := Lib.hid (show s - q.W * q.H = W * H - areaP (p.take (j + 1)) by omega)
        have bd1 : -50000000 ≤ s - q.W * q.H := by omega
        clear hT hbd hs' hq
        go_wp2
        exact ⟨⟨j + 1, _, by omega, by go_num, rfl, Lib.hid HT.out, bd1, by omega, hb.alloc hb.size _⟩, by simp [intOf]; omega⟩
      · obtain rfl : n1 = j := by omega
        have h := Hs.out
        rw [List.take_of_length_le (by rw [← Hn1.out]; exact Nat.le_refl _)] at h
        have Hfin := Lib.hid (hR.out (.returned (.tuple #[.int .i64 (wasteO W H (some p)), .int .i64 (outE (some p))])) wi ⟨rfl, hb1.trans (hb.mono hb1.size)⟩)
        rw [show wasteO W H (some p) = s from h.symm, show outE (some p) = 0 from rfl] at Hfin
        clear h Hs
        go_wp2
        exact Hfin.out
end
section
open Go.RowKit

set_option maxRecDepth 100000 in
set_option maxHeartbeats 2000000 in
theorem waste_no (W H k : Int) (B A : Option Addr) (m d n c : Nat) (ss : List Shp) (w : World) (hS : SlE Shp.enc 4 w B m ss) (hm : m ≤ 9223372036854775807) (hp : panOk W H k ss = false) :
    Calls Tryz.prog 171 #[.int .i64 W, .int .i64 H, .int .i64 k, .slice B m d, .slice A n c] w fun e w' => e = .returned (.tuple #[.int .i64 0, .int .i64 1]) ∧ Below w.heap.size w w' := by
  refine calls_cps ?_
  intro R hR
  go_enter Tryz.func171, Tryz.ntmps171
  go_wp2_with fail
  refine (layout_no W H k B A m d n c ss _ hS hm hp).mono ?_
  rintro e w1 ⟨rfl, hb1⟩
  go_wp2
  exact hR.out _ _ ⟨rfl, hb1⟩
set_option maxRecDepth 100000 in
set_option maxHeartbeats 2000000 in
theorem counts_no (W H k : Int) (B A : Option Addr) (m d n c : Nat) (ss : List Shp) (w : World) (hS : SlE Shp.enc 4 w B m ss) (hm : m ≤ 9223372036854775807) (hp : panOk W H k ss = false) :
    Calls Tryz.prog 172 #[.int .i64 W, .int .i64 H, .int .i64 k, .slice B m d, .slice A n c] w fun e w' => e = .returned (.tuple #[.slice none 0 0, .int .i64 1]) ∧ Below w.heap.size w w' := by
  refine calls_cps ?_
  intro R hR
  go_enter Tryz.func172, Tryz.ntmps172
  go_wp2_with fail
  refine (layout_no W H k B A m d n c ss _ hS hm hp).mono ?_
  rintro e w1 ⟨rfl, hb1⟩
  go_wp2
  exact hR.out _ _ ⟨rfl, hb1⟩
/-- How often each of m shapes is cut. -/
def cntP (m : Nat) (p : List Pc) : List Int := (List.range m).map fun (i : Nat) => (((p.filter fun q => q.S == (i : Int)).length : Nat) : Int)
theorem cntP_len (m : Nat) (p : List Pc) : (cntP m p).length = m := by simp [cntP]
theorem cntP_nil (m : Nat) : cntP m [] = List.replicate m 0 := by
  unfold cntP
  simp only [List.filter_nil, List.length_nil]
  rw [List.map_const']
  simp
theorem cntP_take (m : Nat) (p : List Pc) (j i : Nat) (q : Pc) (hq : p[j]? = some q) (hi : q.S = (i : Int)) (him : i < m) : ∃ x, (cntP m (p.take j))[i]? = some x ∧ 0 ≤ x ∧ x ≤ j ∧ cntP m (p.take (j + 1)) = (cntP m (p.take j)).set i (x + 1) := by
  obtain ⟨hj, rfl⟩ := List.getElem?_eq_some_iff.1 hq
  refine ⟨((((p.take j).filter fun q => q.S == (i : Int)).length : Nat) : Int), by simp [cntP, him], by omega, ?_, ?_⟩
  · have := List.length_filter_le (fun q : Pc => q.S == (i : Int)) (p.take j)
    rw [List.length_take] at this
    omega
  · apply List.ext_getElem?
    intro a
    rw [List.getElem?_set, cntP_len]
    by_cases ha : a < m
    · simp only [cntP, List.getElem?_map, List.getElem?_range ha, Option.map_some]
      rw [List.take_succ_eq_append_getElem hj, List.filter_append, List.length_append]
      by_cases hai : i = a
      · subst hai
        simp [hi, him]
      · have hne : ¬ (i : Int) = (a : Int) := by omega
        simp [hi, hne, hai]
    · rw [if_neg (by omega)]
      simp [cntP, ha]
theorem infoInt8 : (Tryz.prog.info? 3).map (fun i => (i.zero, i.size, i.bytes)) = some (some (.int .i64 0), 1, 8) := by kernel_rfl
def cntO (m : Nat) (res : Option (List Pc)) : List Int := match res with | some p => cntP m p | none => []
set_option maxRecDepth 100000 in
set_option maxHeartbeats 2000000 in
theorem counts_ok (W H k : Int) (B A : Option Addr) (m d n c : Nat) (ss : List Shp) (l : Cuts) (w : World) (hS : SlE Shp.enc 4 w B m ss) (hL : SlE cutE 2 w A n l) (hnc : n ≤ c) (hc : c ≤ 9223372036854775807) (hn : n ≤ 10000) (hp : panOk W H k ss = true) :
    Calls Tryz.prog 172 #[.int .i64 W, .int .i64 H, .int .i64 k, .slice B m d, .slice A n c] w fun e w' => Below w.heap.size w w' ∧ ∃ A' n' c', e = .returned (.tuple #[.slice A' n' c', .int .i64 (outE (planOut k ss W H l))]) ∧ n' = (cntO m (planOut k ss W H l)).length ∧ n' ≤ c' ∧ c' ≤ maxLen ∧ w'.ownsRow w.heap.size 3 1 (.slice A' n' c') n' ((cntO m (planOut k ss W H l)).flatMap intE) := by
  refine calls_cps ?_
  intro R hR
  have Hp := Lib.hid hp
  have hok := panOk_ok hp
  have hm16 : m ≤ 16 := by rw [hS.1]; exact hok.2.2.2.2.2.2.1
  have Hm := Lib.hid hS.1
  obtain ⟨res, hres⟩ : ∃ r, planOut k ss W H l = r := ⟨_, rfl⟩
  rw [hres] at hR
  have Hres := Lib.hid hres
  clear hp hok hres
  go_enter Tryz.func172, Tryz.ntmps172
  go_wp2_with fail
  refine (layout_ok W H k B A m d n c ss l _ hS hL hnc hc hn Hp.out).mono ?_
  rw [Hres.out]
  rintro e w1 ⟨hb1, ⟨rfl, rfl⟩ | ⟨p, A1, n1, c1, rfl, rfl, hn1, ho1⟩⟩
  · go_wp2
    exact hR.out _ _ ⟨hb1, none, 0, 0, rfl, rfl, Nat.le_refl _, by unfold maxLen; omega, World.ownsRow_nil _ _ _ _⟩
  · have Hpo := Lib.hid (planOut_ok Hp.out Hres.out)
    have hP1 := SlE.of_own ho1 hn1
    have hn4 : n1 ≤ 4096 := by rw [hn1]; exact Hpo.out.2.1
    have Hn1 := Lib.hid hn1
    clear hn1 ho1
    go_wp2_with (at_make; refine wpList_mkInt rfl (.tmp 30) (.tmp 30) _ rfl 3 Tryz.underlying35 infoInt8 m m rfl rfl rfl (by omega) ?_; intro w2 hw2 hg2)
    have hb2 : Below w1.heap.size w1 w2 := (Below.refl _ _).grown hg2 (Nat.le_refl _) (fun k hk => by cases hk)
    have hP2 := hP1.below hb2
    have hc0 : w2.heap[w1.heap.size]? = some (.cells ((cntP m (p.take 0)).map (Value.int .i64)).toArray 3 (0, 0)) := by
      rw [hw2, List.take_zero, cntP_nil]; simp
    have HA := Lib.hid (show 0 < n1 → ∀ a, A1 = some a → a.block < w1.heap.size from fun h0 a ha => by
      obtain ⟨b, o, hA, hlt, _⟩ := hP1.2.2 h0
      rw [ha] at hA
      injection hA with hA
      subst hA
      exact hlt)
    clear hw2 hg2 hP1
    go_loopw [34] (fun i wr => ∃ (j : Nat), j ≤ n1 ∧ i = .int .i64 j ∧ wr.heap[w1.heap.size]? = some (.cells ((cntP m (p.take j)).map (Value.int .i64)).toArray 3 (0, 0)) ∧ SlE pcE 5 wr A1 n1 p ∧ Below w1.heap.size w1 wr) (fun i _ => n1 - (intOf i).toNat)
    case atStart => exact ⟨0, by omega, rfl, hc0, hP2, hb2⟩
    case round =>
      clear hc0 hP2 hb2
      obtain ⟨j, hj, rfl, hc0, hP2, hb⟩ := hrel
      obtain ⟨wi, rfl⟩ : ∃ wi : World, wi = wr := ⟨_, rfl⟩
      by_cases hlt : j < n1
      · have hblt := HA.out (by omega)
        obtain ⟨b, o, q, rfl, hbl, hq, e0, e1, e2, e3, e4⟩ := hP2.at5 hlt
        have hbl2 := hblt _ rfl
        dsimp only at hbl2
        obtain ⟨_, _, _, _, i, sh, hqs, hsh, _⟩ := Hpo.out.1 q (List.mem_of_getElem? hq)
        have him : i < m := by rw [Hm.out]; exact (List.getElem?_eq_some_iff.1 hsh).1
        obtain ⟨x, hx, hx0, hxj, hT⟩ := cntP_take m p j i q hq hqs him
        have y0 : wi.cell? ⟨w1.heap.size, i, none⟩ = some (.int .i64 x) := by rw [cell_of_row _ _ _ _ _ (0, 0) hc0]; simp [hx]
        have y1 : wi.frozen? ⟨w1.heap.size, i, none⟩ = false := by simp [World.frozen?, hc0]
        have hgz := (Array.getElem?_eq_some_iff.1 hc0).1
        have hN : (wi.setCell ⟨w1.heap.size, i, none⟩ (.int .i64 (x + 1))).heap[w1.heap.size]? = some (.cells ((cntP m (p.take (j + 1))).map (Value.int .i64)).toArray 3 (0, 0)) := by
          simp [World.setCell, Array.getElem?_modify, hc0, hT, List.map_set]
        have HN := Lib.hid hN
        have HP := Lib.hid (show SlE pcE 5 (wi.setCell ⟨w1.heap.size, i, none⟩ (.int .i64 (x + 1))) (some ⟨b, o, none⟩) n1 p from ⟨hP2.1, hP2.2.setCell (fun _ a ha => by injection ha with ha; subst ha; dsimp only; omega) _⟩)
        have HB := Lib.hid (hb.setCell (p := ⟨w1.heap.size, i, none⟩) (Nat.le_refl _) (.int .i64 (x + 1)))
        rw [hqs] at e4
        have im : (i : Int) < (m : Int) := by omega
        clear hN hT hx hq hqs hsh hc0 hblt
        go_wp2
        exact ⟨⟨j + 1, by omega, by go_num, (Below.heap_alloc _ _ _ (by simpa [World.setCell] using hgz)).trans HN.out, HP.out.alloc _, HB.out.alloc HB.out.size _⟩, by simp [intOf]; omega⟩
      · obtain rfl : n1 = j := by omega
        rw [List.take_of_length_le (by rw [← Hn1.out]; exact Nat.le_refl _)] at hc0
        have Hfin := Lib.hid (hR.out (.returned (.tuple #[.slice (some ⟨w1.heap.size, 0, none⟩) m m, .int .i64 (outE (some p))])) wi ⟨hb1.trans (hb.mono hb1.size), _, m, m, rfl, (cntP_len m p).symm, Nat.le_refl _, by unfold maxLen; omega, by
          have hlen : ((cntP m p).map (Value.int .i64)).toArray.size = m * 1 := by simp [cntP_len]
          refine ⟨by rw [flat_length intE_len]; simp [cntO, cntP_len], .inr ⟨w1.heap.size, m, _, rfl, hb1.size, hc0, Nat.le_refl _, by unfold maxLen; omega, hlen, ?_⟩⟩
          rw [flat_int]
          exact List.take_of_length_le (by simp [cntP_len])⟩)
        rw [show outE (some p) = 0 from rfl] at Hfin
        clear hc0
        go_wp2
        exact Hfin.out
end
end Go.Proofs.YtndcijkgaadpgaaGreatDoor
