/-
  The contract of panel.Layout: the pieces of a plan, or ErrForm, or ErrArg; its deferred closure by two contracts; no condition but that its arguments read.
-/
import Derived.Test.YtfkpioibinpfhaaPReader
import Derived.Test.YtfkpioibinpfhaaPLeaf2
import Derived.Defers
import Derived.Recover
namespace Go.Proofs.Ytfkpioibinpfhaa
open Go.RowKit

theorem run_ta (w : World) : (Instr.typeAssert (.iface 88 (.agg #[])) 20 88 true).run Try.prog w = .ok (.tuple #[.agg #[], .bool true]) w := by
  simp [Instr.typeAssert, run_underlying Try.underlying88]
set_option maxRecDepth 100000 in
set_option maxHeartbeats 1000000 in
theorem catch_panicking (b b' : Nat) (x : Value) (y : Int) (older : List PanicEntry) (w : World) (hc : w.cell? ⟨b, 0, none⟩ = some x) (hc2 : w.cell? ⟨b', 0, none⟩ = some (.int .i64 y)) (hz : w.frozen? ⟨b, 0, none⟩ = false) (hz2 : w.frozen? ⟨b', 0, none⟩ = false) (hne : b ≠ b') (hb : b < w.heap.size) (hb' : b' < w.heap.size) :
    CallsD Try.prog 46 #[.pointer (some ⟨b, 0, none⟩), .pointer (some ⟨b', 0, none⟩)] (.panicking ({ v := .iface 88 (.agg #[]), recovered := false } :: older)) w fun e u' w' =>
      e = .returned (.tuple #[]) ∧ u' = .panicking ({ v := .iface 88 (.agg #[]), recovered := true } :: older) ∧ Below w.heap.size ((w.setCell ⟨b, 0, none⟩ (.slice none 0 0)).setCell ⟨b', 0, none⟩ (.int .i64 2)) w' := by
  refine callsD_of_wpS Try.func46 rfl fun c₀ cs hu => ?_
  apply wpS_seq
  apply wpS_region
  simp [wpOpsS, go_sem, recoverD, hu, Try.ntmps46, Exit.thenS]
  apply wpS_seq
  apply wpS_region
  simp [wpOpsS, go_sem, Exit.thenS]
  refine wpS_cond (t := true) (by simp [Act.eval, Array.replicate]) ?_
  simp only [if_true]
  refine wpS_of_wp ?_
  simp only [Array.replicate, List.replicate, List.setIfInBounds_toArray, List.set_cons_zero, List.set_cons_succ, List.append_toArray, List.cons_append, List.nil_append]
  have hta := run_ta
  go_wp2
  refine ⟨rfl, _, rfl, .tuple #[], by simp [results, Try.results46], rfl, rfl, ?_⟩
  have h := below_new ((w.setCell ⟨b, 0, none⟩ (.slice none 0 0)).setCell ⟨b', 0, none⟩ (.int .i64 2)) (.cells #[] 88)
  have e : ((w.setCell ⟨b, 0, none⟩ (.slice none 0 0)).setCell ⟨b', 0, none⟩ (.int .i64 2)).heap.size = w.heap.size := by simp [World.setCell]
  rwa [e] at h
set_option maxRecDepth 100000 in
set_option maxHeartbeats 1000000 in
theorem catch_idle (p q : Addr) (w : World) :
    CallsD Try.prog 46 #[.pointer (some p), .pointer (some q)] .returning w fun e u' w' => e = .returned (.tuple #[]) ∧ u' = .returning ∧ w' = w := by
  refine callsD_of_wpS Try.func46 rfl fun c₀ cs hu => ?_
  apply wpS_seq
  apply wpS_region
  simp [wpOpsS, go_sem, recoverD, hu, Try.ntmps46, Exit.thenS]
  apply wpS_seq
  apply wpS_region
  simp [wpOpsS, go_sem, Exit.thenS]
  refine wpS_cond (t := false) (by simp [Act.eval, Array.replicate]) ?_
  simp only [Bool.false_eq_true, if_false]
  refine wpS_of_wp (wp_skip ?_)
  cases c₀
  simp_all [bodyPostS, results, Try.results46]
theorem cells1 {W : World} {b : Nat} {t : TypeId} {u0 : Value} (h : W.heap[b]? = some (.cells #[u0] t (0, 0))) : W.cell? ⟨b, 0, none⟩ = some u0 ∧ (∀ j, W.frozen? ⟨b, j, none⟩ = false) :=
  ⟨by rw [cell_of_row _ _ 0 _ _ (0, 0) h]; rfl, fun j => by simp [World.frozen?, h]⟩
theorem lay_boxes {w w1 : World} {o1 o2 : Obj} (hb : Below (w.heap.size + 1 + 1) ((w.alloc o1).alloc o2) w1) : w1.heap[w.heap.size]? = some o1 ∧ w1.heap[w.heap.size + 1]? = some o2 ∧ Below w.heap.size w w1 := by
  refine ⟨(hb.block _ (by omega)).trans ((Below.heap_alloc _ _ _ (by simp)).trans (heap_alloc_new w _)), (hb.block _ (by omega)).trans ?_, (below_two w o1 o2).trans (hb.mono (by omega))⟩
  have := heap_alloc_new (w.alloc o1) o2
  rwa [World.size_alloc] at this
theorem unit_set {W : World} {b : Nat} {t : TypeId} {u0 u : Value} (h : W.heap[b]? = some (.cells #[u0] t (0, 0))) : (W.setCell ⟨b, 0, none⟩ u).heap[b]? = some (.cells #[u] t (0, 0)) := by
  simp [World.setCell, Array.getElem?_modify, h]
/-- The door behind a plan that is none: recovered, nil and ErrForm. -/
theorem lay_door {w w2 : World} {t0 t1 : TypeId} {R : Ending → World → Prop} {tmps : Array Value} {ch : List PanicEntry} (hch : ch = [{ v := .iface 88 (.agg #[]), recovered := false }])
    (g0 : w2.heap[w.heap.size]? = some (.cells #[.slice none 0 0] t0 (0, 0))) (g1 : w2.heap[w.heap.size + 1]? = some (.cells #[.int .i64 0] t1 (0, 0))) (hbw : Below w.heap.size w w2)
    (hR : ∀ W', Below w.heap.size w W' → R (.returned (.tuple #[.slice none 0 0, .int .i64 2])) W')
    (h10 : tmps[10]? = some (.pointer (some ⟨w.heap.size, 0, none⟩)) := by rfl) (h11 : tmps[11]? = some (.pointer (some ⟨w.heap.size + 1, 0, none⟩)) := by rfl) :
    bodyPostD Try.prog Try.f30 R (Exit.panic ch) { tmps := tmps, defers := [{ target := Target.fn (Fn.func 46) #[.pointer (some ⟨w.heap.size, 0, none⟩), .pointer (some ⟨w.heap.size + 1, 0, none⟩)], args := #[] }] } w2 := by
  subst hch
  obtain ⟨q0, q1⟩ := cells1 g0
  obtain ⟨z0, z1⟩ := cells1 g1
  have hz0 := (Array.getElem?_eq_some_iff.1 g0).1
  have hz1 := (Array.getElem?_eq_some_iff.1 g1).1
  refine leaves_cons (f := 46) (args := #[.pointer (some ⟨w.heap.size, 0, none⟩), .pointer (some ⟨w.heap.size + 1, 0, none⟩)]) (by simp) (by simp [go_sem]) ?_
  refine (catch_panicking w.heap.size (w.heap.size + 1) _ _ [] w2 q0 z0 (q1 0) (z1 0) (by omega) hz0 hz1).mono ?_
  rintro e u' w3 ⟨rfl, rfl, hb3⟩
  have k0 := (hb3.block w.heap.size hz0).trans ((Below.heap_setCell _ _ _ _ (by dsimp only; omega)).trans (unit_set g0 (u := .slice none 0 0)))
  have k1 := (hb3.block (w.heap.size + 1) hz1).trans (unit_set ((Below.heap_setCell _ _ _ _ (by dsimp only; omega)).trans g1) (u := .int .i64 2))
  obtain ⟨y0, _⟩ := cells1 k0
  obtain ⟨y1, _⟩ := cells1 k1
  have hbf := hR w3 (((hbw.setCell (by simp) _).setCell (by simp) _).trans (hb3.mono hbw.size))
  refine ⟨.tuple #[.slice none 0 0, .int .i64 2], ?_, hbf⟩
  simp [results, Try.results30, go_sem, y0, y1, h10, h11]
theorem own_low {W : World} {b b' e s n : Nat} {v : Value} {xs : List Value} (h : W.ownsRow b e s v n xs) (hb : b' ≤ b) : W.ownsRow b' e s v n xs := by
  refine ⟨h.1, ?_⟩
  rcases h.2 with h0 | ⟨g, c, cur, h1, h2, h3⟩
  · exact .inl h0
  · exact .inr ⟨g, c, cur, h1, Nat.le_trans hb h2, h3⟩
/-- What Layout hands back. -/
def LayPost (w : World) (res : Option (List Pc)) (e : Ending) (w' : World) : Prop :=
  Below w.heap.size w w' ∧ ((res = none ∧ e = .returned (.tuple #[.slice none 0 0, .int .i64 2])) ∨ ∃ p A n c, res = some p ∧ e = .returned (.tuple #[.slice A n c, .int .i64 0]) ∧ n = p.length ∧ w'.ownsRow w.heap.size 59 5 (.slice A n c) n (p.flatMap pcE))
set_option maxRecDepth 100000 in
set_option maxHeartbeats 4000000 in
theorem layout_no (W H k : Int) (B A : Option Addr) (m d n c : Nat) (ss : List Shp) (w : World) (hS : SlE Shp.enc 4 w B m ss) (hm : m ≤ 9223372036854775807) (hp : panOk W H k ss = false) :
    Calls Try.prog 30 #[.int .i64 W, .int .i64 H, .int .i64 k, .slice B m d, .slice A n c] w fun e w' => e = .returned (.tuple #[.slice none 0 0, .int .i64 1]) ∧ Below w.heap.size w w' := by
  have hmf : ∀ (fn : Fn) (first cap : Array Value) (w : World), (Instr.makeFunc fn first cap).run Try.prog w = .ok (.func fn first cap) w := fun _ _ _ _ => rfl
  go_enter_defers Try.func30, Try.ntmps30
  go_wp2_with fail
  refine (check_any _ _ _ _ _ _ ss _ ((hS.alloc _).alloc _) hm).mono ?_
  rw [hp]
  rintro e w1 ⟨rfl, hb⟩
  rw [World.size_alloc, World.size_alloc] at hb
  obtain ⟨h0, h1, h2⟩ := lay_boxes hb
  obtain ⟨q0, q1⟩ := cells1 h0
  obtain ⟨z0, z1⟩ := cells1 h1
  go_wp2
  refine ⟨.tuple #[.slice none 0 0, .int .i64 1], by simp [results, Try.results30, go_sem, q0, z0], rfl, (h2.setCell (by simp) _).setCell (by simp) _⟩
set_option maxRecDepth 100000 in
set_option maxHeartbeats 4000000 in
theorem layout_ok (W H k : Int) (B A : Option Addr) (m d n c : Nat) (ss : List Shp) (l : Cuts) (w : World) (hS : SlE Shp.enc 4 w B m ss) (hL : SlE cutE 2 w A n l) (hnc : n ≤ c) (hc : c ≤ 9223372036854775807) (hn : n ≤ 1000) (hp : panOk W H k ss = true) :
    Calls Try.prog 30 #[.int .i64 W, .int .i64 H, .int .i64 k, .slice B m d, .slice A n c] w (LayPost w (planOut k ss W H l)) := by
  refine calls_cps ?_
  intro R hR
  obtain ⟨hW1, hW2, hH1, hH2, hk0, hk8, hss, hok⟩ := panOk_ok hp
  have hm : m ≤ 9223372036854775807 := by rw [hS.1]; omega
  have hmf : ∀ (fn : Fn) (first cap : Array Value) (w : World), (Instr.makeFunc fn first cap).run Try.prog w = .ok (.func fn first cap) w := fun _ _ _ _ => rfl
  have Hok := Lib.hid hok
  clear hok
  go_enter_defers Try.func30, Try.ntmps30
  go_wp2_with fail
  refine (check_any _ _ _ _ _ _ ss _ ((hS.alloc _).alloc _) hm).mono ?_
  rw [hp]
  rintro e w1 ⟨rfl, hb⟩
  have hS1 := ((hS.alloc _).alloc _).below hb
  have hL1 := ((hL.alloc _).alloc _).below hb
  rw [World.size_alloc, World.size_alloc] at hb
  obtain ⟨h0, h1, h2⟩ := lay_boxes hb
  obtain ⟨q0, q1⟩ := cells1 h0
  obtain ⟨z0, z1⟩ := cells1 h1
  have hblk : ∀ {α : Type} {enc : α → List Value} {sz : Nat} {A : Option Addr} {n : Nat} {l : List α}, SlE enc sz w1 A n l → 0 < n → ∀ a, A = some a → a.block < w1.heap.size + 1 ∧ a.block ≠ w1.heap.size := fun h h0 a ha => by
    obtain ⟨b, o, hA, hlt, _⟩ := h.2.2 h0
    rw [ha] at hA
    injection hA with hA
    subst hA
    dsimp only
    omega
  have hr : Rdr (w1.alloc (.cells #[.int .i64 k, .slice B m d, .slice A n c, .slice none 0 0] 92)) w1.heap.size (w1.heap.size + 1) k B m d ss A n c l (.slice none 0 0) 0 [] :=
    ⟨heap_alloc_new w1 _, hS1.alloc _, hL1.alloc _, World.ownsRow_nil _ _ _ _, hblk hS1, hblk hL1, by omega, by simp, rfl, hnc, hc⟩
  have hln : l.length ≤ 1000 := by rw [← hL1.1]; exact hn
  have hx0 : w1.heap[w.heap.size]? = some (.cells #[.slice none 0 0] 55 (0, 0)) := h0
  have hx1 : w1.heap[w.heap.size + 1]? = some (.cells #[.int .i64 0] 27 (0, 0)) := h1
  have hz0 := (Array.getElem?_eq_some_iff.1 hx0).1
  have hz1 := (Array.getElem?_eq_some_iff.1 hx1).1
  clear hp hS hL hb hblk hS1 hL1 h0 h1
  obtain ⟨res, hres⟩ : ∃ r, rd k ss (l.length + 1) 0 0 W H l = r := ⟨_, rfl⟩
  have hpo : planOut k ss W H l = res.bind fun u => if u.1 = [] then some u.2 else none := by rw [← hres]; rfl
  have Hpo := Lib.hid hpo
  have Hres := Lib.hid hres
  clear hpo hres
  go_wp2_with fail
  refine (read_any k hk0 hk8 ss hss Hok.out w1.heap.size (w1.heap.size + 1) B m d (l.length + 1) 0 0 W H A n c l (.slice none 0 0) 0 [] _ (by omega) hr hW1 hW2 hH1 hH2 (by omega) (by omega) (by omega) (by omega) (by omega) (by omega) (by omega)).mono ?_
  rw [Hres.out]
  rintro e w2 (⟨l', pc', hres2, rfl, A', c', v', hr2, _, hk⟩ | ⟨hres2, rfl, hk⟩)
  · have hs2 := hk.size
    rw [World.size_alloc] at hs2
    have g0 : w2.heap[w.heap.size]? = some (.cells #[.slice none 0 0] 55 (0, 0)) := (hk.block _ (by simp; omega) (by omega) (by simp [Value.ownBlock])).trans ((Below.heap_alloc _ _ _ hz0).trans hx0)
    have g1 : w2.heap[w.heap.size + 1]? = some (.cells #[.int .i64 0] 27 (0, 0)) := (hk.block _ (by simp; omega) (by omega) (by simp [Value.ownBlock])).trans ((Below.heap_alloc _ _ _ hz1).trans hx1)
    have hbw : Below w.heap.size w w2 := ⟨hk.os.trans h2.os, hk.tape.trans h2.tape, hk.output.trans h2.output, Nat.le_trans h2.size (by omega), fun j hj => (hk.block j (by simp; have := h2.size; omega) (by have := h2.size; omega) (by simp [Value.ownBlock])).trans ((Below.heap_alloc _ _ _ (by have := h2.size; omega)).trans (h2.block j hj))⟩
    obtain ⟨q0, q1, q2, q3, q4⟩ := cells4 hr2.box
    obtain ⟨u0, u1⟩ := cells1 g0
    obtain ⟨z0, z1⟩ := cells1 g1
    have hl2 : l'.length ≤ 9223372036854775807 := Nat.le_trans hr2.nc hr2.cb
    by_cases hl0 : l' = []
    · subst hl0
      have hps : planOut k ss W H l = some pc' := by rw [Hpo.out, hres2]; rfl
      have hown := hr2.own
      rw [Nat.zero_add, List.nil_append] at hown
      obtain ⟨A5, c5, rfl, hn5, hc5, hown⟩ := own_slice hown
      have Hps := Lib.hid hps
      have hown2 : ((w2.setCell ⟨w.heap.size, 0, none⟩ (.slice A5 pc'.length c5)).setCell ⟨w.heap.size + 1, 0, none⟩ (.int .i64 0)).ownsRow w.heap.size 59 5 (.slice A5 pc'.length c5) pc'.length (pc'.flatMap pcE) :=
        own_low (ownsRow_setCell_below (ownsRow_setCell_below hown (a := ⟨w.heap.size, 0, none⟩) (by dsimp only; omega) _) (a := ⟨w.heap.size + 1, 0, none⟩) (by dsimp only; omega) _) (by have := h2.size; omega)
      have k0 := (Below.heap_setCell (w2.setCell ⟨w.heap.size, 0, none⟩ (.slice A5 pc'.length c5)) ⟨w.heap.size + 1, 0, none⟩ (.int .i64 0) w.heap.size (by dsimp only; omega)).trans (unit_set g0 (u := .slice A5 pc'.length c5))
      have k1 := unit_set ((Below.heap_setCell w2 ⟨w.heap.size, 0, none⟩ (.slice A5 pc'.length c5) (w.heap.size + 1) (by dsimp only; omega)).trans g1) (u := .int .i64 0)
      have K0 := Lib.hid k0
      have K1 := Lib.hid k1
      have HO := Lib.hid hown2
      have HB := Lib.hid ((hbw.setCell (p := ⟨w.heap.size, 0, none⟩) (by simp) (.slice A5 pc'.length c5)).setCell (p := ⟨w.heap.size + 1, 0, none⟩) (by simp) (.int .i64 0))
      clear hps hown2 k0 k1
      go_wp2_with (go_at_call 48; refine (must_ok _).mono ?_; rintro e w' ⟨rfl, rfl⟩)
      refine leaves_cons (f := 46) (args := #[.pointer (some ⟨w.heap.size, 0, none⟩), .pointer (some ⟨w.heap.size + 1, 0, none⟩)]) (by simp) (by simp [go_sem]) ?_
      refine (catch_idle _ _ _).mono ?_
      rintro e u' w3 ⟨rfl, rfl, rfl⟩
      obtain ⟨y0, _⟩ := cells1 K0.out
      obtain ⟨y1, _⟩ := cells1 K1.out
      refine ⟨.tuple #[.slice A5 pc'.length c5, .int .i64 0], ?_, hR.out _ _ ⟨HB.out, .inr ⟨pc', A5, _, c5, Hps.out, rfl, rfl, HO.out⟩⟩⟩
      simp only [results, Try.results30]
      simp [go_sem, y0, y1]
    · have hpn : planOut k ss W H l = none := by rw [Hpo.out, hres2]; simp [hl0]
      have hb0 : ((l'.length : Int) == 0) = false := by
        have : l'.length ≠ 0 := fun h => hl0 (List.eq_nil_of_length_eq_zero h)
        simp; omega
      have Hfin := Lib.hid (fun W' hb => hR.out (.returned (.tuple #[.slice none 0 0, .int .i64 2])) W' ⟨hb, .inl ⟨hpn, rfl⟩⟩)
      go_wp2_with (go_at_call 48; refine (must_no _).mono ?_; rintro e w' ⟨rfl, rfl⟩)
      exact lay_door (by simp [malP]) g0 g1 hbw Hfin.out
  · have hpn : planOut k ss W H l = none := by rw [Hpo.out, hres2]; rfl
    have hs2 := hk.size
    rw [World.size_alloc] at hs2
    have g0 : w2.heap[w.heap.size]? = some (.cells #[.slice none 0 0] 55 (0, 0)) := (hk.block _ (by simp; omega) (by omega) (by simp [Value.ownBlock])).trans ((Below.heap_alloc _ _ _ hz0).trans hx0)
    have g1 : w2.heap[w.heap.size + 1]? = some (.cells #[.int .i64 0] 27 (0, 0)) := (hk.block _ (by simp; omega) (by omega) (by simp [Value.ownBlock])).trans ((Below.heap_alloc _ _ _ hz1).trans hx1)
    have hbw : Below w.heap.size w w2 := ⟨hk.os.trans h2.os, hk.tape.trans h2.tape, hk.output.trans h2.output, Nat.le_trans h2.size (by omega), fun j hj => (hk.block j (by simp; have := h2.size; omega) (by have := h2.size; omega) (by simp [Value.ownBlock])).trans ((Below.heap_alloc _ _ _ (by have := h2.size; omega)).trans (h2.block j hj))⟩
    have Hfin := Lib.hid (fun W' hb => hR.out (.returned (.tuple #[.slice none 0 0, .int .i64 2])) W' ⟨hb, .inl ⟨hpn, rfl⟩⟩)
    go_wp2
    exact lay_door (by simp [malP]) g0 g1 hbw Hfin.out
end Go.Proofs.Ytfkpioibinpfhaa
