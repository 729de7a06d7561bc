/-
  The book's invariants behind Post; Post at any moves; Reverse; no condition but that the cells hold a book on its disk. slices.Backward of moves, and a loop over it whose body never leaves early; condition: what each round keeps. A loop over moves from the last one on whose body never leaves early: what holds between the rounds holds behind it; condition: what each round keeps. Book.Reverse; conditions: the cells hold a book on its disk that is not broken, and there is such an entry.
-/
import Derived.Test.YtndcijkgaadpgaaGreatDoorUe
import Derived.RangeFuncNested
import Derived.RangeFuncBound
import Derived.RangeFuncCalls
import Derived.RangeFuncLeaves
import Derived.Shelf.Abstract
import Derived.Shelf.RegionOpen
import Derived.OwnWalkIn
import Derived.TacticsInMore
import Derived.LoopNIn
import Derived.LoopIn
import Derived.WalkMore
import Derived.Scope
namespace Go.Proofs.YtndcijkgaadpgaaGreatDoor
section
section
open Go.RowKit Go.Maps
theorem act_B (d : Dk) : d.act.1.B = d.B ∧ d.act.1.safe = d.safe := by
  unfold Dk.act
  split <;> exact ⟨rfl, rfl⟩
theorem act_left (d : Dk) (h : d.left < 1000000000000) : d.act.1.left < 1000000000000 := by
  unfold Dk.act
  split
  · exact h
  · show d.left - 1 < _
    omega
theorem act_down (d : Dk) (h : d.down = false) : d.act.1.down = d.act.2 := by
  unfold Dk.act
  split
  · exact h
  · rfl
theorem would_ok {b : Bk} {l : List Mv} (h : b.would l = 0) : b.br = false ∧ enOk l = true ∧ refE (balE b.E) l = 0 := by
  unfold Bk.would at h
  split at h
  · cases h
  · rename_i hb
    split at h
    · rename_i he
      exact ⟨by simpa using hb, he, h⟩
    · cases h
theorem Inv.post {d : Dk} {b : Bk} (h : Inv d b) (l : List Mv) : Inv (postB d b l).1 (postB d b l).2.1 := by
  by_cases hw : b.would l ≠ 0
  · have e : postB d b l = (d, b, b.would l) := by unfold postB; rw [if_pos hw]
    rw [e]
    exact h
  · obtain ⟨hbr, hen, href⟩ := would_ok (Classical.not_not.1 hw)
    obtain ⟨t, ht, h1, _⟩ := h.fit
    obtain ⟨rfl, hdn, hsf⟩ := h1 hbr
    rw [List.append_nil] at ht
    have hj : Jour (b.E ++ [l]) := h.jour.snoc fun p => (refE_0 fun q => h.jour.now q).1 href p
    have hall : ∀ e ∈ b.E ++ [l], enOk e = true := fun e he => by
      rcases List.mem_append.1 he with he | he
      · exact h.ent e he
      · rw [List.mem_singleton.1 he]; exact hen
    have hfl : (b.E ++ [l]).flatMap encE = b.E.flatMap encE ++ encE l := by rw [List.flatMap_append, List.flatMap_cons, List.flatMap_nil, List.append_nil]
    by_cases hr : 65536 - d.B.length < (encE l).length
    · have happ : d.app (encE l) = (d, 9) := by
        unfold Dk.app
        rw [hdn, if_neg (by simp), if_pos hr]
      have e : postB d b l = (d, b, 9) := by
        unfold postB
        rw [if_neg hw, happ]
        simp
      rw [e]
      exact h
    · obtain ⟨D, hD⟩ : ∃ D : Dk, D = { d with B := d.B ++ encE l } := ⟨_, rfl⟩
      have happ : d.app (encE l) = (D.act.1, if D.act.2 then 11 else 0) := by
        unfold Dk.app
        rw [hdn, if_neg (by simp), if_neg hr, hD, hdn]
      have hroom : d.B.length + (encE l).length ≤ 65536 := by have := h.ok.1; omega
      have hDB : D.B = d.B ++ encE l := by rw [hD]
      have hDs : D.safe = d.safe := by rw [hD]
      have hDd : D.down = false := by rw [hD]; exact hdn
      have hDl : D.left < 1000000000000 := by rw [hD]; exact h.ok.2.2
      obtain ⟨a1, a2⟩ := act_B D
      have a3 := act_left D hDl
      have a4 := act_down D hDd
      have hs2 := h.ok.2.1
      cases hact : D.act.2
      · rw [hact] at a4 happ
        obtain ⟨s1, s2⟩ := act_B D.act.1
        have s3 := act_left D.act.1 a3
        have s4 := act_down D.act.1 a4
        cases hs : D.act.1.act.2
        · rw [hs] at s4
          have e : postB d b l = ({ D.act.1.act.1 with safe := D.act.1.act.1.B.length }, ⟨b.E ++ [l], b.br⟩, 0) := by
            unfold postB
            rw [if_neg hw, happ]
            unfold Dk.sync
            rw [a4, hs]
            simp
          rw [e]
          refine ⟨⟨?_, Nat.le_refl _, s3⟩, hj, hall, [], ?_, fun _ => ⟨rfl, s4, rfl⟩, fun hb => ?_⟩
          · show D.act.1.act.1.B.length ≤ 65536
            rw [s1, a1, hDB, List.length_append]
            exact hroom
          · show D.act.1.act.1.B = _
            rw [s1, a1, hDB, List.append_nil, ht, hfl]
          · have hb' : b.br = true := hb
            rw [hbr] at hb'
            cases hb'
        · rw [hs] at s4
          have e : postB d b l = (D.act.1.act.1, ⟨b.E, true⟩, 11) := by
            unfold postB
            rw [if_neg hw, happ]
            unfold Dk.sync
            rw [a4, hs]
            simp
          rw [e]
          refine ⟨⟨?_, ?_, s3⟩, h.jour, h.ent, encE l, ?_, fun hb => ?_, fun _ => ⟨s4, ?_, l, rfl, hen, href⟩⟩
          · show D.act.1.act.1.B.length ≤ 65536
            rw [s1, a1, hDB, List.length_append]
            exact hroom
          · show D.act.1.act.1.safe ≤ D.act.1.act.1.B.length
            rw [s1, s2, a1, a2, hDB, hDs, List.length_append]
            omega
          · show D.act.1.act.1.B = _
            rw [s1, a1, hDB, ht]
          · have hb' : true = false := hb
            cases hb'
          · show D.act.1.act.1.safe = _
            rw [s2, a2, hDs, hsf, ht]
      · rw [hact] at a4 happ
        have e : postB d b l = (D.act.1, ⟨b.E, true⟩, 11) := by
          unfold postB
          rw [if_neg hw, happ]
          simp
        rw [e]
        refine ⟨⟨?_, ?_, a3⟩, h.jour, h.ent, encE l, ?_, fun hb => ?_, fun _ => ⟨a4, ?_, l, rfl, hen, href⟩⟩
        · show D.act.1.B.length ≤ 65536
          rw [a1, hDB, List.length_append]
          exact hroom
        · show D.act.1.safe ≤ D.act.1.B.length
          rw [a1, a2, hDB, hDs, List.length_append]
          omega
        · show D.act.1.B = _
          rw [a1, hDB, ht]
        · have hb' : true = false := hb
          cases hb'
        · show D.act.1.safe = _
          rw [a2, hDs, hsf, ht]
theorem post_any (w : World) (F : Nat → Prop) (a dk : Nat) (d : Dk) (b : Bk) (A : Option Addr) (n c : Nat) (l : List Mv) (h : Bd w F a dk d b) (hi : Inv d b) (hu : Up w F) (hX : w.ownsRow 0 142 4 (.slice A n c) n (l.flatMap mvE)) (hl : n = l.length) (hs : mvS l) (hn : n ≤ 9223372036854775807) :
    Calls Tryz.prog 217 #[.pointer (some ⟨a, 0, none⟩), .slice A n c] w fun e w' => e = .returned (.int .i64 (postB d b l).2.2) ∧ Bd w' F a dk (postB d b l).1 (postB d b l).2.1 ∧ Kx F w w' := by
  by_cases hw : b.would l = 0
  · exact post_ok w F a dk d b A n c l h hi hu hX hl hw
  · refine (post_bad w F a dk d b A n c l h hi hX hl hs hn hw).mono ?_
    rintro e w' ⟨rfl, hb⟩
    unfold postB
    rw [if_pos hw]
    exact ⟨rfl, h.below hb, kx_of_below hb⟩
end
end
section
open Go.RowKit Go.Shelf
attribute [local go_sem] Oper.semAt_some
theorem callsIn_h {F : Fence} {n : Nat} {P : Program} {f : FuncId} {args : Array Value} {w : World} {Q : Ending → World → Prop}
    (h : ∀ R : Ending → World → Prop, Hid (∀ e w', Q e w' → R e w') → CallsIn F n P f args w R) : CallsIn F n P f args w Q := h Q fun _ _ h => h
set_option maxRecDepth 8000 in
set_option maxHeartbeats 2000000 in
theorem backw_any (A : Option Addr) (n c : Nat) (w : World) : Calls Tryz.prog 245 #[.slice A n c] w fun e w' => e = .returned (.func (.func 316) #[] #[.pointer (some ⟨w.heap.size, 0, none⟩)]) ∧ w' = w.alloc (.cells #[.slice A n c] 116) := by
  refine calls_cps ?_
  intro R hR
  go_enter Tryz.func245, Tryz.ntmps245
  go_wp2
  exact hR.out _ _ ⟨rfl, rfl⟩
set_option maxRecDepth 100000 in
set_option maxHeartbeats 8000000 in
theorem back_in (nf l : Nat) (hnf : 2 ≤ nf) (A : Option Addr) (n c : Nat) (es : List Mv) (bx : Nat) (J : Nat → World → Prop) (W : World) (hn : n ≤ 1000)
    (hr : ∀ k W1, J k W1 → W1.cell? ⟨bx, 0, none⟩ = some (.slice A n c) ∧ SlE mvE 4 W1 A n es)
    (hY : ∀ k m W1, k < n → es[k]? = some m → J (k + 1) W1 → YieldAt Fence.wide (nf - 1) Tryz.prog l #[.int .i64 (k : Int), .agg #[.string m.f, .string m.t, .string m.i, .int .i64 m.q]] W1 fun en W' => en = .returned (.bool true) ∧ J k W') (h0 : J n W) :
    CallsIn Fence.wide nf Tryz.prog 316 #[.func (.yield l) #[] #[], .pointer (some ⟨bx, 0, none⟩)] W fun en W' => (∃ v, en = .returned v) ∧ J 0 W' := by
  refine callsIn_h ?_
  intro R hR
  have HY := Lib.hid hY
  have HRd := Lib.hid hr
  have H0 := Lib.hid h0
  obtain ⟨c0, -⟩ := hr n W h0
  clear hY hr h0
  refine callsIn_of_wp Tryz.func316 rfl trivial ?_ rfl
  simp only [Tryz.ntmps316, List.size_toArray, List.length_cons, List.length_nil, Nat.reduceAdd, Nat.reduceSub, Array.replicate_succ, Array.replicate_zero, List.push_toArray, List.append_toArray, List.nil_append, List.cons_append]
  refine wpIn_wide.2 ?_
  go_wp2_with fail
  go_loopw [3] (fun s3 wr => ∃ k : Nat, k ≤ n ∧ s3 = .int .i64 ((k : Int) - 1) ∧ Hid (J k wr)) (fun s3 _ => (intOf s3 + 1).toNat)
  case atStart => exact ⟨n, Nat.le_refl _, rfl, H0⟩
  case round =>
    obtain ⟨k, hk, rfl, Hj⟩ := hrel
    cases k with
    | zero =>
      rw [show ((0 : Nat) : Int) - 1 = -1 from rfl]
      have Hf := Lib.hid (show ∀ v, R (.returned v) wr from fun v => hR.out _ _ ⟨⟨_, rfl⟩, Hj.out⟩)
      clear hR
      go_wp2
      go_end0
      exact Hf.out _
    | succ k =>
      rw [show (((k + 1 : Nat) : Int) - 1) = (k : Int) by omega]
      obtain ⟨c1, hsl⟩ := HRd.out _ _ Hj.out
      obtain ⟨b, o, m, rfl, hb, hm, q0, q1, q2, q3⟩ := hsl.mv_at (k := k) (by omega)
      obtain ⟨fn, tmps, assign, body, hy0, hR0⟩ := HY.out k m wr (by omega) hm Hj.out
      clear hsl hm
      refine (wpIn_wide (n := nf)).1 ?_
      gi_wp2_with fail
      refine ⟨fun _ => by omega, hR0.mono ?_⟩
      clear hy0 hR0
      rintro en w3 ⟨rfl, hj3⟩
      have Hj3 := Lib.hid hj3
      clear hj3
      gi_wp2_with fail
      exact ⟨⟨k, by omega, rfl, Hj3⟩, by simp [intOf] <;> omega⟩
end
section
open Go.RowKit Go.Shelf
abbrev mvG (m : Mv) : Value := .agg #[.string m.f, .string m.t, .string m.i, .int .i64 m.q]
abbrev mvC (m : Mv) : Obj := .cells #[.string m.f, .string m.t, .string m.i, .int .i64 m.q] 142 (0, 0)
theorem each_back {nf : Nat} (hnf : 4 ≤ nf) {gop : Operand} {p1 p2 : Tmp} {assign body : Code} {Q : Exit → Act → World → Prop} {a : Act} {W2 : World} (A : Option Addr) (n c bx : Nat) (es : List Mv) (hn : n ≤ 1000)
    (hg : a.eval gop = .func (.func 316) #[] #[.pointer (some ⟨bx, 0, none⟩)]) (eg : ∀ args w, (callFunc 316 args).run Tryz.prog w = .ok (.enter 316 args) w)
    (S : Nat → Prop) (hS : ∀ j, S j → j < W2.heap.size ∨ W2.heap.size + 2 ≤ j)
    (I : Nat → World → Prop) (hI : ∀ k X Y row, I k X → X.grownBy Y row → (∀ j, row = some j → W2.heap.size ≤ j ∧ j ≤ W2.heap.size + 1) → I k Y) (h0 : I n W2)
    (hr : ∀ k W1, I k W1 → W1.cell? ⟨bx, 0, none⟩ = some (.slice A n c) ∧ SlE mvE 4 W1 A n es)
    (Ac : Nat → Nat → Mv → Act) (hassign : ∀ (l k z : Nat) (m : Mv) (W : World) (K : Act → World → Prop), W.heap.size = z → K (Ac z k m) (W.alloc (mvC m)) → assign.wpIn (Fence.wide.inRound l) (nf - 1 - 1) Tryz.prog (Exit.then K (fun _ _ _ => False)) { tmps := (a.tmps.setIfInBounds p1 (.int .i64 (k : Int))).setIfInBounds p2 (mvG m), defers := [] } W)
    (hround : ∀ (l k : Nat) (m : Mv) (bm : Nat) (W : World), k < n → es[k]? = some m → I (k + 1) W → W.heap[bm]? = some (mvC m) → W2.heap.size + 2 ≤ bm →
      body.wpIn (Fence.wide.inRound l) (nf - 1 - 1) Tryz.prog (fun ex _ W3 => ex = .normal ∧ I k W3 ∧ Kx S W W3) (Ac bm k m) W)
    (hdone : ∀ D W, W.heap[D]? = some (.deferred (some [])) → W2.heap.size ≤ D → D ≤ W2.heap.size + 1 → D < W.heap.size → I 0 W → Q .normal { a with defers := { target := .collected D, args := #[] } :: a.defers } W) :
    (Code.rangeFunc gop #[p1, p2] assign body).wpIn Fence.wide nf Tryz.prog Q a W2 := by
  refine wpIn_rangeFunc ?_
  intro fn hfn
  obtain ⟨rec, hrec⟩ : ∃ rec : LoopState → Loop, rec = fun st => { state := st, pending := none, fn := fn, tmps := a.tmps, params := #[p1, p2], assign := assign, body := body, defers := W2.heap.size } := ⟨_, rfl⟩
  obtain ⟨W3, hW3⟩ : ∃ W3, (W2.alloc (.deferred (some []))).alloc (.loop (rec .ready)) = W3 := ⟨_, rfl⟩
  have hsz3 : W3.heap.size = W2.heap.size + 2 := by rw [← hW3]; simp
  have hL : W3.heap[W2.heap.size + 1]? = some (.loop (rec .ready)) := by
    have h := heap_alloc_new (W2.alloc (.deferred (some []))) (.loop (rec .ready))
    rw [World.size_alloc] at h
    rw [← hW3]; exact h
  have hK : W3.heap[W2.heap.size]? = some (.deferred (some [])) := by
    rw [← hW3, Below.heap_alloc _ _ _ (by simp)]; exact heap_alloc_new W2 _
  have hI3 : I n W3 := by
    rw [← hW3]
    exact hI _ _ _ none (hI _ _ _ none h0 (World.grownBy_alloc W2 _ none) (fun k e => by cases e)) (World.grownBy_alloc _ _ none) (fun k e => by cases e)
  refine ⟨W2.heap.size + 1, [{ target := .collected W2.heap.size, args := #[] }], W3, { target := .fn (.func 316) #[.pointer (some ⟨bx, 0, none⟩)], args := #[.func (.yield (W2.heap.size + 1)) #[] #[]] }, W3, 316,
    #[.func (.yield (W2.heap.size + 1)) #[] #[], .pointer (some ⟨bx, 0, none⟩)], W3, ?_, ?_, fun f' hf' => trivial, ?_, fun _ => by omega, ?_⟩
  · rw [← hW3, hrec]; exact run_enterLoop_outer _ _ _ _ _
  · simp only [resolve, hg]
    simp [go_sem]
  · simp [invoke, go_sem, eg]
  refine (back_in (nf - 1) (W2.heap.size + 1) (by omega) A n c es bx (fun k W => I k W ∧ W.heap[W2.heap.size + 1]? = some (.loop (rec .ready)) ∧ W.heap[W2.heap.size]? = some (.deferred (some []))) W3 hn (fun k W1 h => hr k W1 h.1) ?_ ⟨hI3, hL, hK⟩).mono ?_
  · rintro k m W hk hm ⟨k1, k2, k3⟩
    have hlt : W2.heap.size + 1 < W.heap.size := (Array.getElem?_eq_some_iff.1 k2).1
    have hy := run_yield (P := Tryz.prog) (args := #[.int .i64 (k : Int), mvG m]) k2 (by rw [hrec]; rfl)
    have hy2 : (Instr.yield (W2.heap.size + 1) #[.int .i64 (k : Int), mvG m]).run Tryz.prog W = .ok (.round (W2.heap.size + 1) fn ((a.tmps.setIfInBounds p1 (.int .i64 (k : Int))).setIfInBounds p2 (mvG m)) assign body) W := by
      rw [hy, hrec]; simp
    refine ⟨fn, _, assign, body, hy2, roundIn_of_wpIn hfn ?_⟩
    clear hy hy2
    refine hassign _ k _ m W _ rfl ?_
    have hga : W.grownBy (W.alloc (mvC m)) none := World.grownBy_alloc W _ none
    have k1a : I (k + 1) (W.alloc (mvC m)) := hI _ _ _ none k1 hga (fun k e => by cases e)
    have k2a : (W.alloc (mvC m)).heap[W2.heap.size + 1]? = some (.loop (rec .ready)) := (hga.block _ (Array.getElem?_eq_some_iff.1 k2).1 (by simp)).trans k2
    have k3a : (W.alloc (mvC m)).heap[W2.heap.size]? = some (.deferred (some [])) := (hga.block _ (Array.getElem?_eq_some_iff.1 k3).1 (by simp)).trans k3
    have hbm : (W.alloc (mvC m)).heap[W.heap.size]? = some (mvC m) := heap_alloc_new W _
    refine ⟨_, run_beginRound k2a (by rw [hrec]), ?_⟩
    obtain ⟨Wb, hWb⟩ : ∃ Wb, (W.alloc (mvC m)).putObj (W2.heap.size + 1) (.loop { rec .ready with state := .busy }) = Wb := ⟨_, rfl⟩
    have hgb : (W.alloc (mvC m)).grownBy Wb (some (W2.heap.size + 1)) := by rw [← hWb]; exact grownBy_putObj' _ _ _
    have hlb : Wb.heap[W2.heap.size + 1]? = some (.loop { rec .ready with state := .busy }) := by rw [← hWb]; exact World.putObj_heap_same (Array.getElem?_eq_some_iff.1 k2a).1
    have hkb : Wb.heap[W2.heap.size]? = some (.deferred (some [])) := (hgb.block _ (Array.getElem?_eq_some_iff.1 k3a).1 (by simp)).trans k3a
    have hbb : Wb.heap[W.heap.size]? = some (mvC m) := (hgb.block _ (Array.getElem?_eq_some_iff.1 hbm).1 (fun e => by injection e with e; omega)).trans hbm
    have hIb := hI (k + 1) (W.alloc (mvC m)) Wb _ k1a hgb (fun k e => by injection e with e; omega)
    rw [hWb]
    refine wpIn_mono (hround (W2.heap.size + 1) k m W.heap.size Wb hk hm hIb hbb (by omega)) ?_
    rintro ex a4 W4 ⟨rfl, hI4, hk4⟩
    have hl4 : W4.heap[W2.heap.size + 1]? = some (.loop { rec .ready with state := .busy }) := (hk4.block _ (Array.getElem?_eq_some_iff.1 hlb).1 (fun h => by have := hS _ h; omega)).trans hlb
    have hk4' : W4.heap[W2.heap.size]? = some (.deferred (some [])) := (hk4.block _ (Array.getElem?_eq_some_iff.1 hkb).1 (fun h => by have := hS _ h; omega)).trans hkb
    have hlt4 := (Array.getElem?_eq_some_iff.1 hl4).1
    refine ⟨_, _, run_endRound none hl4, rfl, ?_⟩
    have hg5 : W4.grownBy (W4.putObj (W2.heap.size + 1) (.loop (rec .ready))) (some (W2.heap.size + 1)) := grownBy_putObj' W4 _ _
    have e5 : ({ { rec .ready with state := .busy } with state := if (none : Option Code).isNone = true then LoopState.ready else .done, pending := none } : Loop) = rec .ready := by rw [hrec]; rfl
    rw [e5]
    exact ⟨hI _ _ _ _ hI4 hg5 (fun k e => by injection e with e; omega), World.putObj_heap_same hlt4, (World.putObj_heap_other (by omega)).trans hk4'⟩
  · rintro en W5 ⟨⟨v, rfl⟩, k1, k2, k3⟩
    have hlt := (Array.getElem?_eq_some_iff.1 k2).1
    refine ⟨none, _, by have := run_endLoop (P := Tryz.prog) k2 (by rw [hrec]; simp); rw [hrec] at this; exact this, ?_⟩
    refine hdone _ _ ((World.putObj_heap_other (by omega)).trans k3) (Nat.le_refl _) (by omega) ?_ (hI _ _ _ (some (W2.heap.size + 1)) k1 (grownBy_putObj' W5 _ _) (fun k e => by injection e with e; omega))
    simp; omega
end
section
section
open Go.RowKit Go.Shelf Go.Maps
attribute [local go_sem] Oper.semAt_some
theorem wpListIn_appH {F : Fence} {n0 : Nat} {P : Program} (hF : ∀ f, F.fn f) {w : World} {ops : Array Oper} {rest : List Oper} {o : Oper} {a : Act} {Q : Exit → Act → World → Prop} (hgd : o.guard = none) (s x : Operand) (t : TypeId)
    (ho : o.op = .call { callee := .builtin .append, args := #[s, x], argTypes := #[t, t] })
    {e : TypeId} {sz bytes : Nat} (hE : ElemOk P t e sz bytes) (base : Nat)
    (v : Value) (n : Nat) (xs : List Value) (hs : a.eval s = v) (hown : w.ownsRow base e sz v n xs) (A : Option Addr) (m c : Nat) (news : List Value) (hx : a.eval x = .slice A m c) (hr : Sl w sz A m news) (h1 : ∀ u ∈ news, u.oneCell' = true)
    (h63 : n + m ≤ maxLen) (hbytes : (n + m) * bytes ≤ 140737488355328) (hbase : base ≤ w.heap.size)
    (h : ∀ A' c' w', w'.ownsRow base e sz (.slice A' (n + m) c') (n + m) (xs ++ news) → w.grownBy w' v.ownBlock → ((Value.slice A' (n + m) c').ownBlock = v.ownBlock ∨ (Value.slice A' (n + m) c').ownBlock = some w.heap.size) →
      wpListIn F n0 P ops Q rest (a.put o.dst (.slice A' (n + m) c')) w') : wpListIn F n0 P ops Q (o :: rest) a w := by
  refine wpListIn_plain hgd fun K hK => ?_
  obtain ⟨A', c', w', hrun, h2, h3, h4⟩ := run_app (P := P) w hE base o.type v n xs hown A m c news hr h1 h63 hbytes hbase
  refine ⟨fun f _ => hF f, ?_⟩
  rw [Oper.semAt_plain F _ _ (by rw [ho]; intro c hc'; cases hc')]
  unfold execOp
  simp only [ho, resolve, invoke, builtin, Sem.run_bind, Sem.run_pure, Result.andThen_ok, List.map_toArray, List.map_cons, List.map_nil, hs, hx, hrun]
  exact hK _ _ (h A' c' w' h2 h3 h4)
theorem leave_one {F : Fence} {n : Nat} {P : Program} {fn : Func} {tmps : Array Value} {R : Ending → World → Prop} {D : Nat} {W : World} (h : W.heap[D]? = some (.deferred (some []))) {v : Value} (hv : (results fn tmps).run P (W.putObj D (.deferred none)) = .ok v (W.putObj D (.deferred none))) (hf : R (.returned v) (W.putObj D (.deferred none))) :
    LeavesInM F n P fn tmps R [{ target := .collected D, args := #[] }] .returning W := ⟨by simp, .inl ⟨_, _, rfl, run_takeDeferred h, v, hv, hf⟩⟩
/-- The blocks of a book lie where rows and maps lie. -/
def Of (W : World) (F G : Nat → Prop) : Prop := ∀ j, F j → ((∃ C ty, W.heap[j]? = some (.cells C ty (0, 0))) ∨ ∃ es cl, W.heap[j]? = some (.map es cl)) → G j
theorem Dsk.sub {W : World} {F G : Nat → Prop} {a : Nat} {d : Dk} (h : Dsk W F a d) (k : Of W F G) : Dsk W G a d := by
  obtain ⟨h1, h2, A, c, h3, h4, h5⟩ := h
  refine ⟨h1, k a h2 (.inl ⟨_, _, h3⟩), A, c, h3, h4, fun g hg => k g (h5 g hg) (.inl ?_)⟩
  obtain ⟨C, hC⟩ := own_blk h4 hg
  exact ⟨C, _, hC⟩
theorem Ent.sub {W : World} {F G : Nat → Prop} {v : Value} {E : List (List Mv)} (h : Ent W F v E) (k : Of W F G) : Ent W G v E := by
  obtain ⟨o, h1, h2, h3⟩ := h
  refine ⟨o, h1, fun g hg => ?_, fun i e he => ?_⟩
  · obtain ⟨C, hC⟩ := own_blk h1 hg
    exact k g (h2 g hg) (.inl ⟨C, _, hC⟩)
  · obtain ⟨Ai, ci, e1, e2, e3⟩ := h3 i e he
    refine ⟨Ai, ci, e1, e2, fun g hg => ?_⟩
    obtain ⟨C, hC⟩ := own_blk e2 hg
    exact k g (e3 g hg) (.inl ⟨C, _, hC⟩)
theorem Bd.sub {W : World} {F G : Nat → Prop} {a dk : Nat} {d : Dk} {b : Bk} (h : Bd W F a dk d b) (k : Of W F G) : Bd W G a dk d b := by
  refine ⟨h.disk.sub k, ?_⟩
  obtain ⟨q0, A, c, mb, n, q1, q2, q3, q4, q5⟩ := h.book
  exact ⟨k a q0 (.inl ⟨_, _, q1⟩), A, c, mb, n, q1, q2.sub k, k mb q3 (.inr q5.map), q4, q5⟩
/-- What the loop holds: the boxes, the entry, the moves that came. -/
structure RevI (w : World) (A : Option Addr) (n c : Nat) (es : List Mv) (bs B k : Nat) (W : World) : Prop where
  below : Below w.heap.size w W
  box : W.heap[bs + 1]? = some (.cells #[.slice A n c] 116 (0, 0))
  ent : SlE mvE 4 W A n es
  row : ∃ A' c', W.heap[bs]? = some (.cells #[.slice A' (n - k) c'] 116 (0, 0)) ∧ W.ownsRow B 142 4 (.slice A' (n - k) c') (n - k) ((revE (es.drop k)).flatMap mvE)
theorem SlE.grow {α : Type} {enc : α → List Value} {sz : Nat} {w X Y : World} {A : Option Addr} {n : Nat} {l : List α} {row : Option Nat} (h0 : SlE enc sz w A n l) (hb : Below w.heap.size w X) (hg : X.grownBy Y row) (hr : ∀ j, row = some j → w.heap.size ≤ j) : SlE enc sz Y A n l := h0.below
  ⟨hg.os.trans hb.os, hg.tape.trans hb.tape, hg.output.trans hb.output, Nat.le_trans hb.size hg.size, fun j hj => (hg.block j (Nat.lt_of_lt_of_le hj hb.size) (fun e => by have := hr j e.symm; omega)).trans (hb.block j hj)⟩
theorem RevI.grown {w X Y : World} {A : Option Addr} {n c bs B k : Nat} {es : List Mv} {row : Option Nat} (h : RevI w A n c es bs B k X) (h0 : SlE mvE 4 w A n es) (hg : X.grownBy Y row) (h1 : w.heap.size ≤ bs) (_h2 : bs + 1 < B) (hr : ∀ j, row = some j → bs + 2 ≤ j ∧ j < B) : RevI w A n c es bs B k Y := by
  obtain ⟨A', c', q1, q2⟩ := h.row
  refine ⟨⟨hg.os.trans h.below.os, hg.tape.trans h.below.tape, hg.output.trans h.below.output, Nat.le_trans h.below.size hg.size, fun j hj => (hg.block j (Nat.lt_of_lt_of_le hj h.below.size) (fun e => by have := hr j e.symm; omega)).trans (h.below.block j hj)⟩,
    (hg.block _ (Array.getElem?_eq_some_iff.1 h.box).1 (fun e => by have := hr _ e.symm; omega)).trans h.box, h0.grow h.below hg (fun j e => by have := hr j e; omega), A', c', (hg.block _ (Array.getElem?_eq_some_iff.1 q1).1 (fun e => by have := hr _ e.symm; omega)).trans q1, q2.kept hg ?_⟩
  rcases q2.2 with ⟨hv, _⟩ | ⟨g, c2, cur, hv, h3, _⟩
  · exact .inl (by rw [hv]; rfl)
  · refine .inr ?_
    rw [hv]
    intro e
    have := hr g e.symm
    omega
theorem own_ge {W : World} {B e sz n g : Nat} {v : Value} {xs : List Value} (h : W.ownsRow B e sz v n xs) (hg : v.ownBlock = some g) : B ≤ g := by
  rcases h.2 with ⟨hv, _⟩ | ⟨g2, c2, cur, hv, h3, _⟩
  · rw [hv] at hg
    cases hg
  · rw [hv] at hg
    cases hg
    exact h3
theorem revE_drop {es : List Mv} {k : Nat} {m : Mv} (h : es[k]? = some m) : revE (es.drop k) = revE (es.drop (k + 1)) ++ [swMv m] := by
  obtain ⟨hk, rfl⟩ := List.getElem?_eq_some_iff.1 h
  rw [List.drop_eq_getElem_cons hk]
  unfold revE
  rw [List.map_cons, List.reverse_cons]
section
variable {w W w1 : World} {A A' A1 : Option Addr} {n c bs k c' c1 : Nat} {es : List Mv} {m : Mv} {o : Obj}
theorem RevI.at (_h : RevI w A n c es bs (bs + 4) (k + 1) W) (hsz : bs + 4 ≤ W.heap.size) (q1 : W.heap[bs]? = some (.cells #[.slice A' (n - (k + 1)) c'] 116 (0, 0)))
    (q2 : W.ownsRow (bs + 4) 142 4 (.slice A' (n - (k + 1)) c') (n - (k + 1)) ((revE (es.drop (k + 1))).flatMap mvE)) (hg1 : (W.alloc o).grownBy w1 (Value.slice A' (n - (k + 1)) c').ownBlock) : w1.heap[bs]? = some (.cells #[.slice A' (n - (k + 1)) c'] 116 (0, 0)) :=
  (hg1.block bs (by simp; omega) (fun e => by have := own_ge q2 e.symm; omega)).trans ((heap_alloc_old W o (by omega)).trans q1)
theorem RevI.step (h : RevI w A n c es bs (bs + 4) (k + 1) W) (h0 : SlE mvE 4 w A n es) (h1 : w.heap.size ≤ bs) (hsz : bs + 4 ≤ W.heap.size) (hm : es[k]? = some m) (hk : k < n) (q1 : W.heap[bs]? = some (.cells #[.slice A' (n - (k + 1)) c'] 116 (0, 0)))
    (q2 : W.ownsRow (bs + 4) 142 4 (.slice A' (n - (k + 1)) c') (n - (k + 1)) ((revE (es.drop (k + 1))).flatMap mvE)) (hg1 : (W.alloc o).grownBy w1 (Value.slice A' (n - (k + 1)) c').ownBlock)
    (ho1 : w1.ownsRow (bs + 4) 142 4 (.slice A1 (n - (k + 1) + 1) c1) (n - (k + 1) + 1) ((revE (es.drop (k + 1))).flatMap mvE ++ mvE (swMv m))) :
    RevI w A n c es bs (bs + 4) k (w1.setCell ⟨bs, 0, none⟩ (.slice A1 (n - (k + 1) + 1) c1)) ∧ Kx (fun j => j = bs ∨ bs + 4 ≤ j) W (w1.setCell ⟨bs, 0, none⟩ (.slice A1 (n - (k + 1) + 1) c1)) := by
  have hk1 : Kx (fun j => j = bs ∨ bs + 4 ≤ j) W w1 := ((Kx.refl _ W).below (below_new W o)).grown hg1 fun j hj => .inl (.inr (own_ge q2 hj))
  have hk2 := hk1.trans (kx_put w1 bs 0 (.slice A1 (n - (k + 1) + 1) c1)) (T := fun j => j = bs) (fun j _ e => .inl e)
  have hat := h.at hsz q1 q2 hg1
  have hb : Below w.heap.size w (w1.setCell ⟨bs, 0, none⟩ (.slice A1 (n - (k + 1) + 1) c1)) := hk2.low h.below (fun j hj => by omega) (by omega)
  have hbox := h.box
  refine ⟨⟨hb, (hk2.block _ (Array.getElem?_eq_some_iff.1 hbox).1 (by omega)).trans hbox, h0.below hb, A1, c1, ?_, ?_⟩, hk2⟩
  · rw [hset hat, show n - (k + 1) + 1 = n - k by omega]
    rfl
  · have h2 := own_setH (a := bs) (i := 0) (u := .slice A1 (n - (k + 1) + 1) c1) ho1 hat (by decide)
    rw [revE_drop hm, List.flatMap_append, ← show n - (k + 1) + 1 = n - k by omega]
    simpa using h2
end
set_option maxRecDepth 100000 in
set_option maxHeartbeats 8000000 in
theorem reverse_any (w : World) (F : Nat → Prop) (a dk : Nat) (d : Dk) (b : Bk) (h : Bd w F a dk d b) (hi : Inv d b) (hu : Up w F) (hbr : b.br = false) (ix : Nat) (es : List Mv) (he : b.E[ix]? = some es) (hen : enOk es = true) :
    Calls Tryz.prog 173 #[.pointer (some ⟨a, 0, none⟩), .int .i64 (ix : Int)] w fun e w' => e = .returned (.int .i64 (postB d b (revE es)).2.2) ∧ Bd w' F a dk (postB d b (revE es)).1 (postB d b (revE es)).2.1 ∧ Kx F w w' := by
  suffices hs : CallsIn Fence.wide 8 Tryz.prog 173 #[.pointer (some ⟨a, 0, none⟩), .int .i64 (ix : Int)] w fun e w' => e = .returned (.int .i64 (postB d b (revE es)).2.2) ∧ Bd w' F a dk (postB d b (revE es)).1 (postB d b (revE es)).2.1 ∧ Kx F w w' from callsIn_wide.1 hs
  refine callsIn_h ?_
  intro R hR
  have HZ := Lib.hid (mvZ_of hen)
  have HZr := Lib.hid (mvZ_of (enOk_rev hen))
  obtain ⟨A0, c0, mb, n0, d0, d1, d2, d3, _, HEnt, _⟩ := h.book.cells
  have hixl : ix < b.E.length := (List.getElem?_eq_some_iff.1 he).1
  have hlen : b.E.length ≤ 9362 := hi.few
  have HK := Lib.hid (broken_any w F a dk b h.book)
  rw [hbr] at HK
  obtain ⟨outer, o1, o2, o3⟩ := HEnt.out
  obtain ⟨Ai, ci, e1, e2, e3⟩ := o3 ix es he
  obtain ⟨N, hN⟩ : ∃ N, es.length = N := ⟨_, rfl⟩
  have hN32 : N ≤ 32 := by rw [← hN]; exact HZ.out.1
  have HX := Lib.hid (show SlE mvE 4 w Ai N es from by rw [← hN]; exact SlE.of_own e2 rfl)
  rw [hN] at e1
  have HO := Lib.hid o1
  have HOut := Lib.hid e1
  have ha := h.book.lt
  obtain ⟨eb, eo, rfl, heb, hsl⟩ := (Sl.of_own HO.out).2 (by omega)
  have hcell := hsl ix _ HOut.out
  clear hsl
  have hi1 : (ix : Int) < (b.E.length : Int) := by omega
  have HD := Lib.hid h
  have HI := Lib.hid hi
  have HU := Lib.hid hu
  have HN := Lib.hid hN
  clear h hi hu hbr hen HEnt o1 o2 o3 e1 e2 e3 he hN
  refine callsIn_of_wp_marks Tryz.func173 rfl trivial ?_ rfl
  simp only [Tryz.ntmps173, List.size_toArray, List.length_cons, List.length_nil, Nat.reduceAdd, Nat.reduceSub, Array.replicate_succ, Array.replicate_zero, List.push_toArray, List.append_toArray, List.nil_append, List.cons_append]
  refine wpIn_wide.2 ?_
  obtain ⟨bs, hbs⟩ : ∃ bs, w.heap.size = bs := ⟨_, rfl⟩
  have Hbs := Lib.hid hbs
  rw [hbs] at ha heb
  have q1 := (World.cell?_alloc_lt w (.cells #[.slice none 0 0] 116) ⟨a, 1, none⟩ (by dsimp only; omega)).trans d1
  have q2 := (World.cell?_alloc_lt w (.cells #[.slice none 0 0] 116) ⟨eb, eo + ix, none⟩ (by dsimp only; omega)).trans hcell
  clear hbs
  go_wp2_with (go_at_call 244; (with_reducible refine HK.out.mono ?_); rintro e w' ⟨rfl, rfl⟩)
  refine (backw_any Ai N ci _).mono ?_
  rintro e w2 ⟨rfl, rfl⟩
  go_wp2_with fail
  rw [Hbs.out]
  have HI0 : RevI w Ai N ci es bs (bs + 4) N ((w.alloc (.cells #[.slice none 0 0] 116)).alloc (.cells #[.slice Ai N ci] 116)) ∧ ((w.alloc (.cells #[.slice none 0 0] 116)).alloc (.cells #[.slice Ai N ci] 116)).heap.size = bs + 2 := by
    have h0 := heap_alloc_new w (.cells #[.slice none 0 0] 116)
    have h1 := heap_alloc_new (w.alloc (.cells #[.slice none 0 0] 116)) (.cells #[.slice Ai N ci] 116)
    have b1 := below_new w (.cells #[.slice none 0 0] 116)
    have b2 := below_new (w.alloc (.cells #[.slice none 0 0] 116)) (.cells #[.slice Ai N ci] 116)
    have e0 := Hbs.out
    simp only [World.size_alloc, e0] at h0 h1 b1 b2
    refine ⟨⟨?_, h1, ((HX.out.alloc _).alloc _), none, 0, ?_, ?_⟩, by simp [e0]⟩
    · rw [e0]
      exact b1.trans (b2.mono (by omega))
    · rw [Nat.sub_self]
      exact (b2.block _ (by omega)).trans h0
    · rw [Nat.sub_self, List.drop_of_length_le (by rw [HN.out]; exact Nat.le_refl _)]
      exact World.ownsRow_nil _ _ _ _
  obtain ⟨W2, hW2⟩ : ∃ W2, (w.alloc (.cells #[.slice none 0 0] 116)).alloc (.cells #[.slice Ai N ci] 116) = W2 := ⟨_, rfl⟩
  rw [hW2] at HI0 ⊢
  have Hsz := Lib.hid HI0.2
  have HI1 := Lib.hid HI0.1
  clear HI0 hW2 q1 q2 d0 d1 d2 d3 hcell
  refine (wpIn_wide (n := 8)).1 ?_
  refine each_back (by omega) Ai N ci (bs + 1) es (by omega) rfl (enters_of Tryz.func316 (by kernel_rfl) rfl) (fun j => j = bs ∨ bs + 4 ≤ j) (fun j hj => by have := Hsz.out; omega)
    (fun k W => RevI w Ai N ci es bs (bs + 4) k W ∧ bs + 2 ≤ W.heap.size) (fun k X Y row hx hg hr => ⟨hx.1.grown HX.out hg (by have := Hbs.out; omega) (by omega) (fun j e => by have := hr j e; have := Hsz.out; omega), by have := hg.size; omega⟩) ⟨HI1.out, by rw [Hsz.out]; exact Nat.le_refl _⟩
    (fun k W1 hx => ⟨by rw [cell_of_row _ _ 0 _ _ (0, 0) hx.1.box]; rfl, hx.1.ent⟩) ?Ac ?assign ?body ?done
  case assign =>
    intro l k z m W K hz hK
    have Hz := Lib.hid hz
    clear hz
    gi_wp2_with fail
    rw [Hz.out]
    exact hK
  case body =>
    rintro l k m bm W hk hm ⟨hI, hWs⟩ hb hbm
    obtain ⟨A', c', q1, q2⟩ := hI.row
    obtain ⟨r0, r1, r2, r3, -⟩ := hcell4 hb
    have hst : bs + 4 ≤ W.heap.size := by
      have := (Array.getElem?_eq_some_iff.1 hb).1
      have := Hsz.out
      omega
    have t0 : W.cell? ⟨bs, 0, none⟩ = some (.slice A' (N - (k + 1)) c') := by rw [cell_of_row _ _ 0 _ _ (0, 0) q1]; rfl
    have HI := Lib.hid hI
    have Hq1 := Lib.hid q1
    have Hq2 := Lib.hid q2
    have Hm := Lib.hid hm
    have HW := Lib.hid hst
    clear hI q1 q2 hm hWs hb hbm hst
    gi_wp2_with (gi_at_builtin; refine wpListIn_appH (fun _ => trivial) rfl (.tmp 33) (.tmp 43) _ rfl elemMv (bs + 4) _ _ _ rfl (Hq2.out.alloc _) _ _ _ _ rfl (Sl.new _ _ _ 4 1 rfl) (mv_one [swMv m]) (by unfold maxLen; omega) (by omega) (by simp; have := HW.out; omega) ?_; intro A1 c1 w1 ho1 hg1 hp1; have hat := HI.out.at HW.out Hq1.out Hq2.out hg1; have t1 : w1.cell? ⟨bs, 0, none⟩ = some (.slice A' (N - (k + 1)) c') := by {rw [cell_of_row _ _ 0 _ _ (0, 0) hat]; rfl}; have t2 : w1.frozen? ⟨bs, 0, none⟩ = false := by {simp [World.frozen?, hat]}; have HG1 := Lib.hid hg1; have HO1 := Lib.hid ho1; clear hat hg1 ho1 hp1)
    obtain ⟨s1, s2⟩ := HI.out.step HX.out (by have := Hbs.out; omega) HW.out Hm.out hk Hq1.out Hq2.out HG1.out HO1.out
    exact ⟨⟨s1, by have h := s2.size; have := HW.out; simp [World.setCell] at h; omega⟩, s2⟩
  case done =>
    rintro D W hD hD1 hD2 hD3 ⟨hI, hWs⟩
    obtain ⟨A', c', q1, q2⟩ := hI.row
    rw [Nat.sub_zero] at q1
    rw [Nat.sub_zero, List.drop_zero] at q2
    have t0 : W.cell? ⟨bs, 0, none⟩ = some (.slice A' N c') := by rw [cell_of_row _ _ 0 _ _ (0, 0) q1]; rfl
    have hof : ∀ W', W'.heap[D]? = some (.deferred (some [])) → Of W' F fun j => F j ∧ j ≠ D := by
      intro W' hW' j hj hc
      refine ⟨hj, fun e => ?_⟩
      subst e
      rcases hc with ⟨C, ty, hc⟩ | ⟨es, cl, hc⟩ <;> rw [hW'] at hc <;> simp at hc
    have HW := Lib.hid (HD.out.below hI.below)
    have HP := Lib.hid (post_any W (fun j => F j ∧ j ≠ D) a dk d b A' N c' (revE es) ((HD.out.below hI.below).sub (hof W hD)) HI.out (fun j hj => ⟨HU.out.below hI.below j hj, by omega⟩) (own_mono q2 (by omega))
      (by unfold revE; rw [List.length_reverse, List.length_map]; exact HN.out.symm) (fun m hm => by have := HZr.out.2 m hm; omega) (by omega))
    have HDf := Lib.hid hD
    have HD3 := Lib.hid hD3
    have HBl := Lib.hid hI.below
    clear hI q1 q2 hD hof
    go_wp2_with fail
    refine HP.out.mono ?_
    rintro e w5 ⟨rfl, hb5, hk5⟩
    have hD5 := (hk5.block D HD3.out (by simp)).trans HDf.out
    have HD5 := Lib.hid hD5
    have hg6 : w5.grownBy (w5.putObj D (.deferred none)) (some D) := grownBy_putObj' w5 D _
    have hk6 : Kx (fun j => j = D) w5 (w5.putObj D (.deferred none)) := (Kx.refl _ w5).grown hg6 (fun j hj => .inl (by injection hj with e; exact e.symm))
    have hb6 : Bd (w5.putObj D (.deferred none)) F a dk (postB d b (revE es)).1 (postB d b (revE es)).2.1 := (show Bd (w5.putObj D (.deferred none)) (fun j => F j ∧ j ≠ D) a dk _ _ from ⟨hb5.disk.kx hk6 (fun j hj _ => hj.2), hb5.book.kx hk6 (fun j hj _ => hj.2)⟩).sub fun j hj _ => hj.1
    have hDF : F D := HU.out D (by have := Hbs.out; have := Hsz.out; omega)
    have Hf := Lib.hid (hR.out (.returned (.int .i64 (postB d b (revE es)).2.2)) (w5.putObj D (.deferred none)) ⟨rfl, hb6, ((kx_of_below HBl.out).trans hk5 (fun j _ h => h.1)).trans hk6 (fun j _ e => e ▸ hDF)⟩)
    clear hR hb5 hk5 hD5 hg6 hk6 hb6
    go_wp2_with fail
    exact leave_one HD5.out (v := .int .i64 (postB d b (revE es)).2.2) (by simp [results, Tryz.results173, go_sem]) Hf.out
end
end
end Go.Proofs.YtndcijkgaadpgaaGreatDoor
