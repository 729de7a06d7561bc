/-
  A loop over the beginnings of a ring whose body never leaves early: what holds between the rounds holds behind it; condition: what each round keeps.
-/
import Derived.Test.YtojbldoekalbnaaGreatTBgs
namespace Go.Proofs.YtojbldoekalbnaaGreat
open Go.RowKit Go.Shelf
theorem each_begs {nf : Nat} (hnf : 4 ≤ nf) {gop : Operand} {p : Tmp} {assign body : Code} {Q : Exit → Act → World → Prop} {a : Act} {W2 : World} (r : Rg) (hr : r.Ok) (A B : Option Addr) (n c m d bx : Nat)
    (hg : a.eval gop = .func (.func 79) #[] #[.pointer (some ⟨bx, 0, none⟩)]) (eg : ∀ args w, (callFunc 79 args).run Tryz.prog w = .ok (.enter 79 args) w) (hbx : W2.heap[bx]? = some (.cells #[.int .i64 r.N, .int .i64 r.S, .int .i64 r.low, .int .i64 r.high, .int .i64 r.total, .int .i64 r.pure, .int .i64 r.worst, .slice A n c, .slice B m d] 50))
    (S : Nat → Prop) (hS : ∀ j, S j → j < W2.heap.size) (hSb : ¬ S bx)
    (I : List (List Int) → World → Prop) (hI : ∀ s X Y row, I s X → X.grownBy Y row → (∀ k, row = some k → W2.heap.size ≤ k ∧ k ≤ W2.heap.size + 2) → I s Y) (h0 : I [] W2)
    (Ac : Addr → Nat → Act) (hassign : ∀ (l : Nat) (x : Addr) (e : Nat) (W : World) (K : Act → World → Prop), K (Ac x e) W → assign.wpIn (Fence.wide.inRound l) (nf - 1 - 1) Tryz.prog (Exit.then K (fun _ _ _ => False)) { tmps := a.tmps.setIfInBounds p (.slice (some x) (r.S - 1) e), defers := [] } W)
    (hround : ∀ (l : Nat) (pre : List (List Int)) (first : List Int) (rest : List (List Int)) (x : Addr) (e : Nat) (W : World), pre ++ first :: rest = r.begs → I pre W → SlE intE 1 W (some x) (r.S - 1) first → W2.heap.size + 2 < x.block → W2.heap.size + 2 < W.heap.size →
      body.wpIn (Fence.wide.inRound l) (nf - 1 - 1) Tryz.prog (fun ex _ W3 => ex = .normal ∧ I (pre ++ [first]) W3 ∧ Kx S W W3) (Ac x e) W)
    (hdone : ∀ D W, W.heap[D]? = some (.deferred (some [])) → W2.heap.size ≤ D → D ≤ W2.heap.size + 2 → D < W.heap.size → I r.begs W → Q .normal { a with defers := { target := .collected D, args := #[] } :: a.defers } W) :
    (Code.rangeFunc gop #[p] assign body).wpIn Fence.wide nf Tryz.prog Q a W2 := by
  refine wpIn_rangeFunc ?_
  intro fn hfn
  obtain ⟨rec, hrec⟩ : ∃ rec : LoopState → Loop, rec = fun st => { state := st, pending := none, fn := fn, tmps := a.tmps, params := #[p], assign := assign, body := body, defers := W2.heap.size } := ⟨_, rfl⟩
  obtain ⟨W3, hW3⟩ : ∃ W3, (W2.alloc (.deferred (some []))).alloc (.loop (rec .ready)) = W3 := ⟨_, rfl⟩
  have hsz3 : W3.heap.size = W2.heap.size + 2 := by rw [← hW3]; simp
  have hL : W3.heap[W2.heap.size + 1]? = some (.loop (rec .ready)) := by
    have h := heap_alloc_new (W2.alloc (.deferred (some []))) (.loop (rec .ready))
    rw [World.size_alloc] at h
    rw [← hW3]; exact h
  have hK : W3.heap[W2.heap.size]? = some (.deferred (some [])) := by
    rw [← hW3, Below.heap_alloc _ _ _ (by simp)]; exact heap_alloc_new W2 _
  have hI3 : I [] W3 := by
    rw [← hW3]
    exact hI _ _ _ none (hI _ _ _ none h0 (World.grownBy_alloc W2 _ none) (fun k e => by cases e)) (World.grownBy_alloc _ _ none) (fun k e => by cases e)
  have hbx3 : W3.heap[bx]? = some (.cells #[.int .i64 r.N, .int .i64 r.S, .int .i64 r.low, .int .i64 r.high, .int .i64 r.total, .int .i64 r.pure, .int .i64 r.worst, .slice A n c, .slice B m d] 50) := by
    have hlt := (Array.getElem?_eq_some_iff.1 hbx).1
    rw [← hW3, Below.heap_alloc _ _ _ (by simp; omega), Below.heap_alloc _ _ _ hlt]; exact hbx
  refine ⟨W2.heap.size + 1, [{ target := .collected W2.heap.size, args := #[] }], W3, { target := .fn (.func 79) #[.pointer (some ⟨bx, 0, none⟩)], args := #[.func (.yield (W2.heap.size + 1)) #[] #[]] }, W3, 79,
    #[.func (.yield (W2.heap.size + 1)) #[] #[], .pointer (some ⟨bx, 0, none⟩)], W3, ?_, ?_, fun f' hf' => trivial, ?_, fun _ => by omega, ?_⟩
  · rw [← hW3, hrec]; exact run_enterLoop_outer _ _ _ _ _
  · simp only [resolve, hg]
    simp [go_sem]
  · simp [invoke, go_sem, eg]
  refine (begs_in (nf - 1) (W2.heap.size + 1) (by omega) (fun j => S j ∨ j = W2.heap.size + 1) r hr A B n c m d bx (fun s W => I s W ∧ W.heap[W2.heap.size + 1]? = some (.loop (rec .ready)) ∧ W.heap[W2.heap.size]? = some (.deferred (some []))) W3 ?_ ?_ (fun j hj => by rcases hj with hj | hj; (have := hS j hj; omega); omega) hbx3 (fun hj => by rcases hj with hj | hj; exact hSb hj; have := (Array.getElem?_eq_some_iff.1 hbx).1; omega) ⟨hI3, hL, hK⟩).mono ?_
  · rintro s X Y row ⟨k1, k2, k3⟩ hgr hrow
    rw [hsz3] at hrow
    refine ⟨hI s X Y row k1 hgr (fun k e => by have := hrow k e; omega), (hgr.block _ (Array.getElem?_eq_some_iff.1 k2).1 (fun e => ?_)).trans k2, (hgr.block _ (Array.getElem?_eq_some_iff.1 k3).1 (fun e => ?_)).trans k3⟩
    · have := hrow _ e.symm; omega
    · have := hrow _ e.symm; omega
  · rintro pre first rest x e W hp ⟨k1, k2, k3⟩ hsl hx
    rw [hsz3] at hx
    have hlt : W2.heap.size + 1 < W.heap.size := (Array.getElem?_eq_some_iff.1 k2).1
    have hy := run_yield (P := Tryz.prog) (args := #[.slice (some x) (r.S - 1) e]) k2 (by rw [hrec]; rfl)
    have hy2 : (Instr.yield (W2.heap.size + 1) #[.slice (some x) (r.S - 1) e]).run Tryz.prog W = .ok (.round (W2.heap.size + 1) fn (a.tmps.setIfInBounds p (.slice (some x) (r.S - 1) e)) assign body) W := by
      rw [hy, hrec]; simp
    refine ⟨fn, _, assign, body, hy2, roundIn_of_wpIn hfn ?_⟩
    clear hy hy2
    refine hassign _ x e W _ ?_
    refine ⟨_, run_beginRound k2 (by rw [hrec]), ?_⟩
    obtain ⟨Wb, hWb⟩ : ∃ Wb, W.putObj (W2.heap.size + 1) (.loop { rec .ready with state := .busy }) = Wb := ⟨_, rfl⟩
    have hgb : W.grownBy Wb (some (W2.heap.size + 1)) := by rw [← hWb]; exact grownBy_putObj' W _ _
    have hlb : Wb.heap[W2.heap.size + 1]? = some (.loop { rec .ready with state := .busy }) := by rw [← hWb]; exact World.putObj_heap_same hlt
    have hkb : Wb.heap[W2.heap.size]? = some (.deferred (some [])) := (hgb.block _ (Array.getElem?_eq_some_iff.1 k3).1 (by simp)).trans k3
    have hIb := hI pre W Wb _ k1 hgb (fun k e => by injection e with e; omega)
    have hslb := hsl.grown hgb (fun _ y hy => by injection hy with hy; subst hy; simp; omega)
    have hgz := hgb.size
    have hxl : x.block < W.heap.size := by
      obtain ⟨b', o', e', hb', _⟩ := hsl.2.2 (by have := hr.s1; omega)
      injection e' with e'
      subst e'
      exact hb'
    rw [hWb]
    refine wpIn_mono (hround (W2.heap.size + 1) pre first rest x e Wb hp hIb hslb hx (by omega)) ?_
    rintro ex a4 W4 ⟨rfl, hI4, hk4⟩
    have hl4 : W4.heap[W2.heap.size + 1]? = some (.loop { rec .ready with state := .busy }) := (hk4.block _ (Array.getElem?_eq_some_iff.1 hlb).1 (fun h => by have := hS _ h; omega)).trans hlb
    have hk4' : W4.heap[W2.heap.size]? = some (.deferred (some [])) := (hk4.block _ (Array.getElem?_eq_some_iff.1 hkb).1 (fun h => by have := hS _ h; omega)).trans hkb
    have hlt4 := (Array.getElem?_eq_some_iff.1 hl4).1
    refine ⟨_, _, run_endRound none hl4, rfl, ?_, ?_⟩
    · have hg5 : W4.grownBy (W4.putObj (W2.heap.size + 1) (.loop (rec .ready))) (some (W2.heap.size + 1)) := grownBy_putObj' W4 _ _
      have e5 : ({ { rec .ready with state := .busy } with state := if (none : Option Code).isNone = true then LoopState.ready else .done, pending := none } : Loop) = rec .ready := by rw [hrec]; rfl
      rw [e5]
      exact ⟨hI _ _ _ _ hI4 hg5 (fun k e => by injection e with e; omega), World.putObj_heap_same hlt4, (World.putObj_heap_other (by omega)).trans hk4'⟩
    · have k1 : Kx (fun j => S j ∨ j = W2.heap.size + 1) W Wb := (Kx.refl _ _).grown hgb (fun j hj => .inl (.inr (by injection hj with hj; exact hj.symm)))
      have k2 := k1.trans hk4 (fun j _ h => .inl h)
      exact k2.grown (grownBy_putObj' W4 _ _) (fun j hj => .inl (.inr (by injection hj with hj; exact hj.symm)))
  · rintro en W5 ⟨⟨v, rfl⟩, k1, k2, k3⟩
    have hlt := (Array.getElem?_eq_some_iff.1 k2).1
    refine ⟨none, _, by have := run_endLoop (P := Tryz.prog) k2 (by rw [hrec]; simp); rw [hrec] at this; exact this, ?_⟩
    refine hdone _ _ ((World.putObj_heap_other (by omega)).trans k3) (Nat.le_refl _) (by omega) ?_ (hI _ _ _ (some (W2.heap.size + 1)) k1 (grownBy_putObj' W5 _ _) (fun k e => by injection e with e; omega))
    simp; omega
end Go.Proofs.YtojbldoekalbnaaGreat
