/-
  Words for memory, more: make with a variable size; a table (slice of slices) of the call's own; no condition but those that each lemma states.
-/
import Derived.Test.YtjdhcdoekfikpaaBase
import Derived.StillTailTactics
import Derived.BigQuiet
import Derived.Deep.QuietTactic
namespace Go.Proofs.Ytjdhcdoekfikpaa
open Go.RowKit

theorem flat_int (r : List Int) : r.flatMap intE = r.map (Value.int .i64) := by
  induction r with
  | nil => rfl
  | cons a r ih => rw [List.flatMap_cons, ih]; rfl
/-- An owned row that is full is a block that is known whole. -/
theorem own_full {w : World} {base g n : Nat} {e : TypeId} {xs : List Value} (h : w.ownsRow base e 1 (.slice (some ⟨g, 0, none⟩) n n) n xs) : w.heap[g]? = some (.cells xs.toArray e (0, 0)) := by
  rcases h.2 with ⟨h0, _⟩ | ⟨g', cap, cur, hv, _, hg, _, _, hs, ht⟩
  · simp at h0
  · simp only [Value.slice.injEq, Option.some.injEq, Addr.mk.injEq] at hv
    obtain ⟨⟨rfl, _⟩, _, rfl⟩ := hv
    rw [hg, ← ht, List.take_of_length_le (by simp [hs])]
theorem wpList_mkInt {P : Program} {w : World} {ops : Array Oper} {rest : List Oper} {o : Oper} {a : Act} {Q : Exit → Act → World → Prop}
    (hg : o.guard = none) (l c : Operand) (t : TypeId) (hop : o.op = Op.makeSlice t l c) (e : TypeId)
    (ht : P.underlying t = some (.slice e)) (hi : (P.info? e).map (fun i => (i.zero, i.size, i.bytes)) = some (some (.int .i64 0), 1, 8))
    (L : Int) (n : Nat) (hl : a.eval l = .int .i64 L) (hc : a.eval c = .int .i64 L) (hL : L = (n : Int)) (b2 : n ≤ 1000000000)
    (hK : ∀ w', w'.heap[w.heap.size]? = some (.cells (List.replicate n (Value.int .i64 0)).toArray e (0, 0)) → w.grownBy w' none → wpList P ops Q rest (a.put o.dst (.slice (some ⟨w.heap.size, 0, none⟩) n n)) w') :
    wpList P ops Q (o :: rest) a w := by
  obtain ⟨i0, hi0, z0, z1, z2⟩ := info_parts hi
  refine wpList_make_full w hg l c t hop w.heap.size e i0 _ 1 ht hi0 z0 z1 .i64 .i64 L L n hl hc hL hL (by rw [z2]; omega) (by unfold maxLen; omega) (Nat.le_refl _) fun w' ho hgr => hK w' ?_ hgr
  have h := own_full ho
  rw [h]
  congr 2
  simp only [Nat.mul_one]
  rw [show (Value.int IntKind.i64 0).cells = #[.int .i64 0] from rfl, toList_madeCells_one]

/-- A slice of slices of ints. -/
def SlR (w : World) (A : Option Addr) (n : Nat) (rows : List (List Int)) : Prop :=
  n = rows.length ∧ (0 < n → ∃ b o, A = some ⟨b, o, none⟩ ∧ b < w.heap.size ∧ ∀ i r, rows[i]? = some r → ∃ Ai ci, w.cell? ⟨b, o + i, none⟩ = some (.slice Ai r.length ci) ∧ SlE intE 1 w Ai r.length r)
theorem SlR.below {w w' : World} {A : Option Addr} {n : Nat} {rows : List (List Int)} (h : SlR w A n rows) (hb : Below w.heap.size w w') : SlR w' A n rows :=
  ⟨h.1, fun hn => by
    obtain ⟨b, o, hA, hlt, hc⟩ := h.2 hn
    exact ⟨b, o, hA, Nat.lt_of_lt_of_le hlt hb.size, fun i r hr => by
      obtain ⟨Ai, ci, h1, h2⟩ := hc i r hr
      exact ⟨Ai, ci, (hb.cell hlt).trans h1, h2.below hb⟩⟩⟩
/-- A table of the call's own under way: the outer slice v owns its row; row i lies whole in block gs[i], each of h cells; no two share one. -/
structure Tbl (W : World) (base : Nat) (eo ei : TypeId) (v : Value) (L h : Nat) (rows : List (List Int)) (gs : List Nat) : Prop where
  cnt : L = rows.length
  own : W.ownsRow base eo 1 v L (gs.map fun g => Value.slice (some ⟨g, 0, none⟩) h h)
  len : gs.length = rows.length
  row : ∀ (i g : Nat) (r : List Int), gs[i]? = some g → rows[i]? = some r → base ≤ g ∧ r.length = h ∧ W.heap[g]? = some (.cells (r.map (Value.int .i64)).toArray ei (0, 0))
  ne : ∀ (i j g : Nat), gs[i]? = some g → gs[j]? = some g → i = j
section
variable {W W' : World} {base L h : Nat} {eo ei : TypeId} {v : Value} {rows : List (List Int)} {gs : List Nat}
theorem Tbl.lt (t : Tbl W base eo ei v L h rows gs) {i g : Nat} (hg : gs[i]? = some g) : base ≤ g ∧ g < W.heap.size := by
  have hi : i < gs.length := (List.getElem?_eq_some_iff.1 hg).1
  obtain ⟨h1, _, h3⟩ := t.row i g _ hg (List.getElem?_eq_getElem (by rw [← t.len]; exact hi))
  exact ⟨h1, (Array.getElem?_eq_some_iff.1 h3).1⟩
theorem Tbl.below {B : Nat} (t : Tbl W base eo ei v L h rows gs) (hb : Below B W W') (hB : W.heap.size ≤ B) : Tbl W' base eo ei v L h rows gs :=
  ⟨t.cnt, t.own.kept (row := none) ⟨hb.os, hb.tape, hb.output, hb.size, fun k hk _ => hb.block k (by omega)⟩ (by cases v.ownBlock <;> simp), t.len,
   fun i g r hg hr => by
    obtain ⟨h1, h2, h3⟩ := t.row i g r hg hr
    have := (t.lt hg).2
    exact ⟨h1, h2, (hb.block g (by omega)).trans h3⟩, t.ne⟩
theorem Tbl.alloc (t : Tbl W base eo ei v L h rows gs) (o : Obj) : Tbl (W.alloc o) base eo ei v L h rows gs := t.below ((Below.refl W.heap.size W).alloc (Nat.le_refl _) o) (Nat.le_refl _)
theorem Tbl.ofOwn {W : World} {base h : Nat} {eo ei : TypeId} {v : Value} (ho : W.ownsRow base eo 1 v 0 []) : Tbl W base eo ei v 0 h [] [] :=
  ⟨rfl, ho, rfl, fun i g r hg => by simp at hg, fun i j g hg => by simp at hg⟩
/-- One row more. -/
theorem Tbl.snoc (t : Tbl W base eo ei v L h rows gs) (hne : eo ≠ ei) {r : List Int} {g : Nat} {W1 W2 : World} {v' : Value} (hr : r.length = h) (hg0 : base ≤ g) (hgs : W.heap.size ≤ g) (hb : Below W.heap.size W W1)
    (hg : W1.heap[g]? = some (.cells (r.map (Value.int .i64)).toArray ei (0, 0)))
    (ho : W2.ownsRow base eo 1 v' (L + 1) ((gs.map fun g => Value.slice (some ⟨g, 0, none⟩) h h) ++ [.slice (some ⟨g, 0, none⟩) h h])) (hg2 : W1.grownBy W2 v.ownBlock) : Tbl W2 base eo ei v' (L + 1) h (rows ++ [r]) (gs ++ [g]) := by
  have t1 := t.below hb (Nat.le_refl _)
  have hk : ∀ (g' : Nat) (cs : Array Value), W1.heap[g']? = some (Obj.cells cs ei (0, 0)) → W2.heap[g']? = some (Obj.cells cs ei (0, 0)) := fun g' cs hc => by
    refine (hg2.block g' (Array.getElem?_eq_some_iff.1 hc).1 fun e => ?_).trans hc
    rcases t1.own.2 with ⟨rfl, _⟩ | ⟨g1, c1, cur1, rfl, _, hh1, _⟩
    · simp [Value.ownBlock] at e
    · have e' : g' = g1 := by simpa [Value.ownBlock] using e
      subst e'
      rw [hh1] at hc
      simp only [Option.some.injEq, Obj.cells.injEq] at hc
      exact hne hc.2.1
  refine ⟨by simp [t.cnt], by simpa using ho, by simp [t.len], fun i g' r' h1 h2 => ?_, fun i j g' h1 h2 => ?_⟩
  · by_cases hi : i < gs.length
    · rw [List.getElem?_append_left hi] at h1
      rw [List.getElem?_append_left (by rw [← t.len]; exact hi)] at h2
      obtain ⟨p1, p2, p3⟩ := t1.row i g' r' h1 h2
      exact ⟨p1, p2, hk g' _ p3⟩
    · have hi' : i = gs.length := by
        have := (List.getElem?_eq_some_iff.1 h1).1
        simp at this; omega
      subst hi'
      rw [t.len] at h2
      simp at h1 h2
      subst h1 h2
      exact ⟨hg0, hr, hk _ _ hg⟩
  · have a1 := (List.getElem?_eq_some_iff.1 h1).1
    have a2 := (List.getElem?_eq_some_iff.1 h2).1
    simp at a1 a2
    by_cases hi : i < gs.length <;> by_cases hj : j < gs.length
    · rw [List.getElem?_append_left hi] at h1
      rw [List.getElem?_append_left hj] at h2
      exact t.ne i j g' h1 h2
    · have hj' : j = gs.length := by omega
      subst hj'
      rw [List.getElem?_append_left hi] at h1
      simp at h2
      subst h2
      have := (t.lt h1).2
      omega
    · have hi' : i = gs.length := by omega
      subst hi'
      rw [List.getElem?_append_left hj] at h2
      simp at h1
      subst h1
      have := (t.lt h2).2
      omega
    · omega
/-- A store into one cell of one row. -/
theorem Tbl.set (t : Tbl W base eo ei v L h rows gs) (hne : eo ≠ ei) {i g : Nat} {r : List Int} (hg : gs[i]? = some g) (hr : rows[i]? = some r) (j : Nat) (x : Int) :
    Tbl (W.setCell ⟨g, j, none⟩ (.int .i64 x)) base eo ei v L h (rows.set i (r.set j x)) gs := by
  have hil : i < rows.length := (List.getElem?_eq_some_iff.1 hr).1
  obtain ⟨p1, p2, p3⟩ := t.row i g r hg hr
  refine ⟨by simp [t.cnt], ?_, by simp [t.len], fun i' g' r' h1 h2 => ?_, t.ne⟩
  · refine t.own.kept (row := some g) ⟨rfl, rfl, rfl, by simp [World.setCell], fun k hk hk' => Below.heap_setCell _ _ _ _ (fun e => hk' (by simp [e]))⟩ ?_
    refine .inr fun e => ?_
    rcases t.own.2 with ⟨rfl, _⟩ | ⟨g1, c1, cur1, rfl, _, hh1, _⟩
    · simp [Value.ownBlock] at e
    · have e' : g1 = g := by simpa [Value.ownBlock] using e
      subst e'
      rw [hh1] at p3
      simp only [Option.some.injEq, Obj.cells.injEq] at p3
      exact hne p3.2.1
  · by_cases hii : i' = i
    · subst hii
      rw [hg] at h1
      injection h1 with h1
      subst h1
      rw [List.getElem?_set_self hil] at h2
      injection h2 with h2
      subst h2
      refine ⟨p1, by simpa using p2, ?_⟩
      simp only [World.setCell, Array.getElem?_modify, p3]
      simp [List.map_set]
    · rw [List.getElem?_set_ne (fun e => hii e.symm)] at h2
      obtain ⟨q1, q2, q3⟩ := t.row i' g' r' h1 h2
      refine ⟨q1, q2, (Below.heap_setCell _ _ _ _ fun e => ?_).trans q3⟩
      dsimp only at e
      subst e
      exact hii (t.ne i' i _ h1 hg)
theorem Tbl.cellRow (t : Tbl W base eo ei v L h rows gs) {i g : Nat} {r : List Int} (hg : gs[i]? = some g) (hr : rows[i]? = some r) (j : Nat) (x : Int) (hx : r[j]? = some x) : W.cell? ⟨g, j, none⟩ = some (.int .i64 x) := by
  obtain ⟨_, _, p3⟩ := t.row i g r hg hr
  rw [cell_of_row W g j _ ei (0, 0) p3]
  simp [hx]
theorem Tbl.frozenRow (t : Tbl W base eo ei v L h rows gs) {i g : Nat} {r : List Int} (hg : gs[i]? = some g) (hr : rows[i]? = some r) (j : Nat) : W.frozen? ⟨g, j, none⟩ = false := by
  obtain ⟨_, _, p3⟩ := t.row i g r hg hr
  simp [World.frozen?, p3]
theorem Tbl.outer (t : Tbl W base eo ei v L h rows gs) (hn : 0 < L) : ∃ b c, v = .slice (some ⟨b, 0, none⟩) L c ∧ base ≤ b ∧ b < W.heap.size ∧ ∀ i g, gs[i]? = some g → W.cell? ⟨b, i, none⟩ = some (.slice (some ⟨g, 0, none⟩) h h) := by
  obtain ⟨b, c, rfl, h1, h2⟩ := t.own.form hn
  refine ⟨b, c, rfl, h1, h2, fun i g hg => ?_⟩
  have := t.own.cells (g := b) rfl i (.slice (some ⟨g, 0, none⟩) h h) (by simp [hg])
  have hadd : (⟨b, 0, none⟩ : Addr).add i = ⟨b, i, none⟩ := by unfold Addr.add; split <;> simp_all
  rwa [hadd] at this
theorem Tbl.slr {A : Option Addr} {c : Nat} (t : Tbl W base eo ei (.slice A L c) L h rows gs) : SlR W A L rows := by
  refine ⟨t.cnt, fun hn => ?_⟩
  obtain ⟨b, c', hv, _, hb, hc⟩ := t.outer hn
  have hA : A = some ⟨b, 0, none⟩ := by injection hv
  subst hA
  refine ⟨b, 0, rfl, hb, fun i r hr => ?_⟩
  have hi : i < gs.length := by rw [t.len]; exact (List.getElem?_eq_some_iff.1 hr).1
  have hg : gs[i]? = some gs[i] := List.getElem?_eq_getElem hi
  obtain ⟨_, p2, p3⟩ := t.row i _ r hg hr
  refine ⟨some ⟨gs[i], 0, none⟩, h, by rw [Nat.zero_add, p2]; exact hc i _ hg, rfl, by simp [flat_length intE_len], fun _ => ⟨_, 0, rfl, (t.lt hg).2, fun j u hu => ?_⟩⟩
  rw [Nat.zero_add, cell_of_row W _ j _ ei (0, 0) p3]
  rw [flat_int] at hu
  simpa using hu
end
end Go.Proofs.Ytjdhcdoekfikpaa
