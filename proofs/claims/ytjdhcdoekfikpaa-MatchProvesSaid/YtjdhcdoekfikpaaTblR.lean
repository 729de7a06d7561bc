/-
  Words for memory: a slice of slices of ints whose rows were each made by append; no condition but those that each lemma states.
-/
import Derived.Test.YtjdhcdoekfikpaaMem3
namespace Go.Proofs.Ytjdhcdoekfikpaa
open Go.RowKit

theorem ownsRow_below {W W1 : World} {base e sz n : Nat} {v : Value} {xs : List Value} (h : W.ownsRow base e sz v n xs) (hb : Below W.heap.size W W1) : W1.ownsRow base e sz v n xs :=
  h.kept (row := none) ⟨hb.os, hb.tape, hb.output, hb.size, fun k hk _ => hb.block k hk⟩ (by cases v.ownBlock <;> simp)
def TblO (W : World) (base : Nat) (eo ei : TypeId) (v : Value) (L : Nat) (rows : List (List Int)) (outer : List Value) : Prop :=
  L = rows.length ∧ W.ownsRow base eo 1 v L outer ∧ ∀ (i : Nat) (r : List Int), rows[i]? = some r → ∃ Ai ci, outer[i]? = some (.slice Ai r.length ci) ∧ r.length ≤ ci ∧ W.ownsRow base ei 1 (.slice Ai r.length ci) r.length (r.flatMap intE)
def TblR (W : World) (base : Nat) (eo ei : TypeId) (v : Value) (L : Nat) (rows : List (List Int)) : Prop := ∃ outer, TblO W base eo ei v L rows outer
section
variable {W W' W1 W2 : World} {base L n : Nat} {eo ei : TypeId} {v v' : Value} {rows : List (List Int)} {outer : List Value}
theorem TblO.below (t : TblO W base eo ei v L rows outer) (hb : Below W.heap.size W W') : TblO W' base eo ei v L rows outer := by
  obtain ⟨h1, h2, h3⟩ := t
  refine ⟨h1, ownsRow_below h2 hb, fun i r hr => ?_⟩
  obtain ⟨Ai, ci, a, b, c⟩ := h3 i r hr
  exact ⟨Ai, ci, a, b, ownsRow_below c hb⟩
theorem TblR.below (t : TblR W base eo ei v L rows) (hb : Below W.heap.size W W') : TblR W' base eo ei v L rows := let ⟨o, h⟩ := t; ⟨o, h.below hb⟩
theorem TblO.own (t : TblO W base eo ei v L rows outer) : W.ownsRow base eo 1 v L outer := t.2.1
theorem TblO.start (h : W.ownsRow base eo 1 v 0 []) : TblO W base eo ei v 0 [] [] := ⟨rfl, h, fun i r hr => by simp at hr⟩
theorem TblO.snoc (t : TblO W base eo ei v L rows outer) (hne : eo ≠ ei) {r : List Int} {Ar : Option Addr} {cr : Nat} (hn : r.length = n) (hr : W.ownsRow base ei 1 (.slice Ar n cr) n (r.flatMap intE)) (hrc : n ≤ cr)
    (ho : W2.ownsRow base eo 1 v' (L + 1) (outer ++ [.slice Ar n cr])) (hg : W.grownBy W2 v.ownBlock) : TblO W2 base eo ei v' (L + 1) (rows ++ [r]) (outer ++ [.slice Ar n cr]) := by
  subst hn
  obtain ⟨h1, h2, h3⟩ := t
  have hlen : outer.length = L := by simpa using h2.1
  refine ⟨by simp [h1], ho, fun i r' hr' => ?_⟩
  by_cases hi : i < rows.length
  · rw [List.getElem?_append_left hi] at hr'
    obtain ⟨Ai, ci, a, b, c⟩ := h3 i r' hr'
    refine ⟨Ai, ci, by rw [List.getElem?_append_left (by omega)]; exact a, b, c.kept hg (own_ne c h2 (fun e => hne e.symm))⟩
  · have hi' : i = rows.length := by
      have := (List.getElem?_eq_some_iff.1 hr').1
      simp at this; omega
    subst hi'
    simp at hr'
    subst hr'
    refine ⟨Ar, cr, by rw [List.getElem?_append_right (by omega), hlen, ← h1]; simp, hrc, hr.kept hg (own_ne hr h2 (fun e => hne e.symm))⟩
theorem TblR.slr {A : Option Addr} {c : Nat} (t : TblR W base eo ei (.slice A L c) L rows) : SlR W A L rows := by
  obtain ⟨outer, h1, h2, h3⟩ := t
  refine ⟨h1, fun hn => ?_⟩
  obtain ⟨b, c', hv, _, hb⟩ := h2.form hn
  have hA : A = some ⟨b, 0, none⟩ := by injection hv
  subst hA
  refine ⟨b, 0, rfl, hb, fun i r hr => ?_⟩
  obtain ⟨Ai, ci, a, _, cc⟩ := h3 i r hr
  refine ⟨Ai, ci, ?_, SlE.of_own cc rfl⟩
  rw [Nat.zero_add]
  have hc := h2.cells (g := b) rfl i _ a
  have hadd : (⟨b, 0, none⟩ : Addr).add i = ⟨b, i, none⟩ := by unfold Addr.add; split <;> simp_all
  rwa [hadd] at hc
theorem SlR.at_ {A : Option Addr} {n k : Nat} (h : SlR W A n rows) (hk : k < n) : ∃ b o r Ai ci, A = some ⟨b, o, none⟩ ∧ b < W.heap.size ∧ rows[k]? = some r ∧ W.cell? ⟨b, o + k, none⟩ = some (.slice Ai r.length ci) ∧ SlE intE 1 W Ai r.length r := by
  obtain ⟨h1, h2⟩ := h
  obtain ⟨b, o, hA, hb, hc⟩ := h2 (by omega)
  have hr : rows[k]? = some (rows[k]'(by omega)) := List.getElem?_eq_getElem (by omega)
  obtain ⟨Ai, ci, a1, a2⟩ := hc k _ hr
  exact ⟨b, o, _, Ai, ci, hA, hb, hr, a1, a2⟩
end
end Go.Proofs.Ytjdhcdoekfikpaa
