/-
  The arguments opened: a list of ints, a table, three ints by value.
-/
import Derived.Test.YtjdhcdoekfikpaaMFe
import Derived.Deep.Fields
import Derived.Deep.Slices
import Derived.Lib.SmallJoins
import Derived.ProofKit
namespace Go.Proofs.Ytjdhcdoekfikpaa
open Go.RowKit Go.Joins Go.ChangeShapes Go.WideShapes Go.Deep

theorem slE_of_cells {α : Type} {enc : α → List Value} {sz : Nat} (hsz : ∀ x, (enc x).length = sz) (h0 : 0 < sz) {W : World} {a : Addr} {len : Nat} (f : Nat → α)
    (h : ∀ i, i < len → ∀ j u, (enc (f i))[j]? = some u → W.cell? (a.add (i * sz + j)) = some u) : SlE enc sz W (some a) len ((List.range len).map f) := by
  refine ⟨by simp, by rw [flat_length hsz]; simp, fun hn => ?_⟩
  obtain ⟨b, o, sp⟩ := a
  have hfirst : W.cell? ⟨b, o, sp⟩ = some ((enc (f 0))[0]'(by rw [hsz]; exact h0)) := by
    have := h 0 hn 0 _ (List.getElem?_eq_getElem (by rw [hsz]; exact h0))
    simpa [Addr.add] using this
  have hsp : sp = none := by
    cases sp with
    | none => rfl
    | some s =>
      simp only [World.cell?] at hfirst
      split at hfirst <;> simp at hfirst
  subst hsp
  refine ⟨b, o, rfl, ?_, fun q u hu => ?_⟩
  · by_cases hb : b < W.heap.size
    · exact hb
    · simp [World.cell?, Array.getElem?_eq_none (Nat.le_of_not_lt hb)] at hfirst
  · have hq : q < len * sz := by
      have := (List.getElem?_eq_some_iff.1 hu).1
      rw [flat_length hsz] at this
      simpa using this
    have hi : q / sz < len := Nat.div_lt_of_lt_mul (by rw [Nat.mul_comm]; exact hq)
    have hr : q % sz < sz := Nat.mod_lt _ h0
    have he : q / sz * sz + q % sz = q := by rw [Nat.mul_comm]; exact Nat.div_add_mod q sz
    have hx : ((List.range len).map f)[q / sz]? = some (f (q / sz)) := by simp [hi]
    have hg := flat_get hsz _ _ (q % sz) _ hx hr
    rw [he, hu] at hg
    have := h _ hi _ _ hg.symm
    rw [he] at this
    rw [← this]
    by_cases hz : q = 0
    · subst hz; simp [Addr.add]
    · simp [Addr.add, hz]

variable {H : Type} {enc : TypeId × Value → H} {W : World}

theorem Try.cellsInt : Try.prog.cellsOf 3 = 1 := by kernel_rfl
set_option maxRecDepth 100000 in
/-- A list of ints, in memory as it came. -/
theorem open_intsC {fuel : Nat} {cs : List Value} {x : DataW H × List MemPlace} (h : DataW.trod enc Try.prog W 0 (fun _ => true) true fuel 26 cs = some x) :
    ∃ A n c l, cs = [.slice A n c] ∧ n ≤ c ∧ c ≤ 9223372036854775807 ∧ SlE intE 1 W A n l := by
  rcases Go.Deep.open_slice Try.underlying26 h with ⟨rfl, _⟩ | ⟨a, len, cap, m, fu, D, Pl, rfl, _, hl, hm, hmm, _, hi⟩
  · exact ⟨none, 0, 0, [], rfl, Nat.le_refl _, by decide, SlE.nil _ _⟩
  · simp only [if_true] at hmm
    rw [hmm] at hi
    rw [Try.cellsInt] at hi
    obtain ⟨f, hf⟩ := choose_lt (α := Int) (n := len) (p := fun i s => ∀ j u, (intE s)[j]? = some u → W.cell? (a.add (i * 1 + j)) = some u) (fun i hil => by
      obtain ⟨cs', hc, ht⟩ := hi i (by omega)
      obtain ⟨_, hcl, hat⟩ := World.cells?_some hc
      obtain ⟨s, rfl, _, _⟩ := DataW.trod_int Try.underlying3 ht
      refine ⟨s, fun j u hu => ?_⟩
      have hj : j < 1 := (List.getElem?_eq_some_iff.1 hu).1
      rw [← Go.Deep.add_add, hat j hj]
      exact hu)
    exact ⟨some a, len, cap, (List.range len).map f, rfl, hl, by unfold maxLen at hm; omega, slE_of_cells intE_len (by omega) f hf⟩
set_option maxRecDepth 100000 in
theorem open_intsE {r : Reach} {b0 : Nat} {v : Value} {d : DataW H} {p : List MemPlace} (hv : Value.okWide Try.prog W r b0 26 v)
    (h : DataW.Trod enc Try.prog W 0 (fun _ => true) true 26 v d p) : ∃ A n c l, v = .slice A n c ∧ n ≤ c ∧ c ≤ 9223372036854775807 ∧ SlE intE 1 W A n l := by
  obtain ⟨a, len, cap, rfl⟩ := okWide_slice Try.underlying26 hv
  obtain ⟨fuel, hf⟩ := h
  obtain ⟨A, n, c, l, e, h1, h2, h3⟩ := open_intsC hf
  have e' : (Value.slice a len cap) = .slice A n c := by simpa [Value.cells] using e
  exact ⟨A, n, c, l, e', h1, h2, h3⟩
theorem Try.cellsInts : Try.prog.cellsOf 26 = 1 := by kernel_rfl
theorem slRc_of_cells {W : World} {a : Addr} {len : Nat} (f : Nat → List Int)
    (h : ∀ i, i < len → ∃ Ai ci, W.cell? (a.add i) = some (.slice Ai (f i).length ci) ∧ (f i).length ≤ ci ∧ ci ≤ 9223372036854775807 ∧ SlE intE 1 W Ai (f i).length (f i)) : SlRc W (some a) len ((List.range len).map f) := by
  refine ⟨by simp, fun hn => ?_⟩
  obtain ⟨b, o, sp⟩ := a
  obtain ⟨A0, c0, hfirst, _⟩ := h 0 hn
  have hfirst' : W.cell? ⟨b, o, sp⟩ = some (.slice A0 (f 0).length c0) := by simpa [Addr.add] using hfirst
  have hsp : sp = none := by
    cases sp with
    | none => rfl
    | some s =>
      simp only [World.cell?] at hfirst'
      split at hfirst' <;> simp at hfirst'
  subst hsp
  refine ⟨b, o, rfl, ?_, fun i r hr => ?_⟩
  · by_cases hb : b < W.heap.size
    · exact hb
    · simp [World.cell?, Array.getElem?_eq_none (Nat.le_of_not_lt hb)] at hfirst'
  · have hi : i < len := by
      have := (List.getElem?_eq_some_iff.1 hr).1
      simpa using this
    have he : r = f i := by
      rw [List.getElem?_map, List.getElem?_range hi] at hr
      simpa using hr.symm
    subst he
    obtain ⟨Ai, ci, h1, h2, h3, h4⟩ := h i hi
    refine ⟨Ai, ci, ?_, h2, h3, h4⟩
    rw [← h1]
    by_cases hz : i = 0
    · subst hz; simp [Addr.add]
    · simp [Addr.add, hz]
set_option maxRecDepth 100000 in
/-- A table, in memory as it came. -/
theorem open_rows {r : Reach} {b0 : Nat} {v : Value} {d : DataW H} {p : List MemPlace} (hv : Value.okWide Try.prog W r b0 22 v)
    (h : DataW.Trod enc Try.prog W 0 (fun _ => true) true 22 v d p) : ∃ A n c l, v = .slice A n c ∧ n ≤ c ∧ c ≤ 9223372036854775807 ∧ SlRc W A n l := by
  obtain ⟨a, len, cap, rfl⟩ := okWide_slice Try.underlying22 hv
  obtain ⟨fuel, hf⟩ := h
  rcases Go.Deep.open_slice Try.underlying22 hf with ⟨e, _⟩ | ⟨a', len', cap', m, fu, D, Pl, e, _, hl, hm, hmm, _, hi⟩
  · have e' : (Value.slice a len cap) = .slice none 0 0 := by simpa [Value.cells] using e
    exact ⟨none, 0, 0, [], e', Nat.le_refl _, by decide, rfl, fun h => absurd h (by omega)⟩
  · have e' : (Value.slice a len cap) = .slice (some a') len' cap' := by simpa [Value.cells] using e
    simp only [if_true] at hmm
    rw [hmm] at hi
    rw [Try.cellsInts] at hi
    obtain ⟨f, hf⟩ := choose_lt (α := List Int) (n := len') (p := fun i s => ∃ Ai ci, W.cell? (a'.add i) = some (.slice Ai s.length ci) ∧ s.length ≤ ci ∧ ci ≤ 9223372036854775807 ∧ SlE intE 1 W Ai s.length s) (fun i hil => by
      obtain ⟨cs', hc, ht⟩ := hi i (by omega)
      obtain ⟨_, hcl, hat⟩ := World.cells?_some hc
      obtain ⟨Ai, ni, ci, li, rfl, h1, h2, h3⟩ := open_intsC ht
      refine ⟨li, Ai, ci, ?_, by rw [← h3.1]; exact h1, h2, by rw [← h3.1]; exact h3⟩
      have := hat 0 (by simp)
      rw [← h3.1]
      simpa [Addr.add] using this)
    exact ⟨some a', len', cap', (List.range len').map f, e', hl, by unfold maxLen at hm; omega, slRc_of_cells f hf⟩
end Go.Proofs.Ytjdhcdoekfikpaa
