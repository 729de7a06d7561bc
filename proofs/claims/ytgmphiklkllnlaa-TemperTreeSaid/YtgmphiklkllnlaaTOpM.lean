/-
  A list of links and an array of two numbers as arguments; no condition but that the value is one.
-/
import Derived.Test.YtgmphiklkllnlaaTOpen
import Derived.Test.YtgmphiklkllnlaaTLBe
import Derived.Deep.Strs
namespace Go.Proofs.Ytgmphiklkllnlaa
section
open Go.RowKit Go.Joins Go.ChangeShapes Go.WideShapes Go.Deep
variable {H : Type} {enc : TypeId × Value → H} {W : World}
theorem Try.cellsLnk : Try.prog.cellsOf 42 = 3 := by kernel_rfl
theorem list3 {l : List Value} (h : l.length = 3) : ∃ a b c, l = [a, b, c] := by
  match l, h with
  | [a, b, c], _ => exact ⟨a, b, c, rfl⟩
set_option maxRecDepth 100000 in
theorem open_link {fuel : Nat} {cs : List Value} {x : DataW H × List MemPlace} (h : DataW.trod enc Try.prog W 0 (fun _ => true) true fuel 42 cs = some x) (hl : cs.length = 3) : ∃ s : Lk, cs = linkE s := by
  obtain ⟨c0, c1, c2, rfl⟩ := list3 hl
  obtain ⟨y0, y1, y2, m, _, _, t0, t1, t2⟩ := trod_struct3 Try.underlying42 h
  have k0 : Try.prog.cellsOf 3 = 1 := by kernel_rfl
  simp only [k0, List.drop_zero, List.drop_succ_cons, List.take_succ_cons, List.take_zero] at t0 t1 t2
  obtain ⟨x0, e0, _, _⟩ := DataW.trod_int Try.underlying3 t0
  obtain ⟨x1, e1, _, _⟩ := DataW.trod_int Try.underlying3 t1
  obtain ⟨x2, e2, _, _⟩ := DataW.trod_int Try.underlying3 t2
  simp only [List.cons.injEq, and_true] at e0 e1 e2
  subst e0; subst e1; subst e2
  exact ⟨⟨x0, x1, x2⟩, rfl⟩
set_option maxRecDepth 100000 in
theorem open_linksC {fuel : Nat} {cs : List Value} {x : DataW H × List MemPlace} (h : DataW.trod enc Try.prog W 0 (fun _ => true) true fuel 34 cs = some x) :
    ∃ A n c ss, cs = [.slice A n c] ∧ n ≤ c ∧ c ≤ 9223372036854775807 ∧ SlE linkE 3 W A n ss := by
  rcases Go.Deep.open_slice Try.underlying34 h with ⟨rfl, _⟩ | ⟨a, len, cap, m, fu, D, Pl, rfl, _, hl, hm, hmm, _, hi⟩
  · exact ⟨none, 0, 0, [], rfl, Nat.le_refl _, by decide, SlE.nil _ _⟩
  · simp only [if_true] at hmm
    rw [hmm] at hi
    rw [Try.cellsLnk] at hi
    obtain ⟨f, hf⟩ := choose_lt (α := Lk) (n := len) (p := fun i s => ∀ j u, (linkE s)[j]? = some u → W.cell? (a.add (i * 3 + j)) = some u) (fun i hil => by
      obtain ⟨cs', hc, ht⟩ := hi i (by omega)
      obtain ⟨_, hcl, hat⟩ := World.cells?_some hc
      obtain ⟨s, rfl⟩ := open_link ht hcl
      refine ⟨s, fun j u hu => ?_⟩
      have hj : j < 3 := (List.getElem?_eq_some_iff.1 hu).1
      rw [← Go.Deep.add_add, hat j hj]
      exact hu)
    exact ⟨some a, len, cap, (List.range len).map f, rfl, hl, by unfold maxLen at hm; omega, slE_of_cells linkE_len (by omega) f hf⟩
set_option maxRecDepth 100000 in
theorem open_links {r : Reach} {b0 : Nat} {v : Value} {d : DataW H} {p : List MemPlace} (hv : Value.okWide Try.prog W r b0 34 v)
    (h : DataW.Trod enc Try.prog W 0 (fun _ => true) true 34 v d p) : ∃ A n c l, v = .slice A n c ∧ n ≤ c ∧ c ≤ 9223372036854775807 ∧ SlE linkE 3 W A n l := by
  obtain ⟨a, len, cap, rfl⟩ := okWide_slice Try.underlying34 hv
  obtain ⟨fuel, hf⟩ := h
  obtain ⟨A, n, c, l, e, h1, h2, h3⟩ := open_linksC hf
  have e' : (Value.slice a len cap) = .slice A n c := by simpa [Value.cells] using e
  exact ⟨A, n, c, l, e', h1, h2, h3⟩
end
section
open Go.ChangeShapes Go.WideShapes Go.ChangeAt Go.RowKit
variable {H : Type} {enc : TypeId × Value → H} {W : World}
theorem Try.cellsInt2 : Try.prog.cellsOf 3 = 1 := by kernel_rfl
set_option maxRecDepth 100000 in
theorem open_int2 {r : Reach} {b0 : Nat} {v : Value} {d : DataW H} {p : List MemPlace} (hv : Value.okWide Try.prog W r b0 43 v)
    (h : DataW.Trod enc Try.prog W 0 (fun _ => true) true 43 v d p) : ∃ a b : Int, v = .agg #[.int .i64 a, .int .i64 b] := by
  obtain ⟨cs, rfl, hsz⟩ : ∃ cs, v = .agg cs ∧ cs.size = 2 := by
    have hu := Try.underlying43
    have hc : Try.prog.cellsOf 43 = 2 := by kernel_rfl
    simp only [Value.okWide, hu] at hv
    obtain ⟨cs, h1, h2, _⟩ := hv
    exact ⟨cs, h1, by rw [h2, hc]⟩
  obtain ⟨fuel, hf⟩ := h
  obtain ⟨c0, c1, hcs⟩ : ∃ c0 c1, cs = #[c0, c1] := by
    obtain ⟨l⟩ := cs
    match l, hsz with
    | [a, b], _ => exact ⟨a, b, rfl⟩
  subst hcs
  obtain ⟨xs, m, _, _, _, hlen, hi⟩ := DataW.trod_array Try.underlying43 hf
  rw [Try.cellsInt2] at hi
  match xs, hlen with
  | [y0, y1], _ =>
    have t0 := hi 0 (by omega)
    have t1 := hi 1 (by omega)
    simp [Value.cells] at t0 t1
    obtain ⟨x0, e0, _, _⟩ := DataW.trod_int Try.underlying3 t0
    obtain ⟨x1, e1, _, _⟩ := DataW.trod_int Try.underlying3 t1
    simp only [List.cons.injEq, and_true] at e0 e1
    subst e0; subst e1
    exact ⟨x0, x1, rfl⟩
end
end Go.Proofs.Ytgmphiklkllnlaa
