/-
  The arguments opened, more: a list of ints, a list of cuts, a shape by value, three ints by value.
-/
import Derived.Test.YtfkpioibinpfhaaPOpen
namespace Go.Proofs.Ytfkpioibinpfhaa
open Go.RowKit Go.Joins Go.ChangeShapes Go.WideShapes Go.Deep

variable {H : Type} {enc : TypeId × Value → H} {W : World}

theorem Try.cellsInt : Try.prog.cellsOf 3 = 1 := by kernel_rfl
theorem Try.cellsBool : Try.prog.cellsOf 4 = 1 := by kernel_rfl
theorem list1 {l : List Value} (h : l.length = 1) : ∃ a, l = [a] := by
  match l, h with
  | [a], _ => exact ⟨a, rfl⟩
set_option maxRecDepth 100000 in
/-- A list of ints, in memory as it came. -/
theorem open_intsC {fuel : Nat} {cs : List Value} {x : DataW H × List MemPlace} (h : DataW.trod enc Try.prog W 0 (fun _ => true) true fuel 45 cs = some x) :
    ∃ A n c l, cs = [.slice A n c] ∧ n ≤ c ∧ c ≤ 9223372036854775807 ∧ SlE intE 1 W A n l := by
  rcases Go.Deep.open_slice Try.underlying45 h with ⟨rfl, _⟩ | ⟨a, len, cap, m, fu, D, Pl, rfl, _, hl, hm, hmm, _, hi⟩
  · exact ⟨none, 0, 0, [], rfl, Nat.le_refl _, by decide, SlE.nil _ _⟩
  · simp only [if_true] at hmm
    rw [hmm] at hi
    rw [Try.cellsInt] at hi
    obtain ⟨f, hf⟩ := choose_lt (α := Int) (n := len) (p := fun i s => ∀ j u, (intE s)[j]? = some u → W.cell? (a.add (i * 1 + j)) = some u) (fun i hil => by
      obtain ⟨cs', hc, ht⟩ := hi i (by omega)
      obtain ⟨_, hcl, hat⟩ := World.cells?_some hc
      obtain ⟨s, rfl, _, _⟩ := DataW.trod_int Try.underlying3 ht
      refine ⟨s, fun j u hu => ?_⟩
      have hj : j < 1 := (List.getElem?_eq_some_iff.1 hu).1
      rw [← Go.Deep.add_add, hat j hj]
      exact hu)
    exact ⟨some a, len, cap, (List.range len).map f, rfl, hl, by unfold maxLen at hm; omega, slE_of_cells intE_len (by omega) f hf⟩
set_option maxRecDepth 100000 in
theorem open_intsE {r : Reach} {b0 : Nat} {v : Value} {d : DataW H} {p : List MemPlace} (hv : Value.okWide Try.prog W r b0 45 v)
    (h : DataW.Trod enc Try.prog W 0 (fun _ => true) true 45 v d p) : ∃ A n c l, v = .slice A n c ∧ n ≤ c ∧ c ≤ 9223372036854775807 ∧ SlE intE 1 W A n l := by
  obtain ⟨a, len, cap, rfl⟩ := okWide_slice Try.underlying45 hv
  obtain ⟨fuel, hf⟩ := h
  obtain ⟨A, n, c, l, e, h1, h2, h3⟩ := open_intsC hf
  have e' : (Value.slice a len cap) = .slice A n c := by simpa [Value.cells] using e
  exact ⟨A, n, c, l, e', h1, h2, h3⟩
theorem list2 {l : List Value} (h : l.length = 2) : ∃ a b, l = [a, b] := by
  match l, h with
  | [a, b], _ => exact ⟨a, b, rfl⟩
theorem Try.cellsCut : Try.prog.cellsOf 81 = 2 := by kernel_rfl
set_option maxRecDepth 100000 in
theorem open_cut {fuel : Nat} {cs : List Value} {x : DataW H × List MemPlace} (h : DataW.trod enc Try.prog W 0 (fun _ => true) true fuel 81 cs = some x) (hl : cs.length = 2) : ∃ s : Int × Int, cs = cutE s := by
  obtain ⟨c0, c1, rfl⟩ := list2 hl
  obtain ⟨y0, y1, n, _, _, t0, t1⟩ := trod_struct2 Try.underlying81 h
  have k0 : Try.prog.cellsOf 3 = 1 := by kernel_rfl
  simp only [k0, List.drop_zero, List.drop_succ_cons, List.take_succ_cons, List.take_zero] at t0 t1
  obtain ⟨x0, e0, _, _⟩ := DataW.trod_int Try.underlying3 t0
  obtain ⟨x1, e1, _, _⟩ := DataW.trod_int Try.underlying3 t1
  simp only [List.cons.injEq, and_true] at e0 e1
  subst e0; subst e1
  exact ⟨(x0, x1), rfl⟩
set_option maxRecDepth 100000 in
theorem open_cuts {r : Reach} {b0 : Nat} {v : Value} {d : DataW H} {p : List MemPlace} (hv : Value.okWide Try.prog W r b0 26 v)
    (h : DataW.Trod enc Try.prog W 0 (fun _ => true) true 26 v d p) : ∃ A n c l, v = .slice A n c ∧ n ≤ c ∧ c ≤ 9223372036854775807 ∧ SlE cutE 2 W A n l := by
  obtain ⟨a, len, cap, rfl⟩ := okWide_slice Try.underlying26 hv
  obtain ⟨fuel, hf⟩ := h
  rcases Go.Deep.open_slice Try.underlying26 hf with ⟨e, _⟩ | ⟨a', len', cap', m, fu, D, Pl, e, _, hl, hm, hmm, _, hi⟩
  · have e' : (Value.slice a len cap) = .slice none 0 0 := by simpa [Value.cells] using e
    exact ⟨none, 0, 0, [], e', Nat.le_refl _, by decide, SlE.nil _ _⟩
  · have e' : (Value.slice a len cap) = .slice (some a') len' cap' := by simpa [Value.cells] using e
    simp only [if_true] at hmm
    rw [hmm] at hi
    rw [Try.cellsCut] at hi
    obtain ⟨f, hf⟩ := choose_lt (α := Int × Int) (n := len') (p := fun i s => ∀ j u, (cutE s)[j]? = some u → W.cell? (a'.add (i * 2 + j)) = some u) (fun i hil => by
      obtain ⟨cs', hc, ht⟩ := hi i (by omega)
      obtain ⟨_, hcl, hat⟩ := World.cells?_some hc
      obtain ⟨s, rfl⟩ := open_cut ht hcl
      refine ⟨s, fun j u hu => ?_⟩
      have hj : j < 2 := (List.getElem?_eq_some_iff.1 hu).1
      rw [← Go.Deep.add_add, hat j hj]
      exact hu)
    exact ⟨some a', len', cap', (List.range len').map f, e', hl, by unfold maxLen at hm; omega, slE_of_cells cutE_len (by omega) f hf⟩
set_option maxRecDepth 100000 in
theorem open_shapeV {r : Reach} {b0 : Nat} {v : Value} {d : DataW H} {p : List MemPlace} (hv : Value.okWide Try.prog W r b0 37 v)
    (h : DataW.Trod enc Try.prog W 0 (fun _ => true) true 37 v d p) : ∃ s : Shp, v = .agg #[.int .i64 s.W, .int .i64 s.H, .int .i64 s.V, .bool s.T] := by
  obtain ⟨v0, v1, v2, v3, y0, y1, y2, y3, m, rfl, _, _, t0, t1, t2, t3⟩ := open_agg4 Try.underlying37 (by kernel_rfl) Try.cellsShp hv h
  obtain ⟨x0, e0, _, _⟩ := DataW.trod_int Try.underlying3 t0
  obtain ⟨x1, e1, _, _⟩ := DataW.trod_int Try.underlying3 t1
  obtain ⟨x2, e2, _, _⟩ := DataW.trod_int Try.underlying3 t2
  obtain ⟨x3, e3, _⟩ := DataW.trod_bool Try.underlying4 t3
  simp only [List.cons.injEq, and_true] at e0 e1 e2 e3
  subst e0; subst e1; subst e2; subst e3
  exact ⟨⟨x0, x1, x2, x3⟩, rfl⟩
set_option maxRecDepth 100000 in
theorem open_int3 {r : Reach} {b0 : Nat} {v : Value} {d : DataW H} {p : List MemPlace} (hv : Value.okWide Try.prog W r b0 46 v)
    (h : DataW.Trod enc Try.prog W 0 (fun _ => true) true 46 v d p) : ∃ a b c : Int, v = .agg #[.int .i64 a, .int .i64 b, .int .i64 c] ∧ (Lit.int .i64 a).wf = true ∧ (Lit.int .i64 b).wf = true ∧ (Lit.int .i64 c).wf = true := by
  obtain ⟨cs, rfl, hsz⟩ : ∃ cs, v = .agg cs ∧ cs.size = 3 := by
    have hu := Try.underlying46
    have hc : Try.prog.cellsOf 46 = 3 := by kernel_rfl
    simp only [Value.okWide, hu] at hv
    obtain ⟨cs, h1, h2, _⟩ := hv
    exact ⟨cs, h1, by rw [h2, hc]⟩
  obtain ⟨fuel, hf⟩ := h
  have hl : (Value.agg cs).cells.toList.length = 3 := by simpa [Value.cells] using hsz
  obtain ⟨c0, c1, c2, hcs⟩ : ∃ c0 c1 c2, cs = #[c0, c1, c2] := by
    obtain ⟨l⟩ := cs
    match l, hsz with
    | [a, b, c], _ => exact ⟨a, b, c, rfl⟩
  subst hcs
  obtain ⟨xs, m, _, _, _, hlen, hi⟩ := DataW.trod_array Try.underlying46 hf
  rw [Try.cellsInt] at hi
  match xs, hlen with
  | [y0, y1, y2], _ =>
    have t0 := hi 0 (by omega)
    have t1 := hi 1 (by omega)
    have t2 := hi 2 (by omega)
    simp [Value.cells] at t0 t1 t2
    obtain ⟨x0, e0, _, w0⟩ := DataW.trod_int Try.underlying3 t0
    obtain ⟨x1, e1, _, w1⟩ := DataW.trod_int Try.underlying3 t1
    obtain ⟨x2, e2, _, w2⟩ := DataW.trod_int Try.underlying3 t2
    simp only [List.cons.injEq, and_true] at e0 e1 e2
    subst e0; subst e1; subst e2
    exact ⟨x0, x1, x2, rfl, w0, w1, w2⟩
end Go.Proofs.Ytfkpioibinpfhaa
