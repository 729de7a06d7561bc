/-
  The arguments opened: a matching by value; a shop by value.
-/
import Derived.Test.YtjdhcdoekfikpaaMOpen
import Derived.Test.YtjdhcdoekfikpaaMTbl0
namespace Go.Proofs.Ytjdhcdoekfikpaa
open Go.RowKit Go.Joins Go.ChangeShapes Go.WideShapes Go.Deep
variable {H : Type} {enc : TypeId × Value → H} {W : World}

theorem Try.cellsMat : Try.prog.cellsOf 28 = 4 := by kernel_rfl
set_option maxRecDepth 100000 in
/-- A matching by value. -/
theorem open_matching {r : Reach} {b0 : Nat} {v : Value} {d : DataW H} {p : List MemPlace} (hv : Value.okWide Try.prog W r b0 28 v)
    (h : DataW.Trod enc Try.prog W 0 (fun _ => true) true 28 v d p) :
    ∃ (A1 A2 A3 : Option Addr) (n1 n2 n3 c1 c2 c3 : Nat) (l1 l2 l3 : List Int) (s : Int), v = .agg #[.slice A1 n1 c1, .slice A2 n2 c2, .slice A3 n3 c3, .int .i64 s] ∧
      (n1 ≤ c1 ∧ c1 ≤ 9223372036854775807 ∧ SlE intE 1 W A1 n1 l1) ∧ (n2 ≤ c2 ∧ c2 ≤ 9223372036854775807 ∧ SlE intE 1 W A2 n2 l2) ∧ (n3 ≤ c3 ∧ c3 ≤ 9223372036854775807 ∧ SlE intE 1 W A3 n3 l3) := by
  obtain ⟨v0, v1, v2, v3, y0, y1, y2, y3, m, rfl, _, _, t0, t1, t2, t3⟩ := open_agg4 Try.underlying28 (by kernel_rfl) Try.cellsMat hv h
  obtain ⟨A1, n1, c1, l1, e1, a1, b1, s1⟩ := open_intsC t0
  obtain ⟨A2, n2, c2, l2, e2, a2, b2, s2⟩ := open_intsC t1
  obtain ⟨A3, n3, c3, l3, e3, a3, b3, s3⟩ := open_intsC t2
  obtain ⟨s, e4, _, _⟩ := DataW.trod_int Try.underlying3 t3
  simp only [List.cons.injEq, and_true] at e1 e2 e3 e4
  subst e1; subst e2; subst e3; subst e4
  exact ⟨A1, A2, A3, n1, n2, n3, c1, c2, c3, l1, l2, l3, s, rfl, ⟨a1, b1, s1⟩, ⟨a2, b2, s2⟩, ⟨a3, b3, s3⟩⟩

set_option maxRecDepth 100000 in
theorem open_int3 {r : Reach} {b0 : Nat} {v : Value} {d : DataW H} {p : List MemPlace} (hv : Value.okWide Try.prog W r b0 47 v)
    (h : DataW.Trod enc Try.prog W 0 (fun _ => true) true 47 v d p) : ∃ a b c : Int, v = .agg #[.int .i64 a, .int .i64 b, .int .i64 c] ∧ (Lit.int .i64 a).wf = true ∧ (Lit.int .i64 b).wf = true ∧ (Lit.int .i64 c).wf = true := by
  obtain ⟨cs, rfl, hsz⟩ : ∃ cs, v = .agg cs ∧ cs.size = 3 := by
    have hu := Try.underlying47
    have hc : Try.prog.cellsOf 47 = 3 := by kernel_rfl
    simp only [Value.okWide, hu] at hv
    obtain ⟨cs, h1, h2, _⟩ := hv
    exact ⟨cs, h1, by rw [h2, hc]⟩
  obtain ⟨fuel, hf⟩ := h
  have hl : (Value.agg cs).cells.toList.length = 3 := by simpa [Value.cells] using hsz
  obtain ⟨c0, c1, c2, hcs⟩ : ∃ c0 c1 c2, cs = #[c0, c1, c2] := by
    obtain ⟨l⟩ := cs
    match l, hsz with
    | [a, b, c], _ => exact ⟨a, b, c, rfl⟩
  subst hcs
  obtain ⟨xs, m, _, _, _, hlen, hi⟩ := DataW.trod_array Try.underlying47 hf
  rw [Try.cellsInt] at hi
  match xs, hlen with
  | [y0, y1, y2], _ =>
    have t0 := hi 0 (by omega)
    have t1 := hi 1 (by omega)
    have t2 := hi 2 (by omega)
    simp [Value.cells] at t0 t1 t2
    obtain ⟨x0, e0, _, w0⟩ := DataW.trod_int Try.underlying3 t0
    obtain ⟨x1, e1, _, w1⟩ := DataW.trod_int Try.underlying3 t1
    obtain ⟨x2, e2, _, w2⟩ := DataW.trod_int Try.underlying3 t2
    simp only [List.cons.injEq, and_true] at e0 e1 e2
    subst e0; subst e1; subst e2
    exact ⟨x0, x1, x2, rfl, w0, w1, w2⟩
theorem Try.cellsJack : Try.prog.cellsOf 69 = 2 := by kernel_rfl
theorem Try.cellsQuill : Try.prog.cellsOf 67 = 2 := by kernel_rfl
theorem Try.cellsShop : Try.prog.cellsOf 56 = 4 := by kernel_rfl
theorem list2 {l : List Value} (h : l.length = 2) : ∃ a b, l = [a, b] := by
  match l, h with
  | [a, b], _ => exact ⟨a, b, rfl⟩
set_option maxRecDepth 100000 in
theorem open_jack {fuel : Nat} {cs : List Value} {x : DataW H × List MemPlace} (h : DataW.trod enc Try.prog W 0 (fun _ => true) true fuel 69 cs = some x) (hl : cs.length = 2) : ∃ s : Int × Int, cs = prE s := by
  obtain ⟨c0, c1, rfl⟩ := list2 hl
  obtain ⟨y0, y1, m, _, _, t0, t1⟩ := trod_struct2 Try.underlying69 h
  simp only [Try.cellsInt, List.drop_zero, List.drop_succ_cons, List.take_succ_cons, List.take_zero] at t0 t1
  obtain ⟨x0, e0, _, _⟩ := DataW.trod_int Try.underlying3 t0
  obtain ⟨x1, e1, _, _⟩ := DataW.trod_int Try.underlying3 t1
  simp only [List.cons.injEq, and_true] at e0 e1
  subst e0; subst e1
  exact ⟨(x0, x1), rfl⟩
set_option maxRecDepth 100000 in
theorem open_quill {fuel : Nat} {cs : List Value} {x : DataW H × List MemPlace} (h : DataW.trod enc Try.prog W 0 (fun _ => true) true fuel 67 cs = some x) (hl : cs.length = 2) : ∃ s : Int × Int, cs = prE s := by
  obtain ⟨c0, c1, rfl⟩ := list2 hl
  obtain ⟨y0, y1, m, _, _, t0, t1⟩ := trod_struct2 Try.underlying67 h
  simp only [Try.cellsInt, List.drop_zero, List.drop_succ_cons, List.take_succ_cons, List.take_zero] at t0 t1
  obtain ⟨x0, e0, _, _⟩ := DataW.trod_int Try.underlying3 t0
  obtain ⟨x1, e1, _, _⟩ := DataW.trod_int Try.underlying3 t1
  simp only [List.cons.injEq, and_true] at e0 e1
  subst e0; subst e1
  exact ⟨(x0, x1), rfl⟩
set_option maxRecDepth 100000 in
theorem open_jacks {fuel : Nat} {cs : List Value} {x : DataW H × List MemPlace} (h : DataW.trod enc Try.prog W 0 (fun _ => true) true fuel 53 cs = some x) :
    ∃ A n c ss, cs = [.slice A n c] ∧ n ≤ c ∧ c ≤ 9223372036854775807 ∧ SlE prE 2 W A n ss := by
  rcases Go.Deep.open_slice Try.underlying53 h with ⟨rfl, _⟩ | ⟨a, len, cap, m, fu, D, Pl, rfl, _, hl, hm, hmm, _, hi⟩
  · exact ⟨none, 0, 0, [], rfl, Nat.le_refl _, by decide, SlE.nil _ _⟩
  · simp only [if_true] at hmm
    rw [hmm] at hi
    rw [Try.cellsJack] at hi
    obtain ⟨f, hf⟩ := choose_lt (α := Int × Int) (n := len) (p := fun i s => ∀ j u, (prE s)[j]? = some u → W.cell? (a.add (i * 2 + j)) = some u) (fun i hil => by
      obtain ⟨cs', hc, ht⟩ := hi i (by omega)
      obtain ⟨_, hcl, hat⟩ := World.cells?_some hc
      obtain ⟨s, rfl⟩ := open_jack ht hcl
      refine ⟨s, fun j u hu => ?_⟩
      have hj : j < 2 := (List.getElem?_eq_some_iff.1 hu).1
      rw [← Go.Deep.add_add, hat j hj]
      exact hu)
    exact ⟨some a, len, cap, (List.range len).map f, rfl, hl, by unfold maxLen at hm; omega, slE_of_cells prE_len (by omega) f hf⟩
set_option maxRecDepth 100000 in
theorem open_quills {fuel : Nat} {cs : List Value} {x : DataW H × List MemPlace} (h : DataW.trod enc Try.prog W 0 (fun _ => true) true fuel 54 cs = some x) :
    ∃ A n c ss, cs = [.slice A n c] ∧ n ≤ c ∧ c ≤ 9223372036854775807 ∧ SlE prE 2 W A n ss := by
  rcases Go.Deep.open_slice Try.underlying54 h with ⟨rfl, _⟩ | ⟨a, len, cap, m, fu, D, Pl, rfl, _, hl, hm, hmm, _, hi⟩
  · exact ⟨none, 0, 0, [], rfl, Nat.le_refl _, by decide, SlE.nil _ _⟩
  · simp only [if_true] at hmm
    rw [hmm] at hi
    rw [Try.cellsQuill] at hi
    obtain ⟨f, hf⟩ := choose_lt (α := Int × Int) (n := len) (p := fun i s => ∀ j u, (prE s)[j]? = some u → W.cell? (a.add (i * 2 + j)) = some u) (fun i hil => by
      obtain ⟨cs', hc, ht⟩ := hi i (by omega)
      obtain ⟨_, hcl, hat⟩ := World.cells?_some hc
      obtain ⟨s, rfl⟩ := open_quill ht hcl
      refine ⟨s, fun j u hu => ?_⟩
      have hj : j < 2 := (List.getElem?_eq_some_iff.1 hu).1
      rw [← Go.Deep.add_add, hat j hj]
      exact hu)
    exact ⟨some a, len, cap, (List.range len).map f, rfl, hl, by unfold maxLen at hm; omega, slE_of_cells prE_len (by omega) f hf⟩
set_option maxRecDepth 100000 in
/-- A shop by value. -/
theorem open_shop {r : Reach} {b0 : Nat} {v : Value} {d : DataW H} {p : List MemPlace} (hv : Value.okWide Try.prog W r b0 56 v)
    (h : DataW.Trod enc Try.prog W 0 (fun _ => true) true 56 v d p) :
    ∃ (A1 A2 : Option Addr) (n1 n2 c1 c2 : Nat) (js qs : List (Int × Int)) (bend trim : Int), v = .agg #[.slice A1 n1 c1, .slice A2 n2 c2, .int .i64 bend, .int .i64 trim] ∧
      (n1 ≤ c1 ∧ c1 ≤ 9223372036854775807 ∧ SlE prE 2 W A1 n1 js) ∧ (n2 ≤ c2 ∧ c2 ≤ 9223372036854775807 ∧ SlE prE 2 W A2 n2 qs) := by
  obtain ⟨v0, v1, v2, v3, y0, y1, y2, y3, m, rfl, _, _, t0, t1, t2, t3⟩ := open_agg4 Try.underlying56 (by kernel_rfl) Try.cellsShop hv h
  obtain ⟨A1, n1, c1, l1, e1, a1, b1, s1⟩ := open_jacks t0
  obtain ⟨A2, n2, c2, l2, e2, a2, b2, s2⟩ := open_quills t1
  obtain ⟨s, e3, _, _⟩ := DataW.trod_int Try.underlying3 t2
  obtain ⟨t, e4, _, _⟩ := DataW.trod_int Try.underlying3 t3
  simp only [List.cons.injEq, and_true] at e1 e2 e3 e4
  subst e1; subst e2; subst e3; subst e4
  exact ⟨A1, A2, n1, n2, c1, c2, l1, l2, s, t, rfl, ⟨a1, b1, s1⟩, ⟨a2, b2, s2⟩⟩
end Go.Proofs.Ytjdhcdoekfikpaa
