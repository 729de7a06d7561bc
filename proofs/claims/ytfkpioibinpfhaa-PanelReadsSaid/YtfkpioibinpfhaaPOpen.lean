/-
  The arguments opened: a list of shapes, a panel; any slice by its elements.
-/
import Derived.Test.YtfkpioibinpfhaaPMem
import Derived.Test.YtfkpioibinpfhaaBase2
import Derived.Deep.Fields
import Derived.Deep.Slices
import Derived.Lib.SmallJoins
import Derived.ProofKit
namespace Go.Proofs.Ytfkpioibinpfhaa
open Go.RowKit Go.Joins Go.ChangeShapes Go.WideShapes Go.Deep

theorem slE_of_cells {α : Type} {enc : α → List Value} {sz : Nat} (hsz : ∀ x, (enc x).length = sz) (h0 : 0 < sz) {W : World} {a : Addr} {len : Nat} (f : Nat → α)
    (h : ∀ i, i < len → ∀ j u, (enc (f i))[j]? = some u → W.cell? (a.add (i * sz + j)) = some u) : SlE enc sz W (some a) len ((List.range len).map f) := by
  refine ⟨by simp, by rw [flat_length hsz]; simp, fun hn => ?_⟩
  obtain ⟨b, o, sp⟩ := a
  have hfirst : W.cell? ⟨b, o, sp⟩ = some ((enc (f 0))[0]'(by rw [hsz]; exact h0)) := by
    have := h 0 hn 0 _ (List.getElem?_eq_getElem (by rw [hsz]; exact h0))
    simpa [Addr.add] using this
  have hsp : sp = none := by
    cases sp with
    | none => rfl
    | some s =>
      simp only [World.cell?] at hfirst
      split at hfirst <;> simp at hfirst
  subst hsp
  refine ⟨b, o, rfl, ?_, fun q u hu => ?_⟩
  · by_cases hb : b < W.heap.size
    · exact hb
    · simp [World.cell?, Array.getElem?_eq_none (Nat.le_of_not_lt hb)] at hfirst
  · have hq : q < len * sz := by
      have := (List.getElem?_eq_some_iff.1 hu).1
      rw [flat_length hsz] at this
      simpa using this
    have hi : q / sz < len := Nat.div_lt_of_lt_mul (by rw [Nat.mul_comm]; exact hq)
    have hr : q % sz < sz := Nat.mod_lt _ h0
    have he : q / sz * sz + q % sz = q := by rw [Nat.mul_comm]; exact Nat.div_add_mod q sz
    have hx : ((List.range len).map f)[q / sz]? = some (f (q / sz)) := by simp [hi]
    have hg := flat_get hsz _ _ (q % sz) _ hx hr
    rw [he, hu] at hg
    have := h _ hi _ _ hg.symm
    rw [he] at this
    rw [← this]
    by_cases hz : q = 0
    · subst hz; simp [Addr.add]
    · simp [Addr.add, hz]

variable {H : Type} {enc : TypeId × Value → H} {W : World}

theorem Try.cellsShp : Try.prog.cellsOf 37 = 4 := by kernel_rfl
theorem Try.cellsPan : Try.prog.cellsOf 24 = 4 := by kernel_rfl

instance : Inhabited Shp := ⟨⟨0, 0, 0, false⟩⟩
theorem list4 {l : List Value} (h : l.length = 4) : ∃ a b c d, l = [a, b, c, d] := by
  match l, h with
  | [a, b, c, d], _ => exact ⟨a, b, c, d, rfl⟩
set_option maxRecDepth 100000 in
/-- One shape's cells. -/
theorem open_shape {fuel : Nat} {cs : List Value} {x : DataW H × List MemPlace} (h : DataW.trod enc Try.prog W 0 (fun _ => true) true fuel 37 cs = some x) (hl : cs.length = 4) : ∃ s : Shp, cs = s.enc := by
  obtain ⟨c0, c1, c2, c3, rfl⟩ := list4 hl
  obtain ⟨y0, y1, y2, y3, m, _, _, t0, t1, t2, t3⟩ := trod_struct4 Try.underlying37 h
  have k0 : Try.prog.cellsOf 3 = 1 := by kernel_rfl
  have k3 : Try.prog.cellsOf 4 = 1 := by kernel_rfl
  simp only [k0, k3, List.drop_zero, List.drop_succ_cons, List.take_succ_cons, List.take_zero] at t0 t1 t2 t3
  obtain ⟨x0, e0, _, _⟩ := DataW.trod_int Try.underlying3 t0
  obtain ⟨x1, e1, _, _⟩ := DataW.trod_int Try.underlying3 t1
  obtain ⟨x2, e2, _, _⟩ := DataW.trod_int Try.underlying3 t2
  obtain ⟨x3, e3, _⟩ := DataW.trod_bool Try.underlying4 t3
  simp only [List.cons.injEq, and_true] at e0 e1 e2 e3
  subst e0; subst e1; subst e2; subst e3
  exact ⟨⟨x0, x1, x2, x3⟩, rfl⟩
set_option maxRecDepth 100000 in
/-- A list of shapes, in memory as it came. -/
theorem open_shapes {fuel : Nat} {cs : List Value} {x : DataW H × List MemPlace} (h : DataW.trod enc Try.prog W 0 (fun _ => true) true fuel 22 cs = some x) :
    ∃ A n c ss, cs = [.slice A n c] ∧ n ≤ c ∧ c ≤ 9223372036854775807 ∧ SlE Shp.enc 4 W A n ss := by
  rcases Go.Deep.open_slice Try.underlying22 h with ⟨rfl, _⟩ | ⟨a, len, cap, m, fu, D, Pl, rfl, _, hl, hm, hmm, _, hi⟩
  · exact ⟨none, 0, 0, [], rfl, Nat.le_refl _, by decide, SlE.nil _ _⟩
  · simp only [if_true] at hmm
    rw [hmm] at hi
    rw [Try.cellsShp] at hi
    obtain ⟨f, hf⟩ := choose_lt (α := Shp) (n := len) (p := fun i s => ∀ j u, s.enc[j]? = some u → W.cell? (a.add (i * 4 + j)) = some u) (fun i hil => by
      obtain ⟨cs', hc, ht⟩ := hi i (by omega)
      obtain ⟨_, hcl, hat⟩ := World.cells?_some hc
      obtain ⟨s, rfl⟩ := open_shape ht hcl
      refine ⟨s, fun j u hu => ?_⟩
      have hj : j < 4 := (List.getElem?_eq_some_iff.1 hu).1
      rw [← Go.Deep.add_add, hat j hj]
      exact hu)
    exact ⟨some a, len, cap, (List.range len).map f, rfl, hl, by unfold maxLen at hm; omega, slE_of_cells Shp.enc_len (by omega) f hf⟩

set_option maxRecDepth 100000 in
/-- A panel by value. -/
theorem open_panel {r : Reach} {b0 : Nat} {v : Value} {d : DataW H} {p : List MemPlace} (hv : Value.okWide Try.prog W r b0 24 v)
    (h : DataW.Trod enc Try.prog W 0 (fun _ => true) true 24 v d p) :
    ∃ (x y z : Int) (A : Option Addr) (n c : Nat) (ss : List Shp), v = .agg #[.int .i64 x, .int .i64 y, .int .i64 z, .slice A n c] ∧ n ≤ c ∧ c ≤ 9223372036854775807 ∧ SlE Shp.enc 4 W A n ss := by
  obtain ⟨v0, v1, v2, v3, y0, y1, y2, y3, m, rfl, _, _, t0, t1, t2, t3⟩ := open_agg4 Try.underlying24 (by kernel_rfl) Try.cellsPan hv h
  obtain ⟨x0, e0, _, _⟩ := DataW.trod_int Try.underlying3 t0
  obtain ⟨x1, e1, _, _⟩ := DataW.trod_int Try.underlying3 t1
  obtain ⟨x2, e2, _, _⟩ := DataW.trod_int Try.underlying3 t2
  obtain ⟨A, n, c, ss, e3, hnc, hc, hs⟩ := open_shapes t3
  simp only [List.cons.injEq, and_true] at e0 e1 e2 e3
  subst e0; subst e1; subst e2; subst e3
  exact ⟨x0, x1, x2, A, n, c, ss, rfl, hnc, hc, hs⟩
end Go.Proofs.Ytfkpioibinpfhaa
