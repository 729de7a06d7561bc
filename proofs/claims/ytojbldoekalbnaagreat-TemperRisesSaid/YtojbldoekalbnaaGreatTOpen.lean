/-
  The arguments opened: a list of ints, a ring by value.
-/
import Derived.Test.YtojbldoekalbnaaGreatTLk
import Derived.Deep.Fields
import Derived.Deep.Slices
import Derived.Lib.SmallJoins
import Derived.ProofKit
namespace Go.Proofs.YtojbldoekalbnaaGreat
open Go.RowKit Go.Joins Go.ChangeShapes Go.WideShapes Go.Deep

theorem slE_of_cells {α : Type} {enc : α → List Value} {sz : Nat} (hsz : ∀ x, (enc x).length = sz) (h0 : 0 < sz) {W : World} {a : Addr} {len : Nat} (f : Nat → α)
    (h : ∀ i, i < len → ∀ j u, (enc (f i))[j]? = some u → W.cell? (a.add (i * sz + j)) = some u) : SlE enc sz W (some a) len ((List.range len).map f) := by
  refine ⟨by simp, by rw [flat_length hsz]; simp, fun hn => ?_⟩
  obtain ⟨b, o, sp⟩ := a
  have hfirst : W.cell? ⟨b, o, sp⟩ = some ((enc (f 0))[0]'(by rw [hsz]; exact h0)) := by
    have := h 0 hn 0 _ (List.getElem?_eq_getElem (by rw [hsz]; exact h0))
    simpa [Addr.add] using this
  have hsp : sp = none := by
    cases sp with
    | none => rfl
    | some s =>
      simp only [World.cell?] at hfirst
      split at hfirst <;> simp at hfirst
  subst hsp
  refine ⟨b, o, rfl, ?_, fun q u hu => ?_⟩
  · by_cases hb : b < W.heap.size
    · exact hb
    · simp [World.cell?, Array.getElem?_eq_none (Nat.le_of_not_lt hb)] at hfirst
  · have hq : q < len * sz := by
      have := (List.getElem?_eq_some_iff.1 hu).1
      rw [flat_length hsz] at this
      simpa using this
    have hi : q / sz < len := Nat.div_lt_of_lt_mul (by rw [Nat.mul_comm]; exact hq)
    have hr : q % sz < sz := Nat.mod_lt _ h0
    have he : q / sz * sz + q % sz = q := by rw [Nat.mul_comm]; exact Nat.div_add_mod q sz
    have hx : ((List.range len).map f)[q / sz]? = some (f (q / sz)) := by simp [hi]
    have hg := flat_get hsz _ _ (q % sz) _ hx hr
    rw [he, hu] at hg
    have := h _ hi _ _ hg.symm
    rw [he] at this
    rw [← this]
    by_cases hz : q = 0
    · subst hz; simp [Addr.add]
    · simp [Addr.add, hz]

variable {H : Type} {enc : TypeId × Value → H} {W : World}

theorem Tryz.cellsInt : Tryz.prog.cellsOf 3 = 1 := by kernel_rfl
set_option maxRecDepth 100000 in
/-- A list of ints, in memory as it came. -/
theorem open_intsC {fuel : Nat} {cs : List Value} {x : DataW H × List MemPlace} (h : DataW.trod enc Tryz.prog W 0 (fun _ => true) true fuel 22 cs = some x) :
    ∃ A n c l, cs = [.slice A n c] ∧ n ≤ c ∧ c ≤ 9223372036854775807 ∧ SlE intE 1 W A n l := by
  rcases Go.Deep.open_slice Tryz.underlying22 h with ⟨rfl, _⟩ | ⟨a, len, cap, m, fu, D, Pl, rfl, _, hl, hm, hmm, _, hi⟩
  · exact ⟨none, 0, 0, [], rfl, Nat.le_refl _, by decide, SlE.nil _ _⟩
  · simp only [if_true] at hmm
    rw [hmm] at hi
    rw [Tryz.cellsInt] at hi
    obtain ⟨f, hf⟩ := choose_lt (α := Int) (n := len) (p := fun i s => ∀ j u, (intE s)[j]? = some u → W.cell? (a.add (i * 1 + j)) = some u) (fun i hil => by
      obtain ⟨cs', hc, ht⟩ := hi i (by omega)
      obtain ⟨_, hcl, hat⟩ := World.cells?_some hc
      obtain ⟨s, rfl, _, _⟩ := DataW.trod_int Tryz.underlying3 ht
      refine ⟨s, fun j u hu => ?_⟩
      have hj : j < 1 := (List.getElem?_eq_some_iff.1 hu).1
      rw [← Go.Deep.add_add, hat j hj]
      exact hu)
    exact ⟨some a, len, cap, (List.range len).map f, rfl, hl, by unfold maxLen at hm; omega, slE_of_cells intE_len (by omega) f hf⟩
set_option maxRecDepth 100000 in
theorem open_intsE {r : Reach} {b0 : Nat} {v : Value} {d : DataW H} {p : List MemPlace} (hv : Value.okWide Tryz.prog W r b0 22 v)
    (h : DataW.Trod enc Tryz.prog W 0 (fun _ => true) true 22 v d p) : ∃ A n c l, v = .slice A n c ∧ n ≤ c ∧ c ≤ 9223372036854775807 ∧ SlE intE 1 W A n l := by
  obtain ⟨a, len, cap, rfl⟩ := okWide_slice Tryz.underlying22 hv
  obtain ⟨fuel, hf⟩ := h
  obtain ⟨A, n, c, l, e, h1, h2, h3⟩ := open_intsC hf
  have e' : (Value.slice a len cap) = .slice A n c := by simpa [Value.cells] using e
  exact ⟨A, n, c, l, e', h1, h2, h3⟩
theorem Tryz.cellsRing : Tryz.prog.cellsOf 50 = 9 := by kernel_rfl
theorem Tryz.cellsSl : Tryz.prog.cellsOf 22 = 1 := by kernel_rfl
theorem array9 {α : Type} {cs : Array α} (h : cs.size = 9) : ∃ c0 c1 c2 c3 c4 c5 c6 c7 c8, cs = #[c0, c1, c2, c3, c4, c5, c6, c7, c8] := by
  obtain ⟨l⟩ := cs
  match l, h with
  | [c0, c1, c2, c3, c4, c5, c6, c7, c8], _ => exact ⟨c0, c1, c2, c3, c4, c5, c6, c7, c8, rfl⟩
set_option maxRecDepth 100000 in
theorem open_ring {r : Reach} {b0 : Nat} {v : Value} {dd : DataW H} {p : List MemPlace} (hv : Value.okWide Tryz.prog W r b0 50 v)
    (h : DataW.Trod enc Tryz.prog W 0 (fun _ => true) true 50 v dd p) :
    ∃ (x : Rn) (A B : Option Addr) (n c m d : Nat) (fi th : List Int), v = .agg #[.int .i64 x.N, .int .i64 x.S, .int .i64 x.low, .int .i64 x.high, .int .i64 x.total, .int .i64 x.pure, .int .i64 x.worst, .slice A n c, .slice B m d] ∧ (n ≤ c ∧ c ≤ 9223372036854775807 ∧ SlE intE 1 W A n fi) ∧ (m ≤ d ∧ d ≤ 9223372036854775807 ∧ SlE intE 1 W B m th) := by
  obtain ⟨cs, rfl, hsz⟩ := okWide_struct Tryz.underlying50 hv
  obtain ⟨c0, c1, c2, c3, c4, c5, c6, c7, c8, rfl⟩ := array9 (hsz.trans Tryz.cellsRing)
  obtain ⟨fuel, hf⟩ := h
  obtain ⟨xs, k, _, -, hl, hlen, hfd⟩ := DataW.trod_struct Tryz.underlying50 hf
  match xs, hlen with
  | [y0, y1, y2, y3, y4, y5, y6, y7, y8], _ =>
    have t0 := hfd 0 _ rfl
    have t1 := hfd 1 _ rfl
    have t2 := hfd 2 _ rfl
    have t3 := hfd 3 _ rfl
    have t4 := hfd 4 _ rfl
    have t5 := hfd 5 _ rfl
    have t6 := hfd 6 _ rfl
    have t7 := hfd 7 _ rfl
    have t8 := hfd 8 _ rfl
    simp [Value.cells, Tryz.cellsInt, Tryz.cellsSl] at t0 t1 t2 t3 t4 t5 t6 t7 t8
    obtain ⟨x0, e0, _, _⟩ := DataW.trod_int Tryz.underlying3 t0
    obtain ⟨x1, e1, _, _⟩ := DataW.trod_int Tryz.underlying3 t1
    obtain ⟨x2, e2, _, _⟩ := DataW.trod_int Tryz.underlying3 t2
    obtain ⟨x3, e3, _, _⟩ := DataW.trod_int Tryz.underlying3 t3
    obtain ⟨x4, e4, _, _⟩ := DataW.trod_int Tryz.underlying3 t4
    obtain ⟨x5, e5, _, _⟩ := DataW.trod_int Tryz.underlying3 t5
    obtain ⟨x6, e6, _, _⟩ := DataW.trod_int Tryz.underlying3 t6
    obtain ⟨A, n, c, fi, e7, a1, a2, a3⟩ := open_intsC t7
    obtain ⟨B, m, d, th, e8, b1, b2, b3⟩ := open_intsC t8
    simp only [List.cons.injEq, and_true] at e0 e1 e2 e3 e4 e5 e6 e7 e8
    subst e0; subst e1; subst e2; subst e3; subst e4; subst e5; subst e6; subst e7; subst e8
    exact ⟨⟨x0, x1, x2, x3, x4, x5, x6⟩, A, B, n, c, m, d, fi, th, rfl, ⟨a1, a2, a3⟩, ⟨b1, b2, b3⟩⟩
end Go.Proofs.YtojbldoekalbnaaGreat
