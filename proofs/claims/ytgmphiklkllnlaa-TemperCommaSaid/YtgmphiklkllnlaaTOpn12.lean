/-
  An array of twelve numbers as an argument; no condition but that the value is one.
-/
import Derived.Test.YtgmphiklkllnlaaTOpen
import Derived.Test.YtgmphiklkllnlaaTLComma
namespace Go.Proofs.Ytgmphiklkllnlaa
open Go.ChangeShapes Go.WideShapes Go.ChangeAt Go.RowKit
variable {H : Type} {enc : TypeId × Value → H} {W : World}
def numOf : Value → Int
  | .int _ x => x
  | _ => 0
theorem Try.cellsInt12 : Try.prog.cellsOf 3 = 1 := by kernel_rfl
set_option maxRecDepth 100000 in
theorem open_int12 {r : Reach} {b0 : Nat} {v : Value} {d : DataW H} {p : List MemPlace} (hv : Value.okWide Try.prog W r b0 47 v)
    (h : DataW.Trod enc Try.prog W 0 (fun _ => true) true 47 v d p) : ∃ S : List Int, v = .agg (arr12 S) ∧ S.length = 12 := by
  obtain ⟨cs, rfl, hsz⟩ : ∃ cs, v = .agg cs ∧ cs.size = 12 := by
    have hu := Try.underlying47
    have hc : Try.prog.cellsOf 47 = 12 := by kernel_rfl
    simp only [Value.okWide, hu] at hv
    obtain ⟨cs, h1, h2, _⟩ := hv
    exact ⟨cs, h1, by rw [h2, hc]⟩
  obtain ⟨fuel, hf⟩ := h
  obtain ⟨xs, m, _, _, _, hlen, hi⟩ := DataW.trod_array Try.underlying47 hf
  rw [Try.cellsInt12] at hi
  have key : ∀ i, i < 12 → ∃ x : Int, cs[i]? = some (.int .i64 x) := by
    intro i hi'
    have t0 := hi i hi'
    rw [List.getElem?_eq_getElem (by omega)] at t0
    obtain ⟨x, e, _, _⟩ := DataW.trod_int Try.underlying3 t0
    refine ⟨x, ?_⟩
    have e2 := congrArg (fun l => l[0]?) e
    simpa [Value.cells, List.getElem?_take, List.getElem?_drop] using e2
  refine ⟨cs.toList.map numOf, ?_, by simp [hsz]⟩
  unfold arr12
  congr 1
  refine Array.ext' (List.ext_getElem? fun i => ?_)
  simp only [List.map_map, List.getElem?_map]
  by_cases hi' : i < 12
  · obtain ⟨x, hx⟩ := key i hi'
    have hx2 : cs.toList[i]? = some (.int .i64 x) := by simpa using hx
    rw [hx2]; rfl
  · rw [List.getElem?_eq_none (by simp [hsz]; omega)]; rfl
end Go.Proofs.Ytgmphiklkllnlaa
