/-
  Contracts of the document's Allowed and Cost; each states its condition.
-/
import Derived.Test.YtojbldoekalbnaaGreatTCost
import Derived.Deep.RegionHeld3
namespace Go.Proofs.YtojbldoekalbnaaGreat
open Go.RowKit
theorem SlE.drew {α : Type} {enc : α → List Value} {sz : Nat} {W : World} {A : Option Addr} {n : Nat} {l : List α} (h : SlE enc sz W A n l) : SlE enc sz W.drew A n l := h
theorem errs_len (r : Rg) (st : List Int) : (r.errs st).length = r.N := by simp [Rg.errs]
theorem errs_get {r : Rg} {st : List Int} {k : Nat} (hk : k < r.N) : (r.errs st)[k]? = some (r.err st k r.S) := by
  unfold Rg.errs
  rw [List.getElem?_map, List.getElem?_range hk]; rfl
theorem all_errs (r : Rg) (A' : Option Addr) (c' : Nat) (st : List Int) (w : World) (hN : r.N ≤ 24) (hS : SlE intE 1 w A' r.N (r.errs st)) :
    Calls Tryz.prog 37 #[.slice A' r.N c', .int .i64 r.N, .int .i64 (-r.worst), .int .i64 r.worst] w fun e w' => e = .returned (.bool (r.allowB st)) ∧ w = w' := by
  have h := all_any A' r.N c' (r.errs st) (r.N : Int) (-r.worst) r.worst w hS (by omega)
  rw [show (r.errs st).all (fun x => inB x (-r.worst) r.worst) = r.allowB st from errs_all] at h
  simpa using h
end Go.Proofs.YtojbldoekalbnaaGreat
