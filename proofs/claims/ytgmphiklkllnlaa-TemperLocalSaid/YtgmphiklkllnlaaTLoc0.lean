/-
  No pair makes the cheapest steps better. No program in sight.
-/
import Derived.Test.YtgmphiklkllnlaaTBet2
import Derived.Test.YtgmphiklkllnlaaTDear
namespace Go.Proofs.Ytgmphiklkllnlaa
theorem best_noBtr {r : Rg} {st : List Int} {c : Int} (h : r.Best st c) : r.noBtr st r.N 0 := fun a b _ _ _ => by
  cases e : r.btr st a b with
  | false => rfl
  | true =>
    exfalso
    unfold Rg.btr at e
    simp only [Bool.and_eq_true, decide_eq_true_eq] at e
    have hg : r.Good (mvd st a b) := good_iff.2 ⟨e.1.1.2, e.1.2⟩
    have h1 := h.least _ hg
    have h2 := e.2
    rw [h.cost] at h2
    omega
theorem best_btr {r : Rg} {st : List Int} {c x y : Int} (h : r.Best st c) (hb : r.Btr st x y) : x = -1 ∧ y = -1 := by
  obtain ⟨e1, e2⟩ := hb.uniq (.inl ⟨rfl, rfl, best_noBtr h⟩)
  exact ⟨e1, e2⟩
end Go.Proofs.Ytgmphiklkllnlaa
