/-
  What the law's ring of three and its three links come to. No program in sight.
-/
import Derived.Test.YtojbldoekalbnaaGreatTBea
namespace Go.Proofs.YtojbldoekalbnaaGreat
def r3 : Rg := ⟨3, 2, 0, 3, 3, 2, 1000, [1, 1, 1], [1, 1, 1]⟩
theorem r3_good (a b c : Int) (ha : 0 ≤ a ∧ a ≤ 3) (hb : 0 ≤ b ∧ b ≤ 3) (hc : 0 ≤ c ∧ c ≤ 3) (hs : a + b + c = 3) : 3 < r3.cost [a, b, c] ∨ (3 = r3.cost [a, b, c] ∧ [a, b, c] = [1, 1, 1]) := by
  have h1 : a = 0 ∨ a = 1 ∨ a = 2 ∨ a = 3 := by omega
  have h2 : b = 0 ∨ b = 1 ∨ b = 2 ∨ b = 3 := by omega
  obtain rfl : c = 3 - a - b := by omega
  rcases h1 with rfl | rfl | rfl | rfl <;> rcases h2 with rfl | rfl | rfl | rfl <;> first | (exfalso; omega) | decide
theorem r3_ok : r3.Ok := by
  constructor <;> decide
theorem r3_best : r3.Best [1, 1, 1] 3 := by
  refine ⟨⟨rfl, by decide, by decide, by decide⟩, by decide, fun q hq => ?_⟩
  obtain ⟨hl, hr, hs, -⟩ := hq
  match q, hl with
  | [a, b, c], _ =>
    have h := r3_good a b c (hr a (by simp)) (hr b (by simp)) (hr c (by simp)) (by simp [r3] at hs; omega)
    rcases h with h | ⟨h, e⟩
    · exact .inl h
    · right; refine ⟨h, ?_⟩; rw [e]; exact lexI.refl _
def L3 : List Lk := [⟨0, 1, 5⟩, ⟨1, 2, 5⟩, ⟨0, 2, 5⟩]
theorem L3_pln : Pln 3 L3 := by
  refine ⟨by decide, by decide, by decide, by decide⟩
theorem L3_srt : srt L3 (idxs 3) = [0, 1, 2] := by
  refine ris_uniq ((srt_perm L3 _).trans ?_) (srt_ris (idxs_nodup 3)) ?_
  · exact List.Perm.refl _
  · unfold Ris; decide
theorem L3_kru : (kruL L3 (stopB 3)).1 = [0, 1] := by
  unfold kruL
  rw [show L3.length = 3 from rfl, L3_srt]
  decide
theorem isrt01 : isrt [0, 1] = [0, 1] := by
  unfold isrt
  exact List.mergeSort_of_pairwise (by decide)
end Go.Proofs.YtojbldoekalbnaaGreat
