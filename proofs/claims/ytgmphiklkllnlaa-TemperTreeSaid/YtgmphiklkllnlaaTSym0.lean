/-
  Plain mathematics of merging two rising rows in place. No program in sight.
-/
import Derived.Test.YtgmphiklkllnlaaTKru0
namespace Go.Proofs.Ytgmphiklkllnlaa
theorem Ris.app {L : List Lk} {X Y : List Int} (h : Ris L (X ++ Y)) : Ris L X ∧ Ris L Y ∧ ∀ x ∈ X, ∀ y ∈ Y, klt L x y := List.pairwise_append.1 h
theorem Ris.join {L : List Lk} {X Y : List Int} (hX : Ris L X) (hY : Ris L Y) (h : ∀ x ∈ X, ∀ y ∈ Y, klt L x y) : Ris L (X ++ Y) := List.pairwise_append.2 ⟨hX, hY, h⟩
/-- The last of one is ahead of the first of the other: all of one are ahead of all of the other. -/
theorem Ris.cross {L : List Lk} {X Y : List Int} (hX : Ris L X) (hY : Ris L Y) (h : ∀ x y, X.getLast? = some x → Y.head? = some y → klt L x y) : ∀ x ∈ X, ∀ y ∈ Y, klt L x y := by
  intro x hx y hy
  cases hY' : Y with
  | nil => rw [hY'] at hy; simp at hy
  | cons b Y' =>
    have hXne : X ≠ [] := fun e => by rw [e] at hx; simp at hx
    have hXe := List.dropLast_concat_getLast hXne
    obtain ⟨l, hl⟩ : ∃ l, X.getLast hXne = l := ⟨_, rfl⟩
    rw [hl] at hXe
    have hlb := h l b (by rw [List.getLast?_eq_some_getLast hXne, hl]) (by rw [hY']; rfl)
    have h1 : x = l ∨ klt L x l := by
      rw [← hXe] at hx hX
      rcases List.mem_append.1 hx with k | k
      · exact .inr (hX.app.2.2 x k l (by simp))
      · exact .inl (by simpa using k)
    have h2 : b = y ∨ klt L b y := by
      rw [hY'] at hy hY
      rcases List.mem_cons.1 hy with k | k
      · exact .inl k.symm
      · exact .inr ((List.pairwise_cons.1 hY).1 y k)
    have h3 : klt L x b := by
      rcases h1 with rfl | h1
      · exact hlb
      · exact klt_trans h1 hlb
    rcases h2 with rfl | h2
    · exact h3
    · exact klt_trans h3 h2
theorem Ris.four {L : List Lk} {L1 L2 R1 R2 M1 M2 : List Int} (hL : Ris L (L1 ++ L2)) (hR : Ris L (R1 ++ R2)) (h1 : ∀ x ∈ L1, ∀ y ∈ R2, klt L x y) (h2 : ∀ x ∈ R1, ∀ y ∈ L2, klt L x y)
    (hM1 : Ris L M1) (hM2 : Ris L M2) (p1 : M1.Perm (L1 ++ R1)) (p2 : M2.Perm (L2 ++ R2)) : Ris L (M1 ++ M2) ∧ (M1 ++ M2).Perm (L1 ++ L2 ++ (R1 ++ R2)) := by
  refine ⟨hM1.join hM2 (fun x hx y hy => ?_), ?_⟩
  · rcases List.mem_append.1 (p1.subset hx) with k | k
    · rcases List.mem_append.1 (p2.subset hy) with m | m
      · exact hL.app.2.2 x k y m
      · exact h1 x k y m
    · rcases List.mem_append.1 (p2.subset hy) with m | m
      · exact h2 x k y m
      · exact hR.app.2.2 x k y m
  · refine (p1.append p2).trans ?_
    simp only [List.append_assoc]
    refine (List.Perm.refl L1).append ?_
    rw [← List.append_assoc, ← List.append_assoc]
    exact (List.perm_append_comm).append (List.Perm.refl R2)
/-- One list cut in two at a place. -/
theorem cut_at (l : List Int) {k : Nat} (h : k ≤ l.length) : ∃ X Y, l = X ++ Y ∧ X.length = k := ⟨l.take k, l.drop k, (List.take_append_drop k l).symm, by rw [List.length_take]; omega⟩
theorem last_get {X : List Int} {x : Int} (h : X.getLast? = some x) : 0 < X.length ∧ X[X.length - 1]? = some x := by
  have hne : X ≠ [] := fun e => by rw [e] at h; simp at h
  refine ⟨List.length_pos_iff.2 hne, ?_⟩
  rw [← List.getLast?_eq_getElem?]; exact h
theorem head_get {X : List Int} {x : Int} (h : X.head? = some x) : X[0]? = some x := by
  rw [← List.head?_eq_getElem?]; exact h
/-- An element of a part, seen in the whole. -/
theorem part_get {A B C : List Int} {i : Nat} {x : Int} (h : B[i]? = some x) : (A ++ (B ++ C))[A.length + i]? = some x := by
  have hi := (List.getElem?_eq_some_iff.1 h).1
  rw [List.getElem?_append_right (by omega), Nat.add_sub_cancel_left, List.getElem?_append_left hi]
  exact h
end Go.Proofs.Ytgmphiklkllnlaa
