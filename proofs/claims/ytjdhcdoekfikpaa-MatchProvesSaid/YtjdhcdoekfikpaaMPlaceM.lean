/-
  Plain mathematics of one search along shortest ways: the start, and bounds of all sums of one round. No program in sight.
-/
import Derived.Test.YtjdhcdoekfikpaaMHung3
namespace Go.Proofs.Ytjdhcdoekfikpaa

theorem si_start {a : Nat → Nat → Int} {n m k : Nat} {u v : List Int} {p way : List Nat} (_ha : ∀ i j, 1 ≤ i → i ≤ n → 1 ≤ j → j ≤ m → 0 ≤ a i j ∧ a i j ≤ DEAR) (hnm : n ≤ m) (hk : k < n) (h : MI a n m k u v p way) :
    SI a n m (k + 1) u v (p.set 0 (k + 1)) [] 0 u v (List.replicate (m + 1) BIG) way (List.replicate (m + 1) false) 0 := by
  have hD : DEAR = 1000000000000 := rfl
  have hp := h.pc hk hnm
  have hl := h.lp
  have e1 : ∀ j, 1 ≤ j → (p.set 0 (k + 1)).getD j 0 = p.getD j 0 := fun j hj => getD_set_ne _ _ _ _ _ (by omega)
  have gb : ∀ j, 1 ≤ j → j ≤ m → (List.replicate (m + 1) BIG).getD j 0 = BIG := fun j _ hj => by rw [List.getD_eq_getElem?_getD, List.getElem?_replicate, if_pos (by omega)]; rfl
  refine ⟨h.lu, h.lv, by simp, h.lw, by simp, by omega, by simp, fun j => ⟨fun h => absurd h fresh_false, fun h => by simp at h⟩, by simp, by simp, trivial, .inl ⟨rfl, rfl⟩, by simp, h.feas, fun j h1 h2 h3 => ?_, h.vneg, fun j h1 h2 h3 => ?_, fun h => absurd rfl h, fun _ => gb, Int.le_refl _, by omega, h.u0 _ (by omega), fun i => by omega, fun j => by omega, fun _ _ => rfl⟩
  · rw [e1 j h1] at h3 ⊢; exact h.tm j h1 h2 h3
  · rw [e1 j h1] at h3; exact h.vfree j h1 h2 h3
/-- The bounds of one round's sums. -/
structure RoundOk (m : Nat) (u v : List Int) (p : List Nat) (s : List Int × List Nat × Nat) (used : List Bool) (b : Int) (k : Nat) (t : Shs) : Prop where
  l1 : t.1.length = u.length
  l2 : t.2.1.length = v.length
  l3 : t.2.2.length = s.1.length
  up : used.getD k false = true → t.1.getD (p.getD k 0) 0 = u.getD (p.getD k 0) 0 ∧ t.2.1.getD k 0 = v.getD k 0
  no : used.getD k false = false → t.2.2.getD k 0 = s.1.getD k 0 ∧ -20000000000000000 ≤ s.1.getD k 0 ∧ s.1.getD k 0 ≤ 20000000000000000
theorem round_ok {a : Nat → Nat → Int} {n m r : Nat} {u0 v0 : List Int} {p : List Nat} (hp : PC n m r p) (ha : ∀ i j, 1 ≤ i → i ≤ n → 1 ≤ j → j ≤ m → 0 ≤ a i j ∧ a i j ≤ DEAR)
    (hu0 : ∀ i, -1000000000000000 ≤ u0.getD i 0 ∧ u0.getD i 0 ≤ 1000000000000000) (hv0 : ∀ j, -1000000000000000 ≤ v0.getD j 0 ∧ v0.getD j 0 ≤ 1000000000000000) {ord : List Nat} {col : Nat} {u v least : List Int} {way : List Nat} {used : List Bool} {dl : Int}
    (h : SI a n m r u0 v0 p ord col u v least way used dl) (hpc : p.getD col 0 ≠ 0) {s : List Int × List Nat × Nat} {b : Int} (hs : nearF (nearD a u v (p.getD col 0)) (used.set col true) col least way m = s) (hb : s.1.getD s.2.2 0 = b) :
    -2000000000000 ≤ b ∧ b ≤ 2000000000000 ∧ ∀ k, k ≤ m → RoundOk m u v p s (used.set col true) b k (shiftF b (used.set col true) p (u, v, s.1) k) := by
  have hD : DEAR = 1000000000000 := rfl
  obtain ⟨t, ht⟩ : ∃ t, shiftF (s.1.getD s.2.2 0) (used.set col true) p (u, v, s.1) (m + 1) = t := ⟨_, rfl⟩
  obtain ⟨hne, dl', h'⟩ := search_step hp ha (fun i => by have := (hu0 i).1; omega) (fun i => by have := (hv0 i).1; omega) h hpc hs ht
  rw [hb] at ht
  have cm := h.cm
  have us' : ∀ j, (used.set col true).getD j false = true ↔ j ∈ col :: ord := h'.us
  have op' : ∀ j ∈ col :: ord, p.getD j 0 ≠ 0 := h'.op
  have om' : ∀ j ∈ col :: ord, j ≤ m := h'.om
  have hN := near_ok (nearD a u v (p.getD col 0)) (used.set col true) col least way m (by rw [h.ll]; omega) (by rw [h.lw]; omega)
  rw [hs] at hN
  have inj : ∀ i j, (used.set col true).getD i false = true → (used.set col true).getD j false = true → p.getD i 0 = p.getD j 0 → i = j := fun i j hi hj e =>
    hp.inj i j (om' i ((us' i).1 hi)) (om' j ((us' j).1 hj)) e (op' i ((us' i).1 hi))
  have hsh : ∀ k, k ≤ m + 1 → ShiftP b (used.set col true) p (u, v, s.1) k (shiftF b (used.set col true) p (u, v, s.1) k) := fun k hk =>
    shift_ok b (used.set col true) p (u, v, s.1) k (by simp only; rw [h.lv]; exact hk) (by simp only; rw [hN.l1, h.ll]; exact hk) (fun j hj => by simp only; rw [h.lu]; have := hp.le (j := j) (by omega); have := hp.rn; omega) (fun i j _ _ hi hj e => inj i j hi hj e)
  have hT := hsh (m + 1) (Nat.le_refl _)
  rw [ht] at hT
  have z' : 0 ∈ col :: ord := by
    rcases h.hd with ⟨_, e⟩ | ⟨e, _⟩
    · simp [e]
    · exact List.mem_cons_of_mem _ (h.path.zero e)
  have hbd : -2000000000000 ≤ b ∧ b ≤ 2000000000000 := by
    have h1 := hT.up 0 (by omega) ((us' 0).2 z')
    rw [hp.p0] at h1
    have h2 := h'.dr
    have h3 := h.dr
    have h4 := h'.d0
    have h5 := h'.d1
    have h6 := h.d0
    have h7 := h.d1
    simp only at h1
    omega
  refine ⟨hbd.1, hbd.2, fun k hk => ?_⟩
  have hK := hsh k (by omega)
  refine ⟨hK.l1, hK.l2, hK.l3, fun hu => ⟨?_, hK.keep k (.inl (Nat.le_refl _))⟩, fun hu => ⟨hK.hold k (.inl (Nat.le_refl _)), ?_⟩⟩
  · exact hK.flat _ (fun j hj hju e => by have := inj j k hju hu e; omega)
  · have hkn : k ∉ col :: ord := fun hx => by rw [(us' k).2 hx] at hu; cases hu
    have hk1 : 1 ≤ k := by
      rcases Nat.eq_zero_or_pos k with e | e
      · subst e; exact absurd z' hkn
      · exact e
    have h1 := hT.less k (by omega) hu
    simp only at h1
    obtain ⟨h2, h3, _⟩ := h'.le (by simp) k hk1 hk hkn
    have h4 := op' _ h2
    have h5 := hp.le (om' _ h2)
    have h6 := hp.rn
    have h7 := ha (p.getD (s.2.1.getD k 0) 0) k (by omega) (by omega) hk1 hk
    unfold nearD at h3
    have h8 := h'.du (p.getD (s.2.1.getD k 0) 0)
    have h9 := h'.dv k
    have h10 := hu0 (p.getD (s.2.1.getD k 0) 0)
    have h11 := hv0 k
    have h12 := h'.d0
    have h13 := h'.d1
    omega
end Go.Proofs.Ytjdhcdoekfikpaa
