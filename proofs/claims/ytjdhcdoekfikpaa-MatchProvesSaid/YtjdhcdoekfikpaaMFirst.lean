/-
  Plain mathematics: two matchings joined (Mendelsohn, Dulmage); the lexicographically least assignment that prices prove, found row by row. No program in sight.
-/
import Derived.Test.YtjdhcdoekfikpaaMAsg
namespace Go.Proofs.Ytjdhcdoekfikpaa

def agree (h f : Nat → Nat) (T : List Nat) : Nat := (T.filter fun t => f (h t) == t).length
theorem agree_le (h f : Nat → Nat) (T : List Nat) : agree h f T ≤ T.length := List.length_filter_le _ _
theorem agree_more {h f : Nat → Nat} {T : List Nat} (hT : T.Nodup) (hinj : ∀ x ∈ T, ∀ y ∈ T, h x = h y → x = y) {t : Nat} (ht : t ∈ T) (hne : f (h t) ≠ t) : agree h f T + 1 ≤ agree h (fun a => if a = h t then t else f a) T := by
  have h1 : ((T.filter fun t => f (h t) == t) ++ [t]).length ≤ (T.filter fun s => (fun a => if a = h t then t else f a) (h s) == s).length := by
    refine length_le_of_nodup _ _ ?_ (fun x hx => ?_)
    · rw [List.nodup_append]
      refine ⟨hT.filter _, by simp, fun a ha b hb e => ?_⟩
      simp at hb
      rw [e, hb] at ha
      have := (List.mem_filter.1 ha).2
      exact hne (by simpa using this)
    · rcases List.mem_append.1 hx with hx | hx
      · obtain ⟨hx, hfx⟩ := List.mem_filter.1 hx
        refine List.mem_filter.2 ⟨hx, ?_⟩
        have hfx : f (h x) = x := by simpa using hfx
        by_cases e : h x = h t
        · have := hinj x hx t ht e
          subst this
          simp
        · simp [e, hfx]
      · simp at hx
        subst hx
        exact List.mem_filter.2 ⟨ht, by simp⟩
  simpa [agree] using h1
/-- TWO MATCHINGS JOINED: if all rows of A can have columns, and all columns of T can have rows of A, then all at the same time. -/
theorem md_join (g : Nat → Nat → Bool) (m : Nat) (A T : List Nat) (hT : T.Nodup) (hTm : ∀ t ∈ T, t < m) (h : Nat → Nat) (hh : ∀ t ∈ T, h t ∈ A ∧ g (h t) t = true ∧ ∀ s ∈ T, h s = h t → s = t) :
    ∀ (k : Nat) (f : Nat → Nat), Mat g m A f → T.length ≤ agree h f T + k → ∃ f', Mat g m A f' ∧ ∀ t ∈ T, ∃ a ∈ A, f' a = t := by
  intro k
  induction k with
  | zero =>
    intro f hf hk
    refine ⟨f, hf, fun t ht => ?_⟩
    have hall : ∀ t ∈ T, t ∈ T.filter fun t => f (h t) == t := mem_of_full (hT.filter _) (fun r hr => (List.mem_filter.1 hr).1) (by simpa [agree] using hk)
    have := (List.mem_filter.1 (hall t ht)).2
    exact ⟨h t, (hh t ht).1, by simpa using this⟩
  | succ k ih =>
    intro f hf hk
    by_cases hall : ∀ t ∈ T, ∃ a ∈ A, f a = t
    · exact ⟨f, hf, hall⟩
    · obtain ⟨t, ht, hno⟩ : ∃ t ∈ T, ¬ ∃ a ∈ A, f a = t := Classical.byContradiction fun hn => hall fun t ht => Classical.byContradiction fun h => hn ⟨t, ht, h⟩
      have hne : ∀ a ∈ A, f a ≠ t := fun a ha e => hno ⟨a, ha, e⟩
      have hm := agree_more (f := f) hT (fun x hx y hy e => (hh y hy).2.2 x hx e) ht (hne (h t) (hh t ht).1)
      obtain ⟨w, hw⟩ : ∃ w : Nat → Nat, w = fun a => if a = h t then t else f a := ⟨_, rfl⟩
      rw [← hw] at hm
      have w1 : w (h t) = t := by rw [hw]; exact if_pos rfl
      have w2 : ∀ a, a ≠ h t → w a = f a := fun a ha => by rw [hw]; exact if_neg ha
      refine ih w (fun r hr => ?_) (by omega)
      by_cases e : r = h t
      · subst e
        rw [w1]
        refine ⟨hTm t ht, (hh t ht).2.1, fun q hq e' => ?_⟩
        by_cases e2 : q = h t
        · exact e2
        · rw [w2 q e2] at e'
          exact absurd e' (hne q hq)
      · rw [w2 r e]
        refine ⟨(hf r hr).1, (hf r hr).2.1, fun q hq e' => ?_⟩
        by_cases e2 : q = h t
        · rw [e2, w1] at e'
          exact absurd e'.symm (hne r hr)
        · rw [w2 q e2] at e'
          exact (hf r hr).2.2 q hq e'

/-! ### row by row -/
def tightB (T : List (List Int)) (u v : Nat → Int) (i j : Nat) : Bool := decide (0 ≤ ct T i j) && (u i + v j == ct T i j)
def tightF (T : List (List Int)) (u v : Nat → Int) (taken : List Bool) (i j : Nat) : Bool := !(taken.getD j false) && tightB T u v i j
/-- The columns that must be had still. -/
def mustF (m : Nat) (v : Nat → Int) (taken : List Bool) : List Nat := (List.range m).filter fun j => !(taken.getD j false) && decide (v j < 0)
def completesB (T : List (List Int)) (m : Nat) (u v : Nat → Int) (fr : Nat) (taken : List Bool) : Bool :=
  decide (kuhn (tightF T u v taken) m ((List.range T.length).drop fr) = ((List.range T.length).drop fr).length) && decide (kuhn (fun j i => decide (fr ≤ i) && tightF T u v taken i j) T.length (mustF m v taken) = (mustF m v taken).length)
theorem mem_drop_range {n k i : Nat} : i ∈ (List.range n).drop k ↔ k ≤ i ∧ i < n := by
  rw [List.mem_drop_iff_getElem]
  constructor
  · rintro ⟨j, hj, e⟩; simp at e hj; omega
  · rintro ⟨h1, h2⟩; exact ⟨i - k, by simp; omega, by simp; omega⟩
theorem nodup_drop (n k : Nat) : ((List.range n).drop k).Nodup := (nodup_range n).sublist (List.drop_sublist k _)
theorem nodup_must (m : Nat) (v : Nat → Int) (taken : List Bool) : (mustF m v taken).Nodup := (nodup_range m).filter _
theorem mem_must {m j : Nat} {v : Nat → Int} {taken : List Bool} : j ∈ mustF m v taken ↔ j < m ∧ taken.getD j false = false ∧ v j < 0 := by simp [mustF]
/-- It completes exactly if the rows from fr on can have tight columns that are not taken, with each column among them that must be had. -/
theorem completes_iff (T : List (List Int)) (m : Nat) (u v : Nat → Int) (fr : Nat) (taken : List Bool) :
    completesB T m u v fr taken = true ↔ ∃ f, Mat (tightF T u v taken) m ((List.range T.length).drop fr) f ∧ ∀ j ∈ mustF m v taken, ∃ i ∈ (List.range T.length).drop fr, f i = j := by
  unfold completesB
  rw [Bool.and_eq_true, decide_eq_true_eq, decide_eq_true_eq, kuhn_full _ _ _ (nodup_drop _ _), kuhn_full _ _ _ (nodup_must _ _ _)]
  constructor
  · rintro ⟨⟨f, hf⟩, h, hh⟩
    refine md_join (tightF T u v taken) m _ (mustF m v taken) (nodup_must _ _ _) (fun t ht => (mem_must.1 ht).1) h (fun t ht => ?_) (mustF m v taken).length f hf (by omega)
    obtain ⟨h1, h2, h3⟩ := hh t ht
    simp only [Bool.and_eq_true, decide_eq_true_eq] at h2
    exact ⟨mem_drop_range.2 ⟨h2.1, h1⟩, h2.2, h3⟩
  · rintro ⟨f, hf, hm⟩
    refine ⟨⟨f, hf⟩, ?_⟩
    have hx : ∀ t, ∃ i, t ∈ mustF m v taken → i ∈ (List.range T.length).drop fr ∧ f i = t := fun t => by
      by_cases h : t ∈ mustF m v taken
      · obtain ⟨i, h1, h2⟩ := hm t h; exact ⟨i, fun _ => ⟨h1, h2⟩⟩
      · exact ⟨0, fun h' => absurd h' h⟩
    obtain ⟨w, hw⟩ := Classical.skolem.1 hx
    refine ⟨w, fun t ht => ?_⟩
    obtain ⟨h1, h2⟩ := hw t ht
    have := hf (w t) h1
    rw [h2] at this
    refine ⟨(mem_drop_range.1 h1).2, by simp [(mem_drop_range.1 h1).1, this.2.1], fun q hq e' => ?_⟩
    obtain ⟨h3, h4⟩ := hw q hq
    rw [← h2, ← h4, e']
def takenOf (m : Nat) (p : List Nat) : List Bool := p.foldl (fun t c => t.set c true) (List.replicate m false)
theorem takenOf_snoc (m : Nat) (p : List Nat) (c : Nat) : takenOf m (p ++ [c]) = (takenOf m p).set c true := by simp [takenOf]
theorem takenOf_len (m : Nat) (p : List Nat) : (takenOf m p).length = m := by
  unfold takenOf
  suffices H : ∀ (l : List Bool), l.length = m → (p.foldl (fun t c => t.set c true) l).length = m from H _ (by simp)
  induction p with
  | nil => intro l h; simpa using h
  | cons a r ih => intro l h; exact ih _ (by simpa using h)
theorem takenOf_get {m : Nat} {p : List Nat} {j : Nat} (hj : j < m) : (takenOf m p).getD j false = true ↔ j ∈ p := by
  unfold takenOf
  suffices H : ∀ (l : List Bool), l.length = m → ((p.foldl (fun t c => t.set c true) l).getD j false = true ↔ (l.getD j false = true ∨ j ∈ p)) by
    rw [H _ (by simp)]
    constructor
    · rintro (h | h)
      · exact absurd h fresh_false
      · exact h
    · exact .inr
  induction p with
  | nil => intro l _; simp
  | cons a r ih =>
    intro l hl
    rw [List.foldl_cons, ih _ (by simpa using hl)]
    by_cases e : a = j
    · subst e; rw [getD_set_eq _ _ _ _ (by omega)]; simp
    · rw [getD_set_ne _ _ _ _ _ e]
      have : ¬ j = a := fun h => e h.symm
      simp [this]
/-- An assignment that the prices prove and that begins with p exists exactly if p is fit and it completes. -/
theorem ext_iff {T : List (List Int)} {m : Nat} {u v : Nat → Int} {p : List Nat} (hp : p.length ≤ T.length) (hn : p.Nodup) (ht : ∀ i, i < p.length → p.getD i 0 < m ∧ tightB T u v i (p.getD i 0) = true) :
    completesB T m u v p.length (takenOf m p) = true ↔ ∃ to, Opt T m u v to ∧ to.take p.length = p := by
  rw [completes_iff]
  constructor
  · rintro ⟨f, hf, hm⟩
    have hfree : ∀ i, p.length ≤ i → i < T.length → f i ∉ p := fun i h1 h2 hx => by
      have h3 := hf i (mem_drop_range.2 ⟨h1, h2⟩)
      have := h3.2.1
      unfold tightF at this
      rw [(takenOf_get h3.1).2 hx] at this
      simp at this
    have hget : ∀ i, i < T.length → (p ++ ((List.range T.length).drop p.length).map f).getD i 0 = if i < p.length then p.getD i 0 else f i := fun i hi => by
      by_cases h : i < p.length
      · rw [if_pos h, List.getD_eq_getElem?_getD, List.getElem?_append_left h, ← List.getD_eq_getElem?_getD]
      · rw [if_neg h, List.getD_eq_getElem?_getD, List.getElem?_append_right (by omega)]
        have e : p.length + (i - p.length) = i := by omega
        simp [List.getElem?_drop, e, hi]
    refine ⟨p ++ ((List.range T.length).drop p.length).map f, ⟨by simp; omega, ?_, fun i hi => ?_, fun j hj hv => ?_⟩, by simp⟩
    · rw [List.nodup_append]
      refine ⟨hn, nodup_map (nodup_drop _ _) (fun x hx y hy e => (hf y hy).2.2 x hx e), fun a ha b hb e => ?_⟩
      obtain ⟨i, hi, rfl⟩ := List.mem_map.1 hb
      have hi := mem_drop_range.1 hi
      exact hfree i hi.1 hi.2 (e ▸ ha)
    · rw [hget i hi]
      by_cases h : i < p.length
      · rw [if_pos h]
        have := ht i h
        unfold tightB at this
        simp only [Bool.and_eq_true, decide_eq_true_eq, beq_iff_eq] at this
        exact ⟨this.1, this.2.1, this.2.2⟩
      · rw [if_neg h]
        have := hf i (mem_drop_range.2 ⟨by omega, hi⟩)
        have h2 := this.2.1
        unfold tightF tightB at h2
        simp only [Bool.and_eq_true, decide_eq_true_eq, beq_iff_eq] at h2
        exact ⟨this.1, h2.2.1, h2.2.2⟩
    · by_cases hjp : j ∈ p
      · exact List.mem_append_left _ hjp
      · have hnt : (takenOf m p).getD j false = false := by
          cases h : (takenOf m p).getD j false
          · rfl
          · exact absurd ((takenOf_get hj).1 h) hjp
        obtain ⟨i, hi, e⟩ := hm j (mem_must.2 ⟨hj, hnt, hv⟩)
        exact List.mem_append_right _ (List.mem_map.2 ⟨i, hi, e⟩)
  · rintro ⟨to, ho, htk⟩
    have hget : ∀ i, i < p.length → to.getD i 0 = p.getD i 0 := fun i hi => by
      rw [← htk, List.getD_eq_getElem?_getD, List.getD_eq_getElem?_getD, List.getElem?_take_of_lt hi]
    have hl := ho.len
    have hin : ∀ i j, i < T.length → j < T.length → to.getD i 0 = to.getD j 0 → i = j := fun i j hi hj e => by
      rw [getD_get _ _ _ (by omega), getD_get _ _ _ (by omega)] at e
      exact nodup_inj ho.nd _ _ e
    refine ⟨fun i => to.getD i 0, fun r hr => ?_, fun j hj => ?_⟩
    · have hr := mem_drop_range.1 hr
      obtain ⟨h1, h2, h3⟩ := ho.ok r hr.2
      refine ⟨h1, ?_, fun q hq e => hin q r (mem_drop_range.1 hq).2 hr.2 e⟩
      have hnt : (takenOf m p).getD (to.getD r 0) false = false := by
        cases h : (takenOf m p).getD (to.getD r 0) false
        · rfl
        · obtain ⟨i, hi, e⟩ := mem_getD ((takenOf_get h1).1 h)
          rw [← hget i hi] at e
          have := hin i r (by omega) hr.2 e
          omega
      show tightF T u v (takenOf m p) r (to.getD r 0) = true
      unfold tightF tightB
      rw [hnt]
      simp only [Bool.not_false, Bool.true_and, Bool.and_eq_true, decide_eq_true_eq, beq_iff_eq]
      exact ⟨h2, h3⟩
    · obtain ⟨hj, hnt, hv⟩ := mem_must.1 hj
      obtain ⟨i, hi, e⟩ := mem_getD (ho.used j hj hv)
      refine ⟨i, mem_drop_range.2 ⟨?_, by omega⟩, e⟩
      refine Nat.le_of_not_lt fun hlt => ?_
      have hjp : j ∈ p := by
        rw [hget i hlt, getD_get _ _ _ hlt] at e
        exact e ▸ List.getElem_mem hlt
      rw [(takenOf_get hj).2 hjp] at hnt
      cases hnt
/-- The column of the next row: the first that is tight and not taken and with which it completes. -/
def nextC (T : List (List Int)) (m : Nat) (u v : Nat → Int) (taken : List Bool) (row : Nat) : Option Nat := (List.range m).find? fun c => tightF T u v taken row c && completesB T m u v (row + 1) (taken.set c true)
def firstF (T : List (List Int)) (m : Nat) (u v : Nat → Int) : List Nat → List Bool → List Nat → List Nat
  | [], _, to => to
  | r :: rs, taken, to => match nextC T m u v taken r with
    | some c => firstF T m u v rs (taken.set c true) (to ++ [c])
    | none => firstF T m u v rs taken to
theorem find_range {m : Nat} {p : Nat → Bool} {c : Nat} (h : (List.range m).find? p = some c) : c < m ∧ p c = true ∧ ∀ j, j < c → p j = false := by
  rw [List.find?_range_eq_some] at h
  obtain ⟨h1, h2, h3⟩ := h
  exact ⟨List.mem_range.1 h2, h1, fun j hj => by simpa using h3 j hj⟩
theorem tight_split {T : List (List Int)} {m : Nat} {u v : Nat → Int} {p : List Nat} {i c : Nat} (hc : c < m) : tightF T u v (takenOf m p) i c = true ↔ c ∉ p ∧ tightB T u v i c = true := by
  unfold tightF
  rw [Bool.and_eq_true]
  constructor
  · rintro ⟨h1, h2⟩
    exact ⟨fun h => by rw [(takenOf_get hc).2 h] at h1; simp at h1, h2⟩
  · rintro ⟨h1, h2⟩
    refine ⟨?_, h2⟩
    cases h : (takenOf m p).getD c false
    · rfl
    · exact absurd ((takenOf_get hc).1 h) h1
theorem snoc_fit {T : List (List Int)} {m : Nat} {u v : Nat → Int} {p : List Nat} {c : Nat} (ht : ∀ i, i < p.length → p.getD i 0 < m ∧ tightB T u v i (p.getD i 0) = true) (hc : c < m) (hcb : tightB T u v p.length c = true) :
    ∀ i, i < (p ++ [c]).length → (p ++ [c]).getD i 0 < m ∧ tightB T u v i ((p ++ [c]).getD i 0) = true := by
  intro i hi
  simp only [List.length_append, List.length_cons, List.length_nil] at hi
  by_cases h : i < p.length
  · rw [List.getD_eq_getElem?_getD, List.getElem?_append_left h, ← List.getD_eq_getElem?_getD]; exact ht i h
  · have : i = p.length := by omega
    subst this
    simp [hc, hcb]
theorem firstF_ok {T : List (List Int)} {m : Nat} {u v : Nat → Int} : ∀ (k : Nat) (p : List Nat), p.length + k = T.length → p.Nodup → (∀ i, i < p.length → p.getD i 0 < m ∧ tightB T u v i (p.getD i 0) = true) →
    (∃ to, Opt T m u v to ∧ to.take p.length = p) → (∀ to, Opt T m u v to → to.take p.length = p ∨ ∃ i, i < p.length ∧ p.take i = to.take i ∧ p.getD i 0 < to.getD i 0) →
    Opt T m u v (firstF T m u v ((List.range T.length).drop p.length) (takenOf m p) p) ∧ ∀ to, Opt T m u v to → lexLe (firstF T m u v ((List.range T.length).drop p.length) (takenOf m p) p) to := by
  intro k
  induction k with
  | zero =>
    intro p hl hn ht hx hle
    have hd : (List.range T.length).drop p.length = [] := List.drop_of_length_le (by simp; omega)
    rw [hd, firstF]
    obtain ⟨to, ho, htk⟩ := hx
    rw [List.take_of_length_le (by rw [ho.len]; omega)] at htk
    subst htk
    refine ⟨ho, fun to' h' => ?_⟩
    rcases hle to' h' with h | ⟨i, h1, h2, h3⟩
    · rw [List.take_of_length_le (by rw [h'.len]; omega)] at h
      exact .inl h.symm
    · exact .inr ⟨i, h1, by rw [h'.len]; omega, h2, h3⟩
  | succ k ih =>
    intro p hl hn ht hx hle
    have hlt : p.length < T.length := by omega
    have hd : (List.range T.length).drop p.length = p.length :: (List.range T.length).drop (p.length + 1) := by
      rw [List.drop_eq_getElem_cons (by simpa using hlt)]; simp
    have key : ∀ to, Opt T m u v to → to.take p.length = p → (tightF T u v (takenOf m p) p.length (to.getD p.length 0) && completesB T m u v (p.length + 1) ((takenOf m p).set (to.getD p.length 0) true)) = true := fun to ho htk => by
      obtain ⟨h1, h2, h3⟩ := ho.ok p.length hlt
      have hb : tightB T u v p.length (to.getD p.length 0) = true := by
        unfold tightB
        rw [Bool.and_eq_true]
        exact ⟨decide_eq_true h2, by rw [h3]; exact beq_self_eq_true _⟩
      have hl2 := ho.len
      have hnp : to.getD p.length 0 ∉ p := fun hm => by
        obtain ⟨i, hi, e⟩ := mem_getD hm
        have : p.getD i 0 = to.getD i 0 := by rw [← htk, List.getD_eq_getElem?_getD, List.getD_eq_getElem?_getD, List.getElem?_take_of_lt hi]
        rw [this, getD_get _ _ _ (by omega), getD_get _ _ _ (by omega)] at e
        have := nodup_inj ho.nd _ _ e
        omega
      have hn' : (p ++ [to.getD p.length 0]).Nodup := by
        rw [List.nodup_append]
        exact ⟨hn, by simp, fun a ha b hb e => by simp at hb; rw [e, hb] at ha; exact hnp ha⟩
      rw [Bool.and_eq_true]
      refine ⟨(tight_split h1).2 ⟨hnp, hb⟩, ?_⟩
      have := (ext_iff (m := m) (u := u) (v := v) (p := p ++ [to.getD p.length 0]) (by simp; omega) hn' (snoc_fit ht h1 hb)).2 ⟨to, ho, by
        simp only [List.length_append, List.length_cons, List.length_nil]
        rw [List.take_succ_eq_append_getElem (by omega), htk, getD_get _ _ _ (by omega)]⟩
      rw [takenOf_snoc] at this
      simpa using this
    obtain ⟨to, ho, htk⟩ := hx
    cases hc : nextC T m u v (takenOf m p) p.length with
    | none =>
      have := List.find?_eq_none.1 hc (to.getD p.length 0) (List.mem_range.2 (ho.ok p.length hlt).1)
      exact absurd (key to ho htk) this
    | some c =>
      obtain ⟨hcm, hcp, hcl⟩ := find_range hc
      rw [Bool.and_eq_true] at hcp
      obtain ⟨hnp, hb⟩ := (tight_split hcm).1 hcp.1
      have hn' : (p ++ [c]).Nodup := by
        rw [List.nodup_append]
        exact ⟨hn, by simp, fun a ha b hb e => by simp at hb; rw [e, hb] at ha; exact hnp ha⟩
      have hfit := snoc_fit ht hcm hb
      have hlen : (p ++ [c]).length = p.length + 1 := by simp
      have hex : ∃ to, Opt T m u v to ∧ to.take (p ++ [c]).length = p ++ [c] := by
        refine (ext_iff (by simp; omega) hn' hfit).1 ?_
        rw [takenOf_snoc, hlen]; exact hcp.2
      have hi := ih (p ++ [c]) (by simp; omega) hn' hfit hex (fun to' h' => ?_)
      · rw [hd, firstF, hc]
        simp only
        rw [hlen, takenOf_snoc] at hi
        exact hi
      · rcases hle to' h' with h | ⟨i, h1, h2, h3⟩
        · have hk := key to' h' h
          have hl2 := h'.len
          by_cases e : to'.getD p.length 0 = c
          · left
            have e' : to'[p.length]'(by omega) = c := by rw [← getD_get _ _ 0 (by omega)]; exact e
            rw [hlen, List.take_succ_eq_append_getElem (by omega), h, e']
          · right
            refine ⟨p.length, by simp, by rw [List.take_append_of_le_length (Nat.le_refl _), List.take_of_length_le (Nat.le_refl _), h], ?_⟩
            have : (p ++ [c]).getD p.length 0 = c := by simp
            rw [this]
            have := hcl (to'.getD p.length 0)
            rw [hk] at this
            rcases Nat.lt_trichotomy (to'.getD p.length 0) c with hlt' | heq | hgt
            · exact absurd (this hlt') (by simp)
            · exact absurd heq e
            · exact hgt
        · right
          refine ⟨i, by simp; omega, by rw [List.take_append_of_le_length (by omega)]; exact h2, ?_⟩
          rw [List.getD_eq_getElem?_getD, List.getElem?_append_left h1, ← List.getD_eq_getElem?_getD]; exact h3
/-- THE FIRST: the lexicographically least of the assignments that the prices prove. -/
theorem first_best {T : List (List Int)} {m : Nat} {u v : Nat → Int} (hd : Duals T m u v) (hx : ∃ to, Opt T m u v to) : IsBest T m (firstF T m u v (List.range T.length) (List.replicate m false) []) (dual T m u v) := by
  obtain ⟨h1, h2⟩ := firstF_ok (T := T) (m := m) (u := u) (v := v) T.length [] (by simp) List.nodup_nil (fun i hi => by simp at hi) (by obtain ⟨to, ho⟩ := hx; exact ⟨to, ho, by simp⟩) (fun to _ => .inl (by simp))
  exact best_of_opt hd h1 h2
end Go.Proofs.Ytjdhcdoekfikpaa
