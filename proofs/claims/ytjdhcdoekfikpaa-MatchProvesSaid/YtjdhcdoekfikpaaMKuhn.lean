/-
  Plain mathematics of finding columns for rows by turning others out (Kuhn): what a search does, and a proof that no more rows can have columns. No program in sight.
-/
namespace Go.Proofs.Ytjdhcdoekfikpaa

abbrev Sta := List Int × List Bool × Bool
def scanF (rec : Nat → List Int → List Bool → Sta) (g : Nat → Nat → Bool) (row : Nat) : List Nat → List Int → List Bool → Sta
  | [], of, seen => (of, seen, false)
  | k :: ks, of, seen =>
    if seen.getD k false = true ∨ g row k = false then scanF rec g row ks of seen
    else if of.getD k (-1) < 0 then (of.set k (row : Int), seen.set k true, true)
    else if (rec (of.getD k (-1)).toNat of (seen.set k true)).2.2 = true then ((rec (of.getD k (-1)).toNat of (seen.set k true)).1.set k (row : Int), (rec (of.getD k (-1)).toNat of (seen.set k true)).2.1, true)
    else scanF rec g row ks (rec (of.getD k (-1)).toNat of (seen.set k true)).1 (rec (of.getD k (-1)).toNat of (seen.set k true)).2.1
def findF (g : Nat → Nat → Bool) (m : Nat) : Nat → Nat → List Int → List Bool → Sta
  | 0, _, of, seen => (of, seen, false)
  | f + 1, row, of, seen => scanF (findF g m f) g row (List.range m) of seen

def cn (r : Nat) (of : List Int) : Nat := of.count (r : Int)
def mc (of : List Int) : Nat := of.countP fun x => decide (0 ≤ x)
def Valid (g : Nat → Nat → Bool) (m : Nat) (of : List Int) : Prop := ∀ k, k < m → 0 ≤ of.getD k (-1) → g (of.getD k (-1)).toNat k = true
def Clo (g : Nat → Nat → Bool) (m : Nat) (C : Nat → Prop) (of : List Int) : Prop := ∀ k, C k → k < m ∧ 0 ≤ of.getD k (-1) ∧ ∀ k', k' < m → g (of.getD k (-1)).toNat k' = true → C k'

theorem getD_set_eq {α : Type} (l : List α) (k : Nat) (x d : α) (h : k < l.length) : (l.set k x).getD k d = x := by simp [List.getD_eq_getElem?_getD, h]
theorem getD_set_ne {α : Type} (l : List α) (k j : Nat) (x d : α) (h : k ≠ j) : (l.set k x).getD j d = l.getD j d := by simp [List.getD_eq_getElem?_getD, h]
theorem getD_get {α : Type} (l : List α) (k : Nat) (d : α) (h : k < l.length) : l.getD k d = l[k] := by simp [List.getD_eq_getElem?_getD, h]
theorem cn_set (r row k : Nat) (of : List Int) (h : k < of.length) : cn r (of.set k (row : Int)) + (if of.getD k (-1) = (r : Int) then 1 else 0) = cn r of + if r = row then 1 else 0 := by
  unfold cn
  rw [List.count_set h, getD_get _ _ _ h]
  have h1 : of[k] = (r : Int) → 1 ≤ of.count (r : Int) := fun e => List.count_pos_iff.2 (e ▸ List.getElem_mem h)
  by_cases e : of[k] = (r : Int) <;> by_cases e2 : r = row
  · subst e2; have := h1 e; simp [e]; omega
  · have : ¬ ((row : Int) = (r : Int)) := by omega
    have := h1 e
    simp [*]
  · subst e2; simp [e]
  · have : ¬ ((row : Int) = (r : Int)) := by omega
    simp [e, e2, this]
theorem mc_set (row k : Nat) (of : List Int) (h : k < of.length) : mc (of.set k (row : Int)) + (if 0 ≤ of.getD k (-1) then 1 else 0) = mc of + 1 := by
  unfold mc
  rw [List.countP_set h, getD_get _ _ _ h]
  have h1 : 0 ≤ of[k] → 1 ≤ of.countP (fun x => decide (0 ≤ x)) := fun e => List.countP_pos_iff.2 ⟨_, List.getElem_mem h, by simpa using e⟩
  by_cases e : 0 ≤ of[k]
  · have := h1 e
    simp [e]; omega
  · simp [e]

/-- What a search leaves. -/
structure Post (g : Nat → Nat → Bool) (m row : Nat) (of : List Int) (seen : List Bool) (u : Sta) : Prop where
  l1 : u.1.length = m
  l2 : u.2.1.length = m
  mono : ∀ k, seen.getD k false = true → u.2.1.getD k false = true
  keep : ∀ k, seen.getD k false = true → u.1.getD k (-1) = of.getD k (-1)
  no : u.2.2 = false → u.1 = of ∧ (∀ k, k < m → g row k = true → u.2.1.getD k false = true) ∧
    ∀ k, k < m → u.2.1.getD k false = true → seen.getD k false = true ∨ (0 ≤ of.getD k (-1) ∧ ∀ k', k' < m → g (of.getD k (-1)).toNat k' = true → u.2.1.getD k' false = true)
  yes : u.2.2 = true → Valid g m u.1 ∧ (∀ r, cn r u.1 = cn r of + if r = row then 1 else 0) ∧ mc u.1 = mc of + 1
  clo : ∀ C : Nat → Prop, Clo g m C of → ((∀ k, k < m → g row k = true → C k) → u.2.2 = false) ∧ (u.2.2 = true → ∀ k, C k → u.1.getD k (-1) = of.getD k (-1))

def unseen (seen : List Bool) : Nat := seen.count false
theorem unseen_set {seen : List Bool} {k : Nat} (h : k < seen.length) (hs : ¬ seen.getD k false = true) : unseen (seen.set k true) + 1 = unseen seen := by
  unfold unseen
  rw [getD_get _ _ _ h] at hs
  have e : seen[k] = false := by simpa using hs
  rw [List.count_set h, e]
  have : 1 ≤ seen.count false := List.count_pos_iff.2 (e ▸ List.getElem_mem h)
  simp; omega
theorem unseen_mono : ∀ {a b : List Bool}, a.length = b.length → (∀ k : Nat, a.getD k false = true → b.getD k false = true) → unseen b ≤ unseen a := by
  unfold unseen
  intro a
  induction a with
  | nil => intro b hl _; cases b with
    | nil => simp
    | cons => simp at hl
  | cons x r ih =>
    intro b hl h
    cases b with
    | nil => simp at hl
    | cons y s =>
      have h1 := ih (b := s) (by simpa using hl) (fun k hk => by simpa using h (k + 1) (by simpa using hk))
      have h0 := h 0
      simp only [List.getD_cons_zero] at h0
      rw [List.count_cons, List.count_cons]
      cases x <;> cases y <;> simp_all <;> omega

theorem scan_post (g : Nat → Nat → Bool) (m f row : Nat) (of : List Int) (seen0 : List Bool) (hl : of.length = m) (hl0 : seen0.length = m) (hv : Valid g m of)
    (hrec : ∀ row (seen : List Bool), seen.length = m → unseen seen < f → Post g m row of seen (findF g m f row of seen)) :
    ∀ (ks : List Nat) (seen : List Bool), (∀ k ∈ ks, k < m) → seen.length = m → unseen seen < f + 1 → (∀ k, seen0.getD k false = true → seen.getD k false = true) →
      (∀ k, k < m → k ∉ ks → g row k = true → seen.getD k false = true) →
      (∀ k, k < m → seen.getD k false = true → seen0.getD k false = true ∨ (0 ≤ of.getD k (-1) ∧ ∀ k', k' < m → g (of.getD k (-1)).toNat k' = true → seen.getD k' false = true)) →
      Post g m row of seen0 (scanF (findF g m f) g row ks of seen) := by
  intro ks
  induction ks with
  | nil =>
    intro seen _ hls _ hm hn ho
    exact ⟨hl, hls, hm, fun _ _ => rfl, fun _ => ⟨rfl, fun k hk hg => hn k hk (by simp) hg, ho⟩, fun h => (by simp [scanF] at h), fun C hC => ⟨fun _ => rfl, fun h => (by simp [scanF] at h)⟩⟩
  | cons k ks ih =>
    intro seen hks hls hun hm hn ho
    have hkm : k < m := hks k (by simp)
    rw [scanF]
    split
    · rename_i hc
      refine ih seen (fun j hj => hks j (by simp [hj])) hls hun hm (fun j hj hjk hg => ?_) ho
      by_cases e : j = k
      · subst e
        rcases hc with hc | hc
        · exact hc
        · rw [hg] at hc; cases hc
      · exact hn j hj (by simp [e, hjk]) hg
    · rename_i hc
      have hs : ¬ seen.getD k false = true := fun h => hc (.inl h)
      have hg : g row k = true := by
        cases hgk : g row k
        · exact absurd (.inr hgk) hc
        · rfl
      have hs0 : ∀ j, seen0.getD j false = true → j ≠ k := fun j hj e => hs (by rw [← e]; exact hm j hj)
      have hset : ∀ j, seen.getD j false = true → (seen.set k true).getD j false = true := fun j hj => by
        rw [getD_set_ne _ _ _ _ _ (fun e => hs (by rw [e]; exact hj))]; exact hj
      have hsk : (seen.set k true).getD k false = true := getD_set_eq _ _ _ _ (by omega)
      split
      · rename_i hfree
        refine ⟨by simpa using hl, by simpa using hls, fun j hj => hset j (hm j hj), fun j hj => getD_set_ne _ _ _ _ _ (fun e => hs0 j hj e.symm), fun h => (by simp at h), fun _ => ⟨?_, fun r => ?_, ?_⟩, fun C hC => ⟨fun hN => ?_, fun _ j hj => ?_⟩⟩
        · intro j hj h0
          by_cases e : j = k
          · subst e; rw [getD_set_eq _ _ _ _ (by omega)]; simpa using hg
          · rw [getD_set_ne _ _ _ _ _ (fun h => e h.symm)] at h0 ⊢; exact hv j hj h0
        · have := cn_set r row k of (by omega)
          rw [if_neg (by omega)] at this
          simpa using this
        · have := mc_set row k of (by omega)
          rw [if_neg (by omega)] at this
          simpa using this
        · have := (hC k (hN k hkm hg)).2.1; omega
        · have : j ≠ k := fun e => by have := (hC j hj).2.1; rw [e] at this; omega
          exact getD_set_ne _ _ _ _ _ (fun e => this e.symm)
      · rename_i hfree
        have hP := hrec (of.getD k (-1)).toNat (seen.set k true) (by simpa using hls) (by have := unseen_set (k := k) (by omega) hs; omega)
        generalize findF g m f (of.getD k (-1)).toNat of (seen.set k true) = u at hP
        have huk : u.1.getD k (-1) = of.getD k (-1) := hP.keep k hsk
        split
        · rename_i hok
          obtain ⟨y1, y2, y3⟩ := hP.yes hok
          refine ⟨by simpa using hP.l1, hP.l2, fun j hj => hP.mono j (hset j (hm j hj)), fun j hj => ?_, fun h => (by simp at h), fun _ => ⟨?_, fun r => ?_, ?_⟩, fun C hC => ⟨fun hN => ?_, fun _ j hj => ?_⟩⟩
          · rw [getD_set_ne _ _ _ _ _ (fun e => hs0 j hj e.symm)]; exact hP.keep j (hset j (hm j hj))
          · intro j hj h0
            by_cases e : j = k
            · subst e; rw [getD_set_eq _ _ _ _ (by rw [hP.l1]; omega)]; simpa using hg
            · rw [getD_set_ne _ _ _ _ _ (fun h => e h.symm)] at h0 ⊢; exact y1 j hj h0
          · have h1 := cn_set r row k u.1 (by rw [hP.l1]; omega)
            rw [huk, y2 r] at h1
            show cn r (u.1.set k (row : Int)) = _
            have e : (of.getD k (-1) = (r : Int)) ↔ r = (of.getD k (-1)).toNat := by omega
            by_cases h : r = (of.getD k (-1)).toNat
            · rw [if_pos (e.2 h), if_pos h] at h1; omega
            · rw [if_neg (fun h' => h (e.1 h')), if_neg h] at h1; omega
          · have h1 := mc_set row k u.1 (by rw [hP.l1]; omega)
            rw [huk, if_pos (by omega), y3] at h1
            simp only
            omega
          · have hk := hN k hkm hg
            have := (hP.clo C hC).1 (fun j hj hgj => (hC k hk).2.2 j hj hgj)
            rw [hok] at this; exact this
          · have hjk : j ≠ k := fun e => by
              have hk := hC j hj
              rw [e] at hk
              have := (hP.clo C hC).1 (fun i hi hgi => hk.2.2 i hi hgi)
              rw [hok] at this; cases this
            rw [getD_set_ne _ _ _ _ _ (fun e => hjk e.symm)]
            exact (hP.clo C hC).2 hok j hj
        · rename_i hok
          have hok : u.2.2 = false := by simpa using hok
          obtain ⟨n1, n2, n3⟩ := hP.no hok
          rw [n1]
          refine ih u.2.1 (fun j hj => hks j (by simp [hj])) hP.l2 ?_ (fun j hj => hP.mono j (hset j (hm j hj))) (fun j hj hjk hgj => ?_) (fun j hj hsj => ?_)
          · have := unseen_mono (a := seen) (b := u.2.1) (by rw [hls, hP.l2]) (fun j hj => hP.mono j (hset j hj))
            omega
          · by_cases e : j = k
            · subst e; exact hP.mono _ hsk
            · exact hP.mono _ (hset _ (hn j hj (by simp [e, hjk]) hgj))
          · rcases n3 j hj hsj with h | h
            · by_cases e : j = k
              · subst e; exact .inr ⟨by omega, n2⟩
              · rw [getD_set_ne _ _ _ _ _ (fun h => e h.symm)] at h
                rcases ho j hj h with h' | ⟨h1, h2⟩
                · exact .inl h'
                · exact .inr ⟨h1, fun k' hk' hg' => hP.mono _ (hset _ (h2 k' hk' hg'))⟩
            · exact .inr h
theorem find_post (g : Nat → Nat → Bool) (m : Nat) (of : List Int) (hl : of.length = m) (hv : Valid g m of) : ∀ (f row : Nat) (seen : List Bool), seen.length = m → unseen seen < f → Post g m row of seen (findF g m f row of seen) := by
  intro f
  induction f with
  | zero => intro row seen _ h; omega
  | succ f ih =>
    intro row seen hls hun
    exact scan_post g m f row of seen hl hls hv ih (List.range m) seen (fun k hk => List.mem_range.1 hk) hls hun (fun _ h => h) (fun k hk hkr _ => absurd (List.mem_range.2 hk) hkr) (fun k hk h => .inl h)
/-- The fuel does not matter. -/
theorem find_fuel (g : Nat → Nat → Bool) (m : Nat) (of : List Int) (hl : of.length = m) (hv : Valid g m of) : ∀ (f f' row : Nat) (seen : List Bool), seen.length = m → unseen seen < f → unseen seen < f' → findF g m f row of seen = findF g m f' row of seen := by
  intro f
  induction f with
  | zero => intro f' row seen _ h; omega
  | succ f ih =>
    intro f' row seen hls h1 h2
    obtain ⟨f', rfl⟩ : ∃ k, f' = k + 1 := ⟨f' - 1, by omega⟩
    simp only [findF]
    suffices H : ∀ (ks : List Nat) (seen : List Bool), (∀ k ∈ ks, k < m) → seen.length = m → unseen seen < f + 1 → unseen seen < f' + 1 → scanF (findF g m f) g row ks of seen = scanF (findF g m f') g row ks of seen from
      H (List.range m) seen (fun k hk => List.mem_range.1 hk) hls h1 h2
    intro ks
    induction ks with
    | nil => intro seen _ _ _ _; rfl
    | cons k ks ihk =>
      intro seen hks hls h1 h2
      have hkm := hks k (by simp)
      simp only [scanF]
      split
      · exact ihk seen (fun j hj => hks j (by simp [hj])) hls h1 h2
      · rename_i hc
        have hs : ¬ seen.getD k false = true := fun h => hc (.inl h)
        split
        · rfl
        · have hu := unseen_set (k := k) (by omega) hs
          have he := ih f' (of.getD k (-1)).toNat (seen.set k true) (by simpa using hls) (by omega) (by omega)
          have hP := find_post g m of hl hv f (of.getD k (-1)).toNat (seen.set k true) (by simpa using hls) (by omega)
          rw [← he]
          generalize findF g m f (of.getD k (-1)).toNat of (seen.set k true) = u at hP
          split
          · rfl
          · rename_i hok
            have hok : u.2.2 = false := by simpa using hok
            rw [(hP.no hok).1]
            have hle := unseen_mono (a := seen.set k true) (b := u.2.1) (by rw [hP.l2]; simpa using hls) hP.mono
            exact ihk u.2.1 (fun j hj => hks j (by simp [hj])) hP.l2 (by omega) (by omega)
end Go.Proofs.Ytjdhcdoekfikpaa
