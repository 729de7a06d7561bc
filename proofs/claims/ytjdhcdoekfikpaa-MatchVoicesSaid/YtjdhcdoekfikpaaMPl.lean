/-
  Plain mathematics of matchings: the search, its certificate, Hall's rows, sums, assignments, prices, the first assignment, all assignments, the solver, the laws. No program in sight.
-/
namespace Go.Proofs.Ytjdhcdoekfikpaa
section
abbrev Sta := List Int × List Bool × Bool
def scanF (rec : Nat → List Int → List Bool → Sta) (g : Nat → Nat → Bool) (row : Nat) : List Nat → List Int → List Bool → Sta
  | [], of, seen => (of, seen, false)
  | k :: ks, of, seen =>
    if seen.getD k false = true ∨ g row k = false then scanF rec g row ks of seen
    else if of.getD k (-1) < 0 then (of.set k (row : Int), seen.set k true, true)
    else if (rec (of.getD k (-1)).toNat of (seen.set k true)).2.2 = true then ((rec (of.getD k (-1)).toNat of (seen.set k true)).1.set k (row : Int), (rec (of.getD k (-1)).toNat of (seen.set k true)).2.1, true)
    else scanF rec g row ks (rec (of.getD k (-1)).toNat of (seen.set k true)).1 (rec (of.getD k (-1)).toNat of (seen.set k true)).2.1
def findF (g : Nat → Nat → Bool) (m : Nat) : Nat → Nat → List Int → List Bool → Sta
  | 0, _, of, seen => (of, seen, false)
  | f + 1, row, of, seen => scanF (findF g m f) g row (List.range m) of seen

def cn (r : Nat) (of : List Int) : Nat := of.count (r : Int)
def mc (of : List Int) : Nat := of.countP fun x => decide (0 ≤ x)
def Valid (g : Nat → Nat → Bool) (m : Nat) (of : List Int) : Prop := ∀ k, k < m → 0 ≤ of.getD k (-1) → g (of.getD k (-1)).toNat k = true
def Clo (g : Nat → Nat → Bool) (m : Nat) (C : Nat → Prop) (of : List Int) : Prop := ∀ k, C k → k < m ∧ 0 ≤ of.getD k (-1) ∧ ∀ k', k' < m → g (of.getD k (-1)).toNat k' = true → C k'

theorem getD_set_eq {α : Type} (l : List α) (k : Nat) (x d : α) (h : k < l.length) : (l.set k x).getD k d = x := by simp [List.getD_eq_getElem?_getD, h]
theorem getD_set_ne {α : Type} (l : List α) (k j : Nat) (x d : α) (h : k ≠ j) : (l.set k x).getD j d = l.getD j d := by simp [List.getD_eq_getElem?_getD, h]
theorem getD_get {α : Type} (l : List α) (k : Nat) (d : α) (h : k < l.length) : l.getD k d = l[k] := by simp [List.getD_eq_getElem?_getD, h]
theorem cn_set (r row k : Nat) (of : List Int) (h : k < of.length) : cn r (of.set k (row : Int)) + (if of.getD k (-1) = (r : Int) then 1 else 0) = cn r of + if r = row then 1 else 0 := by
  unfold cn
  rw [List.count_set h, getD_get _ _ _ h]
  have h1 : of[k] = (r : Int) → 1 ≤ of.count (r : Int) := fun e => List.count_pos_iff.2 (e ▸ List.getElem_mem h)
  by_cases e : of[k] = (r : Int) <;> by_cases e2 : r = row
  · subst e2; have := h1 e; simp [e]; omega
  · have : ¬ ((row : Int) = (r : Int)) := by omega
    have := h1 e
    simp [*]
  · subst e2; simp [e]
  · have : ¬ ((row : Int) = (r : Int)) := by omega
    simp [e, e2, this]
theorem mc_set (row k : Nat) (of : List Int) (h : k < of.length) : mc (of.set k (row : Int)) + (if 0 ≤ of.getD k (-1) then 1 else 0) = mc of + 1 := by
  unfold mc
  rw [List.countP_set h, getD_get _ _ _ h]
  have h1 : 0 ≤ of[k] → 1 ≤ of.countP (fun x => decide (0 ≤ x)) := fun e => List.countP_pos_iff.2 ⟨_, List.getElem_mem h, by simpa using e⟩
  by_cases e : 0 ≤ of[k]
  · have := h1 e
    simp [e]; omega
  · simp [e]

/-- What a search leaves. -/
structure Post (g : Nat → Nat → Bool) (m row : Nat) (of : List Int) (seen : List Bool) (u : Sta) : Prop where
  l1 : u.1.length = m
  l2 : u.2.1.length = m
  mono : ∀ k, seen.getD k false = true → u.2.1.getD k false = true
  keep : ∀ k, seen.getD k false = true → u.1.getD k (-1) = of.getD k (-1)
  no : u.2.2 = false → u.1 = of ∧ (∀ k, k < m → g row k = true → u.2.1.getD k false = true) ∧
    ∀ k, k < m → u.2.1.getD k false = true → seen.getD k false = true ∨ (0 ≤ of.getD k (-1) ∧ ∀ k', k' < m → g (of.getD k (-1)).toNat k' = true → u.2.1.getD k' false = true)
  yes : u.2.2 = true → Valid g m u.1 ∧ (∀ r, cn r u.1 = cn r of + if r = row then 1 else 0) ∧ mc u.1 = mc of + 1
  clo : ∀ C : Nat → Prop, Clo g m C of → ((∀ k, k < m → g row k = true → C k) → u.2.2 = false) ∧ (u.2.2 = true → ∀ k, C k → u.1.getD k (-1) = of.getD k (-1))

def unseen (seen : List Bool) : Nat := seen.count false
theorem unseen_set {seen : List Bool} {k : Nat} (h : k < seen.length) (hs : ¬ seen.getD k false = true) : unseen (seen.set k true) + 1 = unseen seen := by
  unfold unseen
  rw [getD_get _ _ _ h] at hs
  have e : seen[k] = false := by simpa using hs
  rw [List.count_set h, e]
  have : 1 ≤ seen.count false := List.count_pos_iff.2 (e ▸ List.getElem_mem h)
  simp; omega
theorem unseen_mono : ∀ {a b : List Bool}, a.length = b.length → (∀ k : Nat, a.getD k false = true → b.getD k false = true) → unseen b ≤ unseen a := by
  unfold unseen
  intro a
  induction a with
  | nil => intro b hl _; cases b with
    | nil => simp
    | cons => simp at hl
  | cons x r ih =>
    intro b hl h
    cases b with
    | nil => simp at hl
    | cons y s =>
      have h1 := ih (b := s) (by simpa using hl) (fun k hk => by simpa using h (k + 1) (by simpa using hk))
      have h0 := h 0
      simp only [List.getD_cons_zero] at h0
      rw [List.count_cons, List.count_cons]
      cases x <;> cases y <;> simp_all <;> omega

theorem scan_post (g : Nat → Nat → Bool) (m f row : Nat) (of : List Int) (seen0 : List Bool) (hl : of.length = m) (hl0 : seen0.length = m) (hv : Valid g m of)
    (hrec : ∀ row (seen : List Bool), seen.length = m → unseen seen < f → Post g m row of seen (findF g m f row of seen)) :
    ∀ (ks : List Nat) (seen : List Bool), (∀ k ∈ ks, k < m) → seen.length = m → unseen seen < f + 1 → (∀ k, seen0.getD k false = true → seen.getD k false = true) →
      (∀ k, k < m → k ∉ ks → g row k = true → seen.getD k false = true) →
      (∀ k, k < m → seen.getD k false = true → seen0.getD k false = true ∨ (0 ≤ of.getD k (-1) ∧ ∀ k', k' < m → g (of.getD k (-1)).toNat k' = true → seen.getD k' false = true)) →
      Post g m row of seen0 (scanF (findF g m f) g row ks of seen) := by
  intro ks
  induction ks with
  | nil =>
    intro seen _ hls _ hm hn ho
    exact ⟨hl, hls, hm, fun _ _ => rfl, fun _ => ⟨rfl, fun k hk hg => hn k hk (by simp) hg, ho⟩, fun h => (by simp [scanF] at h), fun C hC => ⟨fun _ => rfl, fun h => (by simp [scanF] at h)⟩⟩
  | cons k ks ih =>
    intro seen hks hls hun hm hn ho
    have hkm : k < m := hks k (by simp)
    rw [scanF]
    split
    · rename_i hc
      refine ih seen (fun j hj => hks j (by simp [hj])) hls hun hm (fun j hj hjk hg => ?_) ho
      by_cases e : j = k
      · subst e
        rcases hc with hc | hc
        · exact hc
        · rw [hg] at hc; cases hc
      · exact hn j hj (by simp [e, hjk]) hg
    · rename_i hc
      have hs : ¬ seen.getD k false = true := fun h => hc (.inl h)
      have hg : g row k = true := by
        cases hgk : g row k
        · exact absurd (.inr hgk) hc
        · rfl
      have hs0 : ∀ j, seen0.getD j false = true → j ≠ k := fun j hj e => hs (by rw [← e]; exact hm j hj)
      have hset : ∀ j, seen.getD j false = true → (seen.set k true).getD j false = true := fun j hj => by
        rw [getD_set_ne _ _ _ _ _ (fun e => hs (by rw [e]; exact hj))]; exact hj
      have hsk : (seen.set k true).getD k false = true := getD_set_eq _ _ _ _ (by omega)
      split
      · rename_i hfree
        refine ⟨by simpa using hl, by simpa using hls, fun j hj => hset j (hm j hj), fun j hj => getD_set_ne _ _ _ _ _ (fun e => hs0 j hj e.symm), fun h => (by simp at h), fun _ => ⟨?_, fun r => ?_, ?_⟩, fun C hC => ⟨fun hN => ?_, fun _ j hj => ?_⟩⟩
        · intro j hj h0
          by_cases e : j = k
          · subst e; rw [getD_set_eq _ _ _ _ (by omega)]; simpa using hg
          · rw [getD_set_ne _ _ _ _ _ (fun h => e h.symm)] at h0 ⊢; exact hv j hj h0
        · have := cn_set r row k of (by omega)
          rw [if_neg (by omega)] at this
          simpa using this
        · have := mc_set row k of (by omega)
          rw [if_neg (by omega)] at this
          simpa using this
        · have := (hC k (hN k hkm hg)).2.1; omega
        · have : j ≠ k := fun e => by have := (hC j hj).2.1; rw [e] at this; omega
          exact getD_set_ne _ _ _ _ _ (fun e => this e.symm)
      · rename_i hfree
        have hP := hrec (of.getD k (-1)).toNat (seen.set k true) (by simpa using hls) (by have := unseen_set (k := k) (by omega) hs; omega)
        generalize findF g m f (of.getD k (-1)).toNat of (seen.set k true) = u at hP
        have huk : u.1.getD k (-1) = of.getD k (-1) := hP.keep k hsk
        split
        · rename_i hok
          obtain ⟨y1, y2, y3⟩ := hP.yes hok
          refine ⟨by simpa using hP.l1, hP.l2, fun j hj => hP.mono j (hset j (hm j hj)), fun j hj => ?_, fun h => (by simp at h), fun _ => ⟨?_, fun r => ?_, ?_⟩, fun C hC => ⟨fun hN => ?_, fun _ j hj => ?_⟩⟩
          · rw [getD_set_ne _ _ _ _ _ (fun e => hs0 j hj e.symm)]; exact hP.keep j (hset j (hm j hj))
          · intro j hj h0
            by_cases e : j = k
            · subst e; rw [getD_set_eq _ _ _ _ (by rw [hP.l1]; omega)]; simpa using hg
            · rw [getD_set_ne _ _ _ _ _ (fun h => e h.symm)] at h0 ⊢; exact y1 j hj h0
          · have h1 := cn_set r row k u.1 (by rw [hP.l1]; omega)
            rw [huk, y2 r] at h1
            show cn r (u.1.set k (row : Int)) = _
            have e : (of.getD k (-1) = (r : Int)) ↔ r = (of.getD k (-1)).toNat := by omega
            by_cases h : r = (of.getD k (-1)).toNat
            · rw [if_pos (e.2 h), if_pos h] at h1; omega
            · rw [if_neg (fun h' => h (e.1 h')), if_neg h] at h1; omega
          · have h1 := mc_set row k u.1 (by rw [hP.l1]; omega)
            rw [huk, if_pos (by omega), y3] at h1
            simp only
            omega
          · have hk := hN k hkm hg
            have := (hP.clo C hC).1 (fun j hj hgj => (hC k hk).2.2 j hj hgj)
            rw [hok] at this; exact this
          · have hjk : j ≠ k := fun e => by
              have hk := hC j hj
              rw [e] at hk
              have := (hP.clo C hC).1 (fun i hi hgi => hk.2.2 i hi hgi)
              rw [hok] at this; cases this
            rw [getD_set_ne _ _ _ _ _ (fun e => hjk e.symm)]
            exact (hP.clo C hC).2 hok j hj
        · rename_i hok
          have hok : u.2.2 = false := by simpa using hok
          obtain ⟨n1, n2, n3⟩ := hP.no hok
          rw [n1]
          refine ih u.2.1 (fun j hj => hks j (by simp [hj])) hP.l2 ?_ (fun j hj => hP.mono j (hset j (hm j hj))) (fun j hj hjk hgj => ?_) (fun j hj hsj => ?_)
          · have := unseen_mono (a := seen) (b := u.2.1) (by rw [hls, hP.l2]) (fun j hj => hP.mono j (hset j hj))
            omega
          · by_cases e : j = k
            · subst e; exact hP.mono _ hsk
            · exact hP.mono _ (hset _ (hn j hj (by simp [e, hjk]) hgj))
          · rcases n3 j hj hsj with h | h
            · by_cases e : j = k
              · subst e; exact .inr ⟨by omega, n2⟩
              · rw [getD_set_ne _ _ _ _ _ (fun h => e h.symm)] at h
                rcases ho j hj h with h' | ⟨h1, h2⟩
                · exact .inl h'
                · exact .inr ⟨h1, fun k' hk' hg' => hP.mono _ (hset _ (h2 k' hk' hg'))⟩
            · exact .inr h
theorem find_post (g : Nat → Nat → Bool) (m : Nat) (of : List Int) (hl : of.length = m) (hv : Valid g m of) : ∀ (f row : Nat) (seen : List Bool), seen.length = m → unseen seen < f → Post g m row of seen (findF g m f row of seen) := by
  intro f
  induction f with
  | zero => intro row seen _ h; omega
  | succ f ih =>
    intro row seen hls hun
    exact scan_post g m f row of seen hl hls hv ih (List.range m) seen (fun k hk => List.mem_range.1 hk) hls hun (fun _ h => h) (fun k hk hkr _ => absurd (List.mem_range.2 hk) hkr) (fun k hk h => .inl h)
/-- The fuel does not matter. -/
theorem find_fuel (g : Nat → Nat → Bool) (m : Nat) (of : List Int) (hl : of.length = m) (hv : Valid g m of) : ∀ (f f' row : Nat) (seen : List Bool), seen.length = m → unseen seen < f → unseen seen < f' → findF g m f row of seen = findF g m f' row of seen := by
  intro f
  induction f with
  | zero => intro f' row seen _ h; omega
  | succ f ih =>
    intro f' row seen hls h1 h2
    obtain ⟨f', rfl⟩ : ∃ k, f' = k + 1 := ⟨f' - 1, by omega⟩
    simp only [findF]
    suffices H : ∀ (ks : List Nat) (seen : List Bool), (∀ k ∈ ks, k < m) → seen.length = m → unseen seen < f + 1 → unseen seen < f' + 1 → scanF (findF g m f) g row ks of seen = scanF (findF g m f') g row ks of seen from
      H (List.range m) seen (fun k hk => List.mem_range.1 hk) hls h1 h2
    intro ks
    induction ks with
    | nil => intro seen _ _ _ _; rfl
    | cons k ks ihk =>
      intro seen hks hls h1 h2
      have hkm := hks k (by simp)
      simp only [scanF]
      split
      · exact ihk seen (fun j hj => hks j (by simp [hj])) hls h1 h2
      · rename_i hc
        have hs : ¬ seen.getD k false = true := fun h => hc (.inl h)
        split
        · rfl
        · have hu := unseen_set (k := k) (by omega) hs
          have he := ih f' (of.getD k (-1)).toNat (seen.set k true) (by simpa using hls) (by omega) (by omega)
          have hP := find_post g m of hl hv f (of.getD k (-1)).toNat (seen.set k true) (by simpa using hls) (by omega)
          rw [← he]
          generalize findF g m f (of.getD k (-1)).toNat of (seen.set k true) = u at hP
          split
          · rfl
          · rename_i hok
            have hok : u.2.2 = false := by simpa using hok
            rw [(hP.no hok).1]
            have hle := unseen_mono (a := seen.set k true) (b := u.2.1) (by rw [hP.l2]; simpa using hls) hP.mono
            exact ihk u.2.1 (fun j hj => hks j (by simp [hj])) hP.l2 (by omega) (by omega)
end
section
def kuhnF (g : Nat → Nat → Bool) (m : Nat) : List Nat → List Int → Nat → List Int × Nat
  | [], of, n => (of, n)
  | r :: rs, of, n => if (findF g m (m + 1) r of (List.replicate m false)).2.2 = true then kuhnF g m rs (findF g m (m + 1) r of (List.replicate m false)).1 (n + 1) else kuhnF g m rs of n
def kuhn (g : Nat → Nat → Bool) (m : Nat) (rows : List Nat) : Nat := (kuhnF g m rows (List.replicate m (-1)) 0).2

/-- What a matching of some rows is known by: the row of each column; a set of columns that no row outside leaves. -/
structure Cert (g : Nat → Nat → Bool) (m : Nat) (rows : List Nat) (of : List Int) (n : Nat) (C : Nat → Prop) : Prop where
  len : of.length = m
  val : Valid g m of
  one : ∀ r, cn r of ≤ 1
  mem : ∀ r, 0 < cn r of → r ∈ rows
  num : mc of = n
  clo : Clo g m C of
  all : ∀ r ∈ rows, 0 < cn r of ∨ ∀ k, k < m → g r k = true → C k
theorem unseen_fresh (m : Nat) : unseen (List.replicate m false) = m := by simp [unseen]
theorem fresh_false {m k : Nat} : ¬ (List.replicate m false).getD k false = true := by
  rw [List.getD_eq_getElem?_getD, List.getElem?_replicate]; split <;> simp
theorem Cert.start (g : Nat → Nat → Bool) (m : Nat) : Cert g m [] (List.replicate m (-1)) 0 (fun _ => False) := by
  have hg : ∀ k : Nat, (List.replicate m (-1 : Int)).getD k (-1) = -1 := fun k => by
    rw [List.getD_eq_getElem?_getD, List.getElem?_replicate]; split <;> rfl
  have hc : ∀ r, cn r (List.replicate m (-1)) = 0 := fun r => by
    unfold cn; rw [List.count_replicate]; simp
  refine ⟨by simp, fun k _ h => by rw [hg] at h; omega, fun r => by rw [hc]; omega, fun r h => by rw [hc] at h; omega, ?_, fun k h => h.elim, fun r h => by simp at h⟩
  unfold mc; rw [List.countP_replicate]; simp
theorem Cert.step {g : Nat → Nat → Bool} {m : Nat} {rows : List Nat} {of : List Int} {n : Nat} {C : Nat → Prop} (h : Cert g m rows of n C) (r : Nat) (hr : r ∉ rows) {u : Sta} (hu : findF g m (m + 1) r of (List.replicate m false) = u) :
    if u.2.2 = true then Cert g m (rows ++ [r]) u.1 (n + 1) C else u.1 = of ∧ ∃ C', Cert g m (rows ++ [r]) of n C' := by
  have hP := find_post g m of h.len h.val (m + 1) r (List.replicate m false) (by simp) (by rw [unseen_fresh]; omega)
  rw [hu] at hP
  have h0 : cn r of = 0 := by
    cases hc : cn r of with
    | zero => rfl
    | succ j => exact absurd (h.mem r (by omega)) hr
  split
  · rename_i hok
    obtain ⟨y1, y2, y3⟩ := hP.yes hok
    have hk := (hP.clo C h.clo).2 hok
    refine ⟨hP.l1, y1, fun q => ?_, fun q hq => ?_, by rw [y3, h.num], fun k hC => ?_, fun q hq => ?_⟩
    · rw [y2 q]
      by_cases e : q = r
      · subst e; rw [if_pos rfl, h0]; omega
      · rw [if_neg e]; have := h.one q; omega
    · rw [y2 q] at hq
      by_cases e : q = r
      · simp [e]
      · rw [if_neg e] at hq; exact List.mem_append_left _ (h.mem q (by omega))
    · rw [hk k hC]; exact h.clo k hC
    · rw [y2 q]
      by_cases e : q = r
      · left; rw [if_pos e]; omega
      · rw [if_neg e]
        rcases List.mem_append.1 hq with hq | hq
        · exact h.all q hq
        · simp at hq; exact absurd hq e
  · rename_i hok
    have hok : u.2.2 = false := by simpa using hok
    obtain ⟨n1, n2, n3⟩ := hP.no hok
    refine ⟨n1, fun k => C k ∨ (k < m ∧ u.2.1.getD k false = true), h.len, h.val, h.one, fun q hq => List.mem_append_left _ (h.mem q hq), h.num, fun k hC => ?_, fun q hq => ?_⟩
    · rcases hC with hC | ⟨hk, hC⟩
      · obtain ⟨a, b, c⟩ := h.clo k hC
        exact ⟨a, b, fun k' hk' hg' => .inl (c k' hk' hg')⟩
      · rcases n3 k hk hC with h' | ⟨h1, h2⟩
        · exact absurd h' fresh_false
        · exact ⟨hk, h1, fun k' hk' hg' => .inr ⟨hk', h2 k' hk' hg'⟩⟩
    · rcases List.mem_append.1 hq with hq | hq
      · rcases h.all q hq with h' | h'
        · exact .inl h'
        · exact .inr fun k hk hg => .inl (h' k hk hg)
      · simp at hq; subst hq
        exact .inr fun k hk hg => .inr ⟨hk, n2 k hk hg⟩
theorem kuhnF_cert (g : Nat → Nat → Bool) (m : Nat) : ∀ (rs done : List Nat) (of : List Int) (n : Nat) (C : Nat → Prop), (done ++ rs).Nodup → Cert g m done of n C → ∃ C', Cert g m (done ++ rs) (kuhnF g m rs of n).1 (kuhnF g m rs of n).2 C' := by
  intro rs
  induction rs with
  | nil => intro done of n C _ h; exact ⟨C, by simpa [kuhnF] using h⟩
  | cons r rs ih =>
    intro done of n C hnd h
    have hr : r ∉ done := fun hm => by
      have := List.nodup_append.1 hnd
      exact this.2.2 r hm r (by simp) rfl
    have e : done ++ r :: rs = (done ++ [r]) ++ rs := by simp
    have hs := h.step r hr rfl
    rw [e] at hnd ⊢
    rw [kuhnF]
    split
    · rename_i hok
      rw [if_pos hok] at hs
      exact ih _ _ _ _ hnd hs
    · rename_i hok
      rw [if_neg hok] at hs
      obtain ⟨_, C', hs⟩ := hs
      exact ih _ _ _ _ hnd hs
theorem kuhn_cert (g : Nat → Nat → Bool) (m : Nat) (rows : List Nat) (h : rows.Nodup) : ∃ of C, Cert g m rows of (kuhn g m rows) C := by
  obtain ⟨C, hC⟩ := kuhnF_cert g m rows [] _ 0 _ (by simpa using h) (Cert.start g m)
  exact ⟨_, C, by simpa [kuhn] using hC⟩

/-! ### counting -/
theorem length_le_of_nodup {α : Type} [DecidableEq α] : ∀ (l l' : List α), l.Nodup → (∀ x ∈ l, x ∈ l') → l.length ≤ l'.length
  | [], _, _, _ => by simp
  | a :: r, l', h, hs => by
    have ha : a ∈ l' := hs a (by simp)
    have hr := length_le_of_nodup r (l'.erase a) (List.nodup_cons.1 h).2 (fun x hx => by
      have hxa : x ≠ a := fun e => (List.nodup_cons.1 h).1 (e ▸ hx)
      exact (List.mem_erase_of_ne hxa).2 (hs x (by simp [hx])))
    rw [List.length_erase_of_mem ha] at hr
    have : 0 < l'.length := List.length_pos_of_mem ha
    simp only [List.length_cons]
    omega
theorem nodup_map {α β : Type} {f : α → β} {l : List α} (hl : l.Nodup) (hf : ∀ x ∈ l, ∀ y ∈ l, f x = f y → x = y) : (l.map f).Nodup := by
  unfold List.Nodup at *
  rw [List.pairwise_map]
  exact hl.imp_of_mem (fun {a b} ha hb hne e => hne (hf a ha b hb e))
theorem map_le {α β : Type} [DecidableEq β] {f : α → β} {l : List α} {l' : List β} (hl : l.Nodup) (hf : ∀ x ∈ l, ∀ y ∈ l, f x = f y → x = y) (hm : ∀ x ∈ l, f x ∈ l') : l.length ≤ l'.length := by
  have := length_le_of_nodup (l.map f) l' (nodup_map hl hf) (fun y hy => by obtain ⟨x, hx, rfl⟩ := List.mem_map.1 hy; exact hm x hx)
  simpa using this
/-- The columns that have a row. -/
def hadC (m : Nat) (of : List Int) : List Nat := (List.range m).filter fun k => decide (0 ≤ of.getD k (-1))
theorem mem_hadC {m k : Nat} {of : List Int} : k ∈ hadC m of ↔ k < m ∧ 0 ≤ of.getD k (-1) := by simp [hadC]
theorem nodup_range (m : Nat) : (List.range m).Nodup := List.nodup_range
theorem nodup_hadC (m : Nat) (of : List Int) : (hadC m of).Nodup := (nodup_range m).filter _
theorem hadC_len {m : Nat} {of : List Int} (h : of.length = m) : (hadC m of).length = mc of := by
  have e : (List.range m).map (fun k => of.getD k (-1)) = of := by
    apply List.ext_getElem
    · simp [h]
    · intro i h1 h2
      simp [h2]
  unfold hadC mc
  conv => rhs; rw [← e]
  rw [List.countP_map, List.countP_eq_length_filter]
  rfl
/-- A matching of the rows of S: no column twice, only columns that the row may have. -/
def Mat (g : Nat → Nat → Bool) (m : Nat) (S : List Nat) (f : Nat → Nat) : Prop := ∀ r ∈ S, f r < m ∧ g r (f r) = true ∧ ∀ q ∈ S, f q = f r → q = r
theorem Mat.sub {g : Nat → Nat → Bool} {m : Nat} {S T : List Nat} {f : Nat → Nat} (h : Mat g m S f) (ht : ∀ r ∈ T, r ∈ S) : Mat g m T f := fun r hr => ⟨(h r (ht r hr)).1, (h r (ht r hr)).2.1, fun q hq e => (h r (ht r hr)).2.2 q (ht q hq) e⟩
section
variable {g : Nat → Nat → Bool} {m : Nat} {rows : List Nat} {of : List Int} {n : Nat} {C : Nat → Prop}
theorem cn_pos {r : Nat} {of : List Int} : 0 < cn r of ↔ ∃ k, k < of.length ∧ of.getD k (-1) = (r : Int) := by
  unfold cn
  rw [List.count_pos_iff, List.mem_iff_getElem]
  constructor
  · rintro ⟨k, hk, e⟩; exact ⟨k, hk, by rw [getD_get _ _ _ hk]; exact e⟩
  · rintro ⟨k, hk, e⟩; exact ⟨k, hk, by rw [getD_get _ _ _ hk] at e; exact e⟩
theorem count_two : ∀ {of : List Int} {i j : Nat} {x : Int} (hi : i < of.length) (hj : j < of.length), i < j → of[i] = x → of[j] = x → 2 ≤ of.count x
  | a :: l, 0, j + 1, x, _, hj, _, e1, e2 => by
    have : 1 ≤ l.count x := List.count_pos_iff.2 (by simp at e2; exact e2 ▸ List.getElem_mem (by simpa using hj))
    simp at e1
    rw [List.count_cons, e1, if_pos (by simp)]; omega
  | a :: l, i + 1, j + 1, x, hi, hj, h, e1, e2 => by
    have := count_two (of := l) (i := i) (j := j) (x := x) (by simpa using hi) (by simpa using hj) (by omega) (by simpa using e1) (by simpa using e2)
    rw [List.count_cons]; omega
theorem Cert.inj (h : Cert g m rows of n C) {i j r : Nat} (hi : i < m) (hj : j < m) (e1 : of.getD i (-1) = (r : Int)) (e2 : of.getD j (-1) = (r : Int)) : i = j := by
  have hl := h.len
  have h1 := h.one r
  rw [getD_get _ _ _ (by omega)] at e1
  rw [getD_get _ _ _ (by omega)] at e2
  rcases Nat.lt_trichotomy i j with hlt | heq | hlt
  · have := count_two (by omega) (by omega) hlt e1 e2; unfold cn at h1; omega
  · exact heq
  · have := count_two (by omega) (by omega) hlt e2 e1; unfold cn at h1; omega
/-- The column of a row. -/
noncomputable def colOf (m : Nat) (of : List Int) (r : Nat) : Nat := by
  classical
  exact if h : ∃ k, k < m ∧ of.getD k (-1) = (r : Int) then Classical.choose h else 0
theorem colOf_spec {r : Nat} (h : Cert g m rows of n C) (hr : 0 < cn r of) : colOf m of r < m ∧ of.getD (colOf m of r) (-1) = (r : Int) := by
  have hx : ∃ k, k < m ∧ of.getD k (-1) = (r : Int) := by
    obtain ⟨k, hk, e⟩ := cn_pos.1 hr
    exact ⟨k, by rw [← h.len]; exact hk, e⟩
  unfold colOf
  rw [dif_pos hx]
  exact Classical.choose_spec hx
/-- The rows that have columns. -/
def hadR (rows : List Nat) (of : List Int) : List Nat := rows.filter fun r => decide (0 < cn r of)
theorem mem_hadR {r : Nat} : r ∈ hadR rows of ↔ r ∈ rows ∧ 0 < cn r of := by simp [hadR]
theorem Cert.mat (h : Cert g m rows of n C) : Mat g m (hadR rows of) (colOf m of) := fun r hr => by
  have hs := colOf_spec h (mem_hadR.1 hr).2
  refine ⟨hs.1, ?_, fun q hq e => ?_⟩
  · have := h.val _ hs.1 (by rw [hs.2]; omega)
    rwa [hs.2, Int.toNat_natCast] at this
  · have hs' := colOf_spec h (mem_hadR.1 hq).2
    rw [e, hs.2] at hs'
    omega
theorem Cert.hadR_len (h : Cert g m rows of n C) (hn : rows.Nodup) : (hadR rows of).length = n := by
  have hnr : (hadR rows of).Nodup := hn.filter _
  rw [← h.num, ← hadC_len h.len]
  apply Nat.le_antisymm
  · refine map_le (f := colOf m of) hnr (fun x hx y hy e => ((h.mat y hy).2.2 x hx e)) (fun x hx => ?_)
    have := colOf_spec h (mem_hadR.1 hx).2
    exact mem_hadC.2 ⟨this.1, by rw [this.2]; omega⟩
  · refine map_le (f := fun k => (of.getD k (-1)).toNat) (nodup_hadC m of) (fun x hx y hy e => ?_) (fun k hk => ?_)
    · have hx := mem_hadC.1 hx
      have hy := mem_hadC.1 hy
      exact h.inj (r := (of.getD x (-1)).toNat) hx.1 hy.1 (by omega) (by omega)
    · have hk := mem_hadC.1 hk
      have hc : 0 < cn (of.getD k (-1)).toNat of := cn_pos.2 ⟨k, by rw [h.len]; exact hk.1, by omega⟩
      exact mem_hadR.2 ⟨h.mem _ hc, hc⟩
/-- No matching of rows of these has more. -/
theorem Cert.max (h : Cert g m rows of n C) {S : List Nat} {f : Nat → Nat} (hS : S.Nodup) (hsub : ∀ r ∈ S, r ∈ rows) (hf : Mat g m S f) : S.length ≤ n := by
  classical
  rw [← h.num, ← hadC_len h.len]
  have key : ∀ r ∈ S, ¬ C (f r) → 0 < cn r of := fun r hr hC => by
    rcases h.all r (hsub r hr) with h' | h'
    · exact h'
    · exact absurd (h' (f r) (hf r hr).1 (hf r hr).2.1) hC
  have out : ∀ r ∈ S, ¬ C (f r) → ¬ C (colOf m of r) := fun r hr hC hk => by
    have hs := colOf_spec h (key r hr hC)
    have := (h.clo _ hk).2.2 (f r) (hf r hr).1
    rw [hs.2, Int.toNat_natCast] at this
    exact hC (this (hf r hr).2.1)
  refine map_le (f := fun r => if C (f r) then f r else colOf m of r) hS (fun x hx y hy e => ?_) (fun r hr => ?_)
  · by_cases hcx : C (f x) <;> by_cases hcy : C (f y)
    · rw [if_pos hcx, if_pos hcy] at e; exact (hf y hy).2.2 x hx e
    · rw [if_pos hcx, if_neg hcy] at e; rw [e] at hcx; exact absurd hcx (out y hy hcy)
    · rw [if_neg hcx, if_pos hcy] at e; rw [← e] at hcy; exact absurd hcy (out x hx hcx)
    · rw [if_neg hcx, if_neg hcy] at e
      have h1 := colOf_spec h (key x hx hcx)
      have h2 := colOf_spec h (key y hy hcy)
      rw [e, h2.2] at h1
      omega
  · by_cases hc : C (f r)
    · rw [if_pos hc]
      have := h.clo _ hc
      exact mem_hadC.2 ⟨this.1, this.2.1⟩
    · rw [if_neg hc]
      have := colOf_spec h (key r hr hc)
      exact mem_hadC.2 ⟨this.1, by rw [this.2]; omega⟩
end
/-- THE GREATEST NUMBER OF ROWS THAT CAN HAVE COLUMNS: it is reached, and no matching has more. -/
theorem kuhn_mat (g : Nat → Nat → Bool) (m : Nat) (rows : List Nat) (h : rows.Nodup) : ∃ S f, S.Nodup ∧ (∀ r ∈ S, r ∈ rows) ∧ S.length = kuhn g m rows ∧ Mat g m S f := by
  obtain ⟨of, C, hc⟩ := kuhn_cert g m rows h
  exact ⟨hadR rows of, colOf m of, h.filter _, fun r hr => (mem_hadR.1 hr).1, hc.hadR_len h, hc.mat⟩
theorem kuhn_max (g : Nat → Nat → Bool) (m : Nat) (rows : List Nat) (h : rows.Nodup) {S : List Nat} {f : Nat → Nat} (hS : S.Nodup) (hsub : ∀ r ∈ S, r ∈ rows) (hf : Mat g m S f) : S.length ≤ kuhn g m rows := by
  obtain ⟨of, C, hc⟩ := kuhn_cert g m rows h
  exact hc.max hS hsub hf
theorem kuhn_le (g : Nat → Nat → Bool) (m : Nat) (rows : List Nat) (h : rows.Nodup) : kuhn g m rows ≤ rows.length := by
  obtain ⟨S, f, h1, h2, h3, _⟩ := kuhn_mat g m rows h
  rw [← h3]
  exact length_le_of_nodup S rows h1 h2
theorem mem_of_full {S rows : List Nat} (hS : S.Nodup) (hsub : ∀ r ∈ S, r ∈ rows) (hl : rows.length ≤ S.length) : ∀ r ∈ rows, r ∈ S := by
  intro r hr
  by_cases h : r ∈ S
  · exact h
  · have := length_le_of_nodup (r :: S) rows (List.nodup_cons.2 ⟨h, hS⟩) (fun x hx => by
      rcases List.mem_cons.1 hx with rfl | hx
      · exact hr
      · exact hsub x hx)
    simp at this; omega
/-- All rows can have columns exactly if the number is theirs. -/
theorem kuhn_full (g : Nat → Nat → Bool) (m : Nat) (rows : List Nat) (h : rows.Nodup) : kuhn g m rows = rows.length ↔ ∃ f, Mat g m rows f := by
  constructor
  · intro e
    obtain ⟨S, f, h1, h2, h3, h4⟩ := kuhn_mat g m rows h
    exact ⟨f, h4.sub (mem_of_full h1 h2 (by omega))⟩
  · rintro ⟨f, hf⟩
    exact Nat.le_antisymm (kuhn_le g m rows h) (kuhn_max g m rows h h (fun _ h => h) hf)
end
section
/-- The columns that at least one of some rows may have. -/
def nearC (g : Nat → Nat → Bool) (m : Nat) (S : List Nat) : List Nat := (List.range m).filter fun k => S.any fun r => g r k
def near (g : Nat → Nat → Bool) (m : Nat) (S : List Nat) : Nat := (nearC g m S).length
theorem mem_nearC {g : Nat → Nat → Bool} {m k : Nat} {S : List Nat} : k ∈ nearC g m S ↔ k < m ∧ ∃ r ∈ S, g r k = true := by simp [nearC]
theorem nodup_nearC (g : Nat → Nat → Bool) (m : Nat) (S : List Nat) : (nearC g m S).Nodup := (nodup_range m).filter _
theorem mat_near {g : Nat → Nat → Bool} {m : Nat} {S T : List Nat} {f : Nat → Nat} (hT : T.Nodup) (hs : ∀ r ∈ T, r ∈ S) (hf : Mat g m T f) : T.length ≤ near g m S :=
  map_le (f := f) hT (fun x hx y hy e => (hf y hy).2.2 x hx e) (fun r hr => mem_nearC.2 ⟨(hf r hr).1, r, hs r hr, (hf r hr).2.1⟩)
theorem filter_split {α : Type} (p : α → Bool) (l : List α) : (l.filter p).length + (l.filter fun x => !p x).length = l.length := by
  induction l with
  | nil => rfl
  | cons a r ih =>
    rw [List.filter_cons, List.filter_cons]
    cases p a <;> simp <;> omega
theorem erase_nodup {S : List Nat} (h : S.Nodup) (r : Nat) : (S.erase r).Nodup := h.erase r
theorem mem_erase {S : List Nat} (h : S.Nodup) {r x : Nat} : x ∈ S.erase r ↔ x ≠ r ∧ x ∈ S := h.mem_erase_iff
/-- A set of rows that has no matching while each set with a row less has one: it has one column too few. -/
theorem hall_near (g : Nat → Nat → Bool) (m : Nat) (S : List Nat) (hS : S.Nodup) (hlt : kuhn g m S < S.length) (hone : ∀ r ∈ S, ∃ f, Mat g m (S.erase r) f) : near g m S + 1 = S.length := by
  classical
  obtain ⟨of, C, hc⟩ := kuhn_cert g m S hS
  have hhl := hc.hadR_len hS
  have hx : ∃ r ∈ S, ¬ 0 < cn r of := Classical.byContradiction fun hno => by
    have hall : ∀ r ∈ S, 0 < cn r of := fun r hr => Classical.byContradiction fun h => hno ⟨r, hr, h⟩
    have : S.length ≤ (hadR S of).length := length_le_of_nodup S _ hS fun r hr => mem_hadR.2 ⟨hr, hall r hr⟩
    omega
  obtain ⟨r0, hr0, hn0⟩ := hx
  have hN0 : ∀ k, k < m → g r0 k = true → C k := by
    rcases hc.all r0 hr0 with h | h
    · exact absurd h hn0
    · exact h
  let Cl := (List.range m).filter fun k => decide (C k)
  have memCl : ∀ k, k ∈ Cl ↔ k < m ∧ C k := fun k => by simp [Cl]
  let Rl := S.filter fun r => decide (∀ k, k < m → g r k = true → C k)
  have memRl : ∀ r, r ∈ Rl ↔ r ∈ S ∧ ∀ k, k < m → g r k = true → C k := fun r => by simp [Rl]
  have hRn : Rl.Nodup := hS.filter _
  have hCn : Cl.Nodup := (nodup_range m).filter _
  have h1 : Cl.length ≤ (Rl.erase r0).length := by
    refine map_le (f := fun k => (of.getD k (-1)).toNat) hCn (fun x hx y hy e => ?_) (fun k hk => ?_)
    · have hx := (hc.clo x ((memCl x).1 hx).2)
      have hy := (hc.clo y ((memCl y).1 hy).2)
      exact hc.inj (r := (of.getD x (-1)).toNat) hx.1 hy.1 (by omega) (by omega)
    · have hk := hc.clo k ((memCl k).1 hk).2
      have hp : 0 < cn (of.getD k (-1)).toNat of := cn_pos.2 ⟨k, by rw [hc.len]; exact hk.1, by omega⟩
      refine (mem_erase hRn).2 ⟨fun e => hn0 (e ▸ hp), (memRl _).2 ⟨hc.mem _ hp, hk.2.2⟩⟩
  have h2 : (Rl.erase r0).length = Rl.length - 1 := List.length_erase_of_mem ((memRl r0).2 ⟨hr0, hN0⟩)
  have h3 : 0 < Rl.length := List.length_pos_of_mem ((memRl r0).2 ⟨hr0, hN0⟩)
  have hall : ∀ r ∈ S, ∀ k, k < m → g r k = true → C k := fun r hr => Classical.byContradiction fun hno => by
    obtain ⟨f, hf⟩ := hone r hr
    have hsub : ∀ x ∈ Rl, x ∈ S.erase r := fun x hx => (mem_erase hS).2 ⟨fun e => hno (e ▸ ((memRl x).1 hx).2), ((memRl x).1 hx).1⟩
    have : Rl.length ≤ Cl.length := map_le (f := f) hRn (fun x hx y hy e => (hf y (hsub y hy)).2.2 x (hsub x hx) e) (fun x hx => (memCl _).2 ⟨(hf x (hsub x hx)).1, ((memRl x).1 hx).2 _ (hf x (hsub x hx)).1 (hf x (hsub x hx)).2.1⟩)
    omega
  have h4 : near g m S ≤ Cl.length := length_le_of_nodup _ _ (nodup_nearC g m S) (fun k hk => by
    obtain ⟨hk, r, hr, hg⟩ := mem_nearC.1 hk
    exact (memCl k).2 ⟨hk, hall r hr k hk hg⟩)
  have h5 : Rl.length ≤ S.length := List.length_filter_le _ _
  obtain ⟨f, hf⟩ := hone r0 hr0
  have h6 := mat_near (S := S) (erase_nodup hS r0) (fun x hx => ((mem_erase hS).1 hx).2) hf
  rw [List.length_erase_of_mem hr0] at h6
  omega
/-- The rows that the program leaves: each row without which the others still have too few columns is struck. -/
def hallF (g : Nat → Nat → Bool) (m : Nat) : List Nat → List Nat → List Nat
  | [], S => S
  | r :: rs, S => if kuhn g m (S.erase r) < (S.erase r).length then hallF g m rs (S.erase r) else hallF g m rs S
theorem hallF_ok (g : Nat → Nat → Bool) (m n : Nat) : ∀ (rs : List Nat) (S : List Nat), rs.Nodup → S.Sublist (List.range n) → (∀ r ∈ rs, r ∈ S) → kuhn g m S < S.length → (∀ r ∈ S, r ∈ rs ∨ ∃ f, Mat g m (S.erase r) f) →
    (hallF g m rs S).Sublist (List.range n) ∧ kuhn g m (hallF g m rs S) < (hallF g m rs S).length ∧ ∀ r ∈ hallF g m rs S, ∃ f, Mat g m ((hallF g m rs S).erase r) f := by
  intro rs
  induction rs with
  | nil => intro S _ hs _ hk ho; exact ⟨hs, hk, fun r hr => (ho r hr).elim (fun h => by simp at h) id⟩
  | cons a rs ih =>
    intro S hrs hs hm hk ho
    have hS : S.Nodup := (nodup_range n).sublist hs
    have ha := List.nodup_cons.1 hrs
    rw [hallF]
    split
    · rename_i hlt
      refine ih _ ha.2 ((List.erase_sublist).trans hs) (fun r hr => (mem_erase hS).2 ⟨fun e => ha.1 (e ▸ hr), hm r (by simp [hr])⟩) hlt (fun r hr => ?_)
      have hr' := (mem_erase hS).1 hr
      rcases ho r hr'.2 with h | ⟨f, hf⟩
      · rcases List.mem_cons.1 h with h | h
        · exact absurd h hr'.1
        · exact .inl h
      · exact .inr ⟨f, hf.sub fun x hx => by
          have hx := (mem_erase (erase_nodup hS a)).1 hx
          exact (mem_erase hS).2 ⟨hx.1, ((mem_erase hS).1 hx.2).2⟩⟩
    · rename_i hge
      refine ih _ ha.2 hs (fun r hr => hm r (by simp [hr])) hk (fun r hr => ?_)
      rcases ho r hr with h | h
      · rcases List.mem_cons.1 h with h | h
        · subst h
          have hle := kuhn_le g m _ (erase_nodup hS r)
          exact .inr ((kuhn_full g m _ (erase_nodup hS r)).1 (by omega))
        · exact .inl h
      · exact .inr h
/-- THE HALL SET: rows that rise, one column too few, none of it can be spared. -/
theorem hall_all (g : Nat → Nat → Bool) (m n : Nat) (h : kuhn g m (List.range n) ≠ n) : (hallF g m (List.range n) (List.range n)).Sublist (List.range n) ∧
    near g m (hallF g m (List.range n) (List.range n)) + 1 = (hallF g m (List.range n) (List.range n)).length ∧
    ∀ r ∈ hallF g m (List.range n) (List.range n), kuhn g m ((hallF g m (List.range n) (List.range n)).erase r) = ((hallF g m (List.range n) (List.range n)).erase r).length := by
  have hle := kuhn_le g m _ (nodup_range n)
  rw [List.length_range] at hle
  obtain ⟨h1, h2, h3⟩ := hallF_ok g m n (List.range n) (List.range n) (nodup_range n) (List.Sublist.refl _) (fun _ h => h) (by rw [List.length_range]; omega) (fun r hr => .inl hr)
  have hn := (nodup_range n).sublist h1
  exact ⟨h1, hall_near g m _ hn h2 h3, fun r hr => (kuhn_full g m _ (erase_nodup hn r)).2 (h3 r hr)⟩
/-! ### König -/
theorem cover_ge (g : Nat → Nat → Bool) (m : Nat) (rows A S : List Nat) (hr : rows.Nodup) (hAS : ∀ r ∈ rows, r ∈ A ∨ r ∈ S) : kuhn g m rows ≤ A.length + near g m S := by
  obtain ⟨T, f, h1, h2, h3, h4⟩ := kuhn_mat g m rows hr
  rw [← h3, ← filter_split (fun r => decide (r ∈ A)) T]
  have a1 : (T.filter fun r => decide (r ∈ A)).length ≤ A.length := length_le_of_nodup _ _ (h1.filter _) (fun x hx => by simpa using (List.mem_filter.1 hx).2)
  have a2 : (T.filter fun r => !decide (r ∈ A)).length ≤ near g m S := mat_near (f := f) (h1.filter _) (fun x hx => by
    have hx := List.mem_filter.1 hx
    rcases hAS x (h2 x hx.1) with h | h
    · simp [h] at hx
    · exact h) (h4.sub fun x hx => (List.mem_filter.1 hx).1)
  omega
theorem cover_eq (g : Nat → Nat → Bool) (m : Nat) (rows : List Nat) (hr : rows.Nodup) : ∃ p : Nat → Bool, (rows.filter p).length + near g m (rows.filter fun r => !p r) ≤ kuhn g m rows := by
  classical
  obtain ⟨of, C, hc⟩ := kuhn_cert g m rows hr
  refine ⟨fun r => decide (¬ ∀ k, k < m → g r k = true → C k), ?_⟩
  have e : kuhn g m rows = (hadC m of).length := by rw [hadC_len hc.len, hc.num]
  rw [e, ← filter_split (fun k => decide (C k)) (hadC m of)]
  have a1 : (rows.filter fun r => decide (¬ ∀ k, k < m → g r k = true → C k)).length ≤ ((hadC m of).filter fun k => !decide (C k)).length := by
    have key : ∀ r, r ∈ rows.filter (fun r => decide (¬ ∀ k, k < m → g r k = true → C k)) → r ∈ rows ∧ 0 < cn r of ∧ ¬ C (colOf m of r) := fun r hx => by
      obtain ⟨h1, h2⟩ := List.mem_filter.1 hx
      have h2 : ¬ ∀ k, k < m → g r k = true → C k := by simpa using h2
      have h3 : 0 < cn r of := (hc.all r h1).resolve_right h2
      have hs := colOf_spec hc h3
      refine ⟨h1, h3, fun hC => h2 fun k hk hg => ?_⟩
      have := (hc.clo _ hC).2.2 k hk
      rw [hs.2, Int.toNat_natCast] at this
      exact this hg
    refine map_le (f := colOf m of) (hr.filter _) (fun x hx y hy e => ?_) (fun r hx => ?_)
    · have hx := key x hx
      have hy := key y hy
      exact (hc.mat y (mem_hadR.2 ⟨hy.1, hy.2.1⟩)).2.2 x (mem_hadR.2 ⟨hx.1, hx.2.1⟩) e
    · obtain ⟨h1, h2, h3⟩ := key r hx
      have hs := colOf_spec hc h2
      exact List.mem_filter.2 ⟨mem_hadC.2 ⟨hs.1, by rw [hs.2]; omega⟩, by simp [h3]⟩
  have a2 : near g m (rows.filter fun r => !decide (¬ ∀ k, k < m → g r k = true → C k)) ≤ ((hadC m of).filter fun k => decide (C k)).length := by
    refine length_le_of_nodup _ _ (nodup_nearC g m _) (fun k hk => ?_)
    obtain ⟨hk, r, hr, hg⟩ := mem_nearC.1 hk
    obtain ⟨h1, h2⟩ := List.mem_filter.1 hr
    have h2 : ∀ k, k < m → g r k = true → C k := by simpa using h2
    have hC := h2 k hk hg
    exact List.mem_filter.2 ⟨mem_hadC.2 ⟨hk, (hc.clo k hC).2.1⟩, by simp [hC]⟩
  exact Nat.le_trans (Nat.add_le_add a1 a2) (by omega)
end
section
def sumN (f : Nat → Int) : Nat → Int
  | 0 => 0
  | n + 1 => sumN f n + f n
theorem sumN_congr {f g : Nat → Int} : ∀ m, (∀ i, i < m → f i = g i) → sumN f m = sumN g m
  | 0, _ => rfl
  | m + 1, h => by rw [sumN, sumN, sumN_congr m (fun i hi => h i (by omega)), h m (by omega)]
theorem sumN_add (f g : Nat → Int) : ∀ m, sumN (fun i => f i + g i) m = sumN f m + sumN g m
  | 0 => rfl
  | m + 1 => by rw [sumN, sumN, sumN, sumN_add f g m]; omega
theorem sumN_zero : ∀ m, sumN (fun _ => 0) m = 0
  | 0 => rfl
  | m + 1 => by rw [sumN, sumN_zero m]; rfl
theorem sumN_one (j : Nat) (x : Int) : ∀ m, sumN (fun i => if i = j then x else 0) m = if j < m then x else 0
  | 0 => by simp [sumN]
  | m + 1 => by
    rw [sumN, sumN_one j x m]
    by_cases h1 : j < m
    · rw [if_pos h1, if_neg (by omega), if_pos (by omega)]; omega
    · by_cases h2 : m = j
      · subst h2; rw [if_neg h1, if_pos rfl, if_pos (by omega)]; omega
      · rw [if_neg h1, if_neg h2, if_neg (by omega)]; rfl
theorem sumN_le {f g : Nat → Int} : ∀ m, (∀ i, i < m → f i ≤ g i) → sumN f m ≤ sumN g m
  | 0, _ => Int.le_refl _
  | m + 1, h => by
    have := sumN_le m (fun i hi => h i (by omega))
    have := h m (by omega)
    rw [sumN, sumN]; omega
theorem sumN_eq_of_le {f g : Nat → Int} : ∀ m, (∀ i, i < m → f i ≤ g i) → sumN f m = sumN g m → ∀ i, i < m → f i = g i
  | 0, _, _, i, hi => by omega
  | m + 1, h, e, i, hi => by
    have h1 := sumN_le m (fun i hi => h i (by omega))
    have h2 := h m (by omega)
    rw [sumN, sumN] at e
    by_cases hm : i = m
    · subst hm; omega
    · exact sumN_eq_of_le m (fun i hi => h i (by omega)) (by omega) i (by omega)
theorem sumN_bd {f : Nat → Int} {M : Int} : ∀ m : Nat, (∀ i, i < m → 0 ≤ f i ∧ f i ≤ M) → 0 ≤ sumN f m ∧ sumN f m ≤ M * m
  | 0, _ => by simp [sumN]
  | m + 1, h => by
    have h1 := sumN_bd m (fun i hi => h i (by omega))
    have h2 := h m (by omega)
    have e : M * ((m + 1 : Nat) : Int) = M * m + M := by rw [Int.natCast_add, Int.mul_add]; simp
    rw [sumN, e]; omega
/-- A sum over a list without repetitions, and over the rest. -/
theorem sumN_list (f : Nat → Int) (m : Nat) : ∀ l : List Nat, l.Nodup → (∀ j ∈ l, j < m) → sumN f m = (l.map f).sum + sumN (fun j => if j ∈ l then 0 else f j) m := by
  intro l
  induction l with
  | nil => intro _ _; simp
  | cons a r ih =>
    intro hn hm
    have ha := List.nodup_cons.1 hn
    rw [ih ha.2 (fun j hj => hm j (by simp [hj]))]
    have e : sumN (fun j => if j ∈ r then 0 else f j) m = sumN (fun j => (if j ∈ a :: r then 0 else f j) + if j = a then f a else 0) m := by
      refine sumN_congr m (fun j _ => ?_)
      by_cases h1 : j = a
      · subst h1; simp [ha.1]
      · simp [h1]
    rw [e, sumN_add, sumN_one, if_pos (hm a (by simp)), List.map_cons, List.sum_cons]
    omega
theorem sumN_range (f : Nat → Int) (m : Nat) : sumN f m = ((List.range m).map f).sum := by
  rw [sumN_list f m (List.range m) List.nodup_range (fun j hj => List.mem_range.1 hj), sumN_congr (g := fun _ => 0) m (fun i hi => by rw [if_pos (List.mem_range.2 hi)]), sumN_zero]
  omega
theorem sumN_map (f : Nat → Int) (l : List Nat) : (l.map f).sum = sumN (fun i => f (l.getD i 0)) l.length := by
  rw [sumN_range]
  congr 1
  apply List.ext_getElem
  · simp
  · intro i h1 h2
    have : i < l.length := by simpa using h1
    simp [this]
end
section
def ct (T : List (List Int)) (i j : Nat) : Int := (T.getD i []).getD j (-1)
def gT (T : List (List Int)) (i j : Nat) : Bool := decide (0 ≤ ct T i j)
/-- An assignment: every row a column that it may have, no column twice. -/
structure Asg (T : List (List Int)) (m : Nat) (to : List Nat) : Prop where
  len : to.length = T.length
  nd : to.Nodup
  ok : ∀ i, i < T.length → to.getD i 0 < m ∧ 0 ≤ ct T i (to.getD i 0)
def costA (T : List (List Int)) (to : List Nat) : Int := sumN (fun i => ct T i (to.getD i 0)) T.length
/-- Lexicographically at most. -/
def lexLe (a b : List Nat) : Prop := a = b ∨ ∃ i, i < a.length ∧ i < b.length ∧ a.take i = b.take i ∧ a.getD i 0 < b.getD i 0
theorem lexLe.refl (a : List Nat) : lexLe a a := .inl rfl
theorem take_getD {a b : List Nat} {i j : Nat} (h : a.take i = b.take i) (hj : j < i) : a.getD j 0 = b.getD j 0 := by
  have h1 : (a.take i)[j]? = (b.take i)[j]? := by rw [h]
  rw [List.getElem?_take_of_lt hj, List.getElem?_take_of_lt hj] at h1
  rw [List.getD_eq_getElem?_getD, List.getD_eq_getElem?_getD, h1]
theorem lexLe.antisymm {a b : List Nat} (h1 : lexLe a b) (h2 : lexLe b a) : a = b := by
  rcases h1 with h1 | ⟨i, a1, a2, a3, a4⟩
  · exact h1
  · rcases h2 with h2 | ⟨j, b1, b2, b3, b4⟩
    · exact h2.symm
    · exfalso
      rcases Nat.lt_trichotomy i j with h | h | h
      · have := take_getD b3 h; omega
      · subst h; omega
      · have := take_getD a3 h; omega
/-- THE CHEAPEST ASSIGNMENT, of several the lexicographically least one. -/
structure IsBest (T : List (List Int)) (m : Nat) (to : List Nat) (c : Int) : Prop where
  asg : Asg T m to
  cost : costA T to = c
  least : ∀ to', Asg T m to' → c < costA T to' ∨ (c = costA T to' ∧ lexLe to to')
theorem IsBest.unique {T : List (List Int)} {m : Nat} {a b : List Nat} {c d : Int} (h1 : IsBest T m a c) (h2 : IsBest T m b d) : a = b ∧ c = d := by
  have e1 := h1.least b h2.asg
  have e2 := h2.least a h1.asg
  rw [h2.cost] at e1
  rw [h1.cost] at e2
  rcases e1 with e1 | ⟨e1, l1⟩ <;> rcases e2 with e2 | ⟨e2, l2⟩
  · omega
  · omega
  · omega
  · exact ⟨l1.antisymm l2, e1⟩
theorem IsBest.le {T : List (List Int)} {m : Nat} {a b : List Nat} {c : Int} (h : IsBest T m a c) (hb : Asg T m b) : c ≤ costA T b := by
  rcases h.least b hb with h | ⟨h, _⟩ <;> omega
theorem nodup_inj {l : List Nat} (h : l.Nodup) {i j : Nat} (hi : i < l.length) (hj : j < l.length) (e : l[i] = l[j]) : i = j := by
  have hp := List.pairwise_iff_getElem.1 h
  rcases Nat.lt_trichotomy i j with hlt | heq | hlt
  · exact absurd e (hp i j hi hj hlt)
  · exact heq
  · exact absurd e.symm (hp j i hj hi hlt)
/-- There is an assignment exactly if all rows can have columns at the same time. -/
theorem asg_iff (T : List (List Int)) (m : Nat) : (∃ to, Asg T m to) ↔ kuhn (gT T) m (List.range T.length) = T.length := by
  have hk := kuhn_full (gT T) m (List.range T.length) (nodup_range _)
  rw [List.length_range] at hk
  rw [hk]
  constructor
  · rintro ⟨to, h⟩
    refine ⟨fun i => to.getD i 0, fun r hr => ?_⟩
    have hr := List.mem_range.1 hr
    refine ⟨(h.ok r hr).1, decide_eq_true (h.ok r hr).2, fun q hq e => ?_⟩
    have hq := List.mem_range.1 hq
    have hl := h.len
    replace e : to.getD q 0 = to.getD r 0 := e
    rw [getD_get _ _ _ (by omega), getD_get _ _ _ (by omega)] at e
    exact nodup_inj h.nd _ _ e
  · rintro ⟨f, hf⟩
    refine ⟨(List.range T.length).map f, by simp, nodup_map (nodup_range _) (fun x hx y hy e => (hf y hy).2.2 x hx e), fun i hi => ?_⟩
    have := hf i (List.mem_range.2 hi)
    have e : ((List.range T.length).map f).getD i 0 = f i := by rw [getD_get _ _ _ (by simpa using hi)]; simp
    rw [e]
    exact ⟨this.1, by simpa [gT] using this.2.1⟩

/-! ### prices -/
/-- Prices that are allowed: none of a column above 0, and never above a cost. -/
structure Duals (T : List (List Int)) (m : Nat) (u v : Nat → Int) : Prop where
  neg : ∀ j, j < m → v j ≤ 0
  feas : ∀ i, i < T.length → ∀ j, j < m → 0 ≤ ct T i j → u i + v j ≤ ct T i j
def dual (T : List (List Int)) (m : Nat) (u v : Nat → Int) : Int := sumN u T.length + sumN v m
/-- An assignment of tight costs that uses each column whose price is below 0. -/
structure Opt (T : List (List Int)) (m : Nat) (u v : Nat → Int) (to : List Nat) : Prop where
  len : to.length = T.length
  nd : to.Nodup
  ok : ∀ i, i < T.length → to.getD i 0 < m ∧ 0 ≤ ct T i (to.getD i 0) ∧ u i + v (to.getD i 0) = ct T i (to.getD i 0)
  used : ∀ j, j < m → v j < 0 → j ∈ to
theorem Opt.asg {T : List (List Int)} {m : Nat} {u v : Nat → Int} {to : List Nat} (h : Opt T m u v to) : Asg T m to := ⟨h.len, h.nd, fun i hi => ⟨(h.ok i hi).1, (h.ok i hi).2.1⟩⟩
theorem mem_getD {to : List Nat} {j : Nat} (h : j ∈ to) : ∃ i, i < to.length ∧ to.getD i 0 = j := by
  obtain ⟨i, hi, e⟩ := List.mem_iff_getElem.1 h
  exact ⟨i, hi, by rw [getD_get _ _ _ hi]; exact e⟩
theorem Asg.lt {T : List (List Int)} {m : Nat} {to : List Nat} (h : Asg T m to) : ∀ j ∈ to, j < m := fun j hj => by
  obtain ⟨i, hi, e⟩ := mem_getD hj
  rw [← e]; exact (h.ok i (by rw [← h.len]; exact hi)).1
theorem dual_split (T : List (List Int)) (m : Nat) (u v : Nat → Int) (to : List Nat) (h : Asg T m to) : dual T m u v = sumN (fun i => u i + v (to.getD i 0)) T.length + sumN (fun j => if j ∈ to then 0 else v j) m := by
  unfold dual
  rw [sumN_list v m to h.nd h.lt, sumN_map, h.len, sumN_add]
  omega
theorem dual_le {T : List (List Int)} {m : Nat} {u v : Nat → Int} (hd : Duals T m u v) {to : List Nat} (h : Asg T m to) : dual T m u v ≤ costA T to := by
  rw [dual_split T m u v to h]
  have h1 : sumN (fun i => u i + v (to.getD i 0)) T.length ≤ costA T to := sumN_le _ (fun i hi => hd.feas i hi _ (h.ok i hi).1 (h.ok i hi).2)
  have h2 : sumN (fun j => if j ∈ to then 0 else v j) m ≤ sumN (fun _ => 0) m := sumN_le _ (fun j hj => by
    by_cases hm : j ∈ to
    · rw [if_pos hm]; exact Int.le_refl _
    · rw [if_neg hm]; exact hd.neg j hj)
  rw [sumN_zero] at h2
  omega
theorem dual_eq {T : List (List Int)} {m : Nat} {u v : Nat → Int} {to : List Nat} (h : Opt T m u v to) (hd : Duals T m u v) : costA T to = dual T m u v := by
  rw [dual_split T m u v to h.asg]
  have h1 : costA T to = sumN (fun i => u i + v (to.getD i 0)) T.length := sumN_congr _ (fun i hi => (h.ok i hi).2.2.symm)
  have h2 : sumN (fun j => if j ∈ to then 0 else v j) m = sumN (fun _ => 0) m := sumN_congr _ (fun j hj => by
    by_cases hm : j ∈ to
    · rw [if_pos hm]
    · rw [if_neg hm]
      have := hd.neg j hj
      by_cases hv : v j < 0
      · exact absurd (h.used j hj hv) hm
      · omega)
  rw [sumN_zero] at h2
  omega
theorem opt_of_cost {T : List (List Int)} {m : Nat} {u v : Nat → Int} (hd : Duals T m u v) {to : List Nat} (h : Asg T m to) (hc : costA T to = dual T m u v) : Opt T m u v to := by
  rw [dual_split T m u v to h] at hc
  have l1 : ∀ i, i < T.length → u i + v (to.getD i 0) ≤ ct T i (to.getD i 0) := fun i hi => hd.feas i hi _ (h.ok i hi).1 (h.ok i hi).2
  have l2 : ∀ j, j < m → (if j ∈ to then 0 else v j) ≤ (0 : Int) := fun j hj => by
    by_cases hm : j ∈ to
    · rw [if_pos hm]; exact Int.le_refl _
    · rw [if_neg hm]; exact hd.neg j hj
  have h1 := sumN_le T.length l1
  have h2 := sumN_le (g := fun _ => 0) m l2
  rw [sumN_zero] at h2
  have e1 : sumN (fun i => u i + v (to.getD i 0)) T.length = sumN (fun i => ct T i (to.getD i 0)) T.length := by unfold costA at hc; omega
  have e2 : sumN (fun j => if j ∈ to then 0 else v j) m = sumN (fun _ => 0) m := by rw [sumN_zero]; unfold costA at hc; omega
  refine ⟨h.len, h.nd, fun i hi => ⟨(h.ok i hi).1, (h.ok i hi).2, sumN_eq_of_le _ l1 e1 i hi⟩, fun j hj hv => ?_⟩
  have := sumN_eq_of_le (g := fun _ => 0) m l2 e2 j hj
  by_cases hm : j ∈ to
  · exact hm
  · rw [if_neg hm] at this; omega
/-- The best one, by prices: of those that the prices prove the lexicographically least. -/
theorem best_of_opt {T : List (List Int)} {m : Nat} {u v : Nat → Int} (hd : Duals T m u v) {to : List Nat} (h : Opt T m u v to) (hl : ∀ to', Opt T m u v to' → lexLe to to') : IsBest T m to (dual T m u v) :=
  ⟨h.asg, dual_eq h hd, fun to' h' => by
    have := dual_le hd h'
    by_cases e : costA T to' = dual T m u v
    · exact .inr ⟨e.symm, hl to' (opt_of_cost hd h' e)⟩
    · exact .inl (by omega)⟩
end
section
def agree (h f : Nat → Nat) (T : List Nat) : Nat := (T.filter fun t => f (h t) == t).length
theorem agree_le (h f : Nat → Nat) (T : List Nat) : agree h f T ≤ T.length := List.length_filter_le _ _
theorem agree_more {h f : Nat → Nat} {T : List Nat} (hT : T.Nodup) (hinj : ∀ x ∈ T, ∀ y ∈ T, h x = h y → x = y) {t : Nat} (ht : t ∈ T) (hne : f (h t) ≠ t) : agree h f T + 1 ≤ agree h (fun a => if a = h t then t else f a) T := by
  have h1 : ((T.filter fun t => f (h t) == t) ++ [t]).length ≤ (T.filter fun s => (fun a => if a = h t then t else f a) (h s) == s).length := by
    refine length_le_of_nodup _ _ ?_ (fun x hx => ?_)
    · rw [List.nodup_append]
      refine ⟨hT.filter _, by simp, fun a ha b hb e => ?_⟩
      simp at hb
      rw [e, hb] at ha
      have := (List.mem_filter.1 ha).2
      exact hne (by simpa using this)
    · rcases List.mem_append.1 hx with hx | hx
      · obtain ⟨hx, hfx⟩ := List.mem_filter.1 hx
        refine List.mem_filter.2 ⟨hx, ?_⟩
        have hfx : f (h x) = x := by simpa using hfx
        by_cases e : h x = h t
        · have := hinj x hx t ht e
          subst this
          simp
        · simp [e, hfx]
      · simp at hx
        subst hx
        exact List.mem_filter.2 ⟨ht, by simp⟩
  simpa [agree] using h1
/-- TWO MATCHINGS JOINED: if all rows of A can have columns, and all columns of T can have rows of A, then all at the same time. -/
theorem md_join (g : Nat → Nat → Bool) (m : Nat) (A T : List Nat) (hT : T.Nodup) (hTm : ∀ t ∈ T, t < m) (h : Nat → Nat) (hh : ∀ t ∈ T, h t ∈ A ∧ g (h t) t = true ∧ ∀ s ∈ T, h s = h t → s = t) :
    ∀ (k : Nat) (f : Nat → Nat), Mat g m A f → T.length ≤ agree h f T + k → ∃ f', Mat g m A f' ∧ ∀ t ∈ T, ∃ a ∈ A, f' a = t := by
  intro k
  induction k with
  | zero =>
    intro f hf hk
    refine ⟨f, hf, fun t ht => ?_⟩
    have hall : ∀ t ∈ T, t ∈ T.filter fun t => f (h t) == t := mem_of_full (hT.filter _) (fun r hr => (List.mem_filter.1 hr).1) (by simpa [agree] using hk)
    have := (List.mem_filter.1 (hall t ht)).2
    exact ⟨h t, (hh t ht).1, by simpa using this⟩
  | succ k ih =>
    intro f hf hk
    by_cases hall : ∀ t ∈ T, ∃ a ∈ A, f a = t
    · exact ⟨f, hf, hall⟩
    · obtain ⟨t, ht, hno⟩ : ∃ t ∈ T, ¬ ∃ a ∈ A, f a = t := Classical.byContradiction fun hn => hall fun t ht => Classical.byContradiction fun h => hn ⟨t, ht, h⟩
      have hne : ∀ a ∈ A, f a ≠ t := fun a ha e => hno ⟨a, ha, e⟩
      have hm := agree_more (f := f) hT (fun x hx y hy e => (hh y hy).2.2 x hx e) ht (hne (h t) (hh t ht).1)
      obtain ⟨w, hw⟩ : ∃ w : Nat → Nat, w = fun a => if a = h t then t else f a := ⟨_, rfl⟩
      rw [← hw] at hm
      have w1 : w (h t) = t := by rw [hw]; exact if_pos rfl
      have w2 : ∀ a, a ≠ h t → w a = f a := fun a ha => by rw [hw]; exact if_neg ha
      refine ih w (fun r hr => ?_) (by omega)
      by_cases e : r = h t
      · subst e
        rw [w1]
        refine ⟨hTm t ht, (hh t ht).2.1, fun q hq e' => ?_⟩
        by_cases e2 : q = h t
        · exact e2
        · rw [w2 q e2] at e'
          exact absurd e' (hne q hq)
      · rw [w2 r e]
        refine ⟨(hf r hr).1, (hf r hr).2.1, fun q hq e' => ?_⟩
        by_cases e2 : q = h t
        · rw [e2, w1] at e'
          exact absurd e'.symm (hne r hr)
        · rw [w2 q e2] at e'
          exact (hf r hr).2.2 q hq e'

/-! ### row by row -/
def tightB (T : List (List Int)) (u v : Nat → Int) (i j : Nat) : Bool := decide (0 ≤ ct T i j) && (u i + v j == ct T i j)
def tightF (T : List (List Int)) (u v : Nat → Int) (taken : List Bool) (i j : Nat) : Bool := !(taken.getD j false) && tightB T u v i j
/-- The columns that must be had still. -/
def mustF (m : Nat) (v : Nat → Int) (taken : List Bool) : List Nat := (List.range m).filter fun j => !(taken.getD j false) && decide (v j < 0)
def completesB (T : List (List Int)) (m : Nat) (u v : Nat → Int) (fr : Nat) (taken : List Bool) : Bool :=
  decide (kuhn (tightF T u v taken) m ((List.range T.length).drop fr) = ((List.range T.length).drop fr).length) && decide (kuhn (fun j i => decide (fr ≤ i) && tightF T u v taken i j) T.length (mustF m v taken) = (mustF m v taken).length)
theorem mem_drop_range {n k i : Nat} : i ∈ (List.range n).drop k ↔ k ≤ i ∧ i < n := by
  rw [List.mem_drop_iff_getElem]
  constructor
  · rintro ⟨j, hj, e⟩; simp at e hj; omega
  · rintro ⟨h1, h2⟩; exact ⟨i - k, by simp; omega, by simp; omega⟩
theorem nodup_drop (n k : Nat) : ((List.range n).drop k).Nodup := (nodup_range n).sublist (List.drop_sublist k _)
theorem nodup_must (m : Nat) (v : Nat → Int) (taken : List Bool) : (mustF m v taken).Nodup := (nodup_range m).filter _
theorem mem_must {m j : Nat} {v : Nat → Int} {taken : List Bool} : j ∈ mustF m v taken ↔ j < m ∧ taken.getD j false = false ∧ v j < 0 := by simp [mustF]
/-- It completes exactly if the rows from fr on can have tight columns that are not taken, with each column among them that must be had. -/
theorem completes_iff (T : List (List Int)) (m : Nat) (u v : Nat → Int) (fr : Nat) (taken : List Bool) :
    completesB T m u v fr taken = true ↔ ∃ f, Mat (tightF T u v taken) m ((List.range T.length).drop fr) f ∧ ∀ j ∈ mustF m v taken, ∃ i ∈ (List.range T.length).drop fr, f i = j := by
  unfold completesB
  rw [Bool.and_eq_true, decide_eq_true_eq, decide_eq_true_eq, kuhn_full _ _ _ (nodup_drop _ _), kuhn_full _ _ _ (nodup_must _ _ _)]
  constructor
  · rintro ⟨⟨f, hf⟩, h, hh⟩
    refine md_join (tightF T u v taken) m _ (mustF m v taken) (nodup_must _ _ _) (fun t ht => (mem_must.1 ht).1) h (fun t ht => ?_) (mustF m v taken).length f hf (by omega)
    obtain ⟨h1, h2, h3⟩ := hh t ht
    simp only [Bool.and_eq_true, decide_eq_true_eq] at h2
    exact ⟨mem_drop_range.2 ⟨h2.1, h1⟩, h2.2, h3⟩
  · rintro ⟨f, hf, hm⟩
    refine ⟨⟨f, hf⟩, ?_⟩
    have hx : ∀ t, ∃ i, t ∈ mustF m v taken → i ∈ (List.range T.length).drop fr ∧ f i = t := fun t => by
      by_cases h : t ∈ mustF m v taken
      · obtain ⟨i, h1, h2⟩ := hm t h; exact ⟨i, fun _ => ⟨h1, h2⟩⟩
      · exact ⟨0, fun h' => absurd h' h⟩
    obtain ⟨w, hw⟩ := Classical.skolem.1 hx
    refine ⟨w, fun t ht => ?_⟩
    obtain ⟨h1, h2⟩ := hw t ht
    have := hf (w t) h1
    rw [h2] at this
    refine ⟨(mem_drop_range.1 h1).2, by simp [(mem_drop_range.1 h1).1, this.2.1], fun q hq e' => ?_⟩
    obtain ⟨h3, h4⟩ := hw q hq
    rw [← h2, ← h4, e']
def takenOf (m : Nat) (p : List Nat) : List Bool := p.foldl (fun t c => t.set c true) (List.replicate m false)
theorem takenOf_snoc (m : Nat) (p : List Nat) (c : Nat) : takenOf m (p ++ [c]) = (takenOf m p).set c true := by simp [takenOf]
theorem takenOf_len (m : Nat) (p : List Nat) : (takenOf m p).length = m := by
  unfold takenOf
  suffices H : ∀ (l : List Bool), l.length = m → (p.foldl (fun t c => t.set c true) l).length = m from H _ (by simp)
  induction p with
  | nil => intro l h; simpa using h
  | cons a r ih => intro l h; exact ih _ (by simpa using h)
theorem takenOf_get {m : Nat} {p : List Nat} {j : Nat} (hj : j < m) : (takenOf m p).getD j false = true ↔ j ∈ p := by
  unfold takenOf
  suffices H : ∀ (l : List Bool), l.length = m → ((p.foldl (fun t c => t.set c true) l).getD j false = true ↔ (l.getD j false = true ∨ j ∈ p)) by
    rw [H _ (by simp)]
    constructor
    · rintro (h | h)
      · exact absurd h fresh_false
      · exact h
    · exact .inr
  induction p with
  | nil => intro l _; simp
  | cons a r ih =>
    intro l hl
    rw [List.foldl_cons, ih _ (by simpa using hl)]
    by_cases e : a = j
    · subst e; rw [getD_set_eq _ _ _ _ (by omega)]; simp
    · rw [getD_set_ne _ _ _ _ _ e]
      have : ¬ j = a := fun h => e h.symm
      simp [this]
/-- An assignment that the prices prove and that begins with p exists exactly if p is fit and it completes. -/
theorem ext_iff {T : List (List Int)} {m : Nat} {u v : Nat → Int} {p : List Nat} (hp : p.length ≤ T.length) (hn : p.Nodup) (ht : ∀ i, i < p.length → p.getD i 0 < m ∧ tightB T u v i (p.getD i 0) = true) :
    completesB T m u v p.length (takenOf m p) = true ↔ ∃ to, Opt T m u v to ∧ to.take p.length = p := by
  rw [completes_iff]
  constructor
  · rintro ⟨f, hf, hm⟩
    have hfree : ∀ i, p.length ≤ i → i < T.length → f i ∉ p := fun i h1 h2 hx => by
      have h3 := hf i (mem_drop_range.2 ⟨h1, h2⟩)
      have := h3.2.1
      unfold tightF at this
      rw [(takenOf_get h3.1).2 hx] at this
      simp at this
    have hget : ∀ i, i < T.length → (p ++ ((List.range T.length).drop p.length).map f).getD i 0 = if i < p.length then p.getD i 0 else f i := fun i hi => by
      by_cases h : i < p.length
      · rw [if_pos h, List.getD_eq_getElem?_getD, List.getElem?_append_left h, ← List.getD_eq_getElem?_getD]
      · rw [if_neg h, List.getD_eq_getElem?_getD, List.getElem?_append_right (by omega)]
        have e : p.length + (i - p.length) = i := by omega
        simp [List.getElem?_drop, e, hi]
    refine ⟨p ++ ((List.range T.length).drop p.length).map f, ⟨by simp; omega, ?_, fun i hi => ?_, fun j hj hv => ?_⟩, by simp⟩
    · rw [List.nodup_append]
      refine ⟨hn, nodup_map (nodup_drop _ _) (fun x hx y hy e => (hf y hy).2.2 x hx e), fun a ha b hb e => ?_⟩
      obtain ⟨i, hi, rfl⟩ := List.mem_map.1 hb
      have hi := mem_drop_range.1 hi
      exact hfree i hi.1 hi.2 (e ▸ ha)
    · rw [hget i hi]
      by_cases h : i < p.length
      · rw [if_pos h]
        have := ht i h
        unfold tightB at this
        simp only [Bool.and_eq_true, decide_eq_true_eq, beq_iff_eq] at this
        exact ⟨this.1, this.2.1, this.2.2⟩
      · rw [if_neg h]
        have := hf i (mem_drop_range.2 ⟨by omega, hi⟩)
        have h2 := this.2.1
        unfold tightF tightB at h2
        simp only [Bool.and_eq_true, decide_eq_true_eq, beq_iff_eq] at h2
        exact ⟨this.1, h2.2.1, h2.2.2⟩
    · by_cases hjp : j ∈ p
      · exact List.mem_append_left _ hjp
      · have hnt : (takenOf m p).getD j false = false := by
          cases h : (takenOf m p).getD j false
          · rfl
          · exact absurd ((takenOf_get hj).1 h) hjp
        obtain ⟨i, hi, e⟩ := hm j (mem_must.2 ⟨hj, hnt, hv⟩)
        exact List.mem_append_right _ (List.mem_map.2 ⟨i, hi, e⟩)
  · rintro ⟨to, ho, htk⟩
    have hget : ∀ i, i < p.length → to.getD i 0 = p.getD i 0 := fun i hi => by
      rw [← htk, List.getD_eq_getElem?_getD, List.getD_eq_getElem?_getD, List.getElem?_take_of_lt hi]
    have hl := ho.len
    have hin : ∀ i j, i < T.length → j < T.length → to.getD i 0 = to.getD j 0 → i = j := fun i j hi hj e => by
      rw [getD_get _ _ _ (by omega), getD_get _ _ _ (by omega)] at e
      exact nodup_inj ho.nd _ _ e
    refine ⟨fun i => to.getD i 0, fun r hr => ?_, fun j hj => ?_⟩
    · have hr := mem_drop_range.1 hr
      obtain ⟨h1, h2, h3⟩ := ho.ok r hr.2
      refine ⟨h1, ?_, fun q hq e => hin q r (mem_drop_range.1 hq).2 hr.2 e⟩
      have hnt : (takenOf m p).getD (to.getD r 0) false = false := by
        cases h : (takenOf m p).getD (to.getD r 0) false
        · rfl
        · obtain ⟨i, hi, e⟩ := mem_getD ((takenOf_get h1).1 h)
          rw [← hget i hi] at e
          have := hin i r (by omega) hr.2 e
          omega
      show tightF T u v (takenOf m p) r (to.getD r 0) = true
      unfold tightF tightB
      rw [hnt]
      simp only [Bool.not_false, Bool.true_and, Bool.and_eq_true, decide_eq_true_eq, beq_iff_eq]
      exact ⟨h2, h3⟩
    · obtain ⟨hj, hnt, hv⟩ := mem_must.1 hj
      obtain ⟨i, hi, e⟩ := mem_getD (ho.used j hj hv)
      refine ⟨i, mem_drop_range.2 ⟨?_, by omega⟩, e⟩
      refine Nat.le_of_not_lt fun hlt => ?_
      have hjp : j ∈ p := by
        rw [hget i hlt, getD_get _ _ _ hlt] at e
        exact e ▸ List.getElem_mem hlt
      rw [(takenOf_get hj).2 hjp] at hnt
      cases hnt
/-- The column of the next row: the first that is tight and not taken and with which it completes. -/
def nextC (T : List (List Int)) (m : Nat) (u v : Nat → Int) (taken : List Bool) (row : Nat) : Option Nat := (List.range m).find? fun c => tightF T u v taken row c && completesB T m u v (row + 1) (taken.set c true)
def firstF (T : List (List Int)) (m : Nat) (u v : Nat → Int) : List Nat → List Bool → List Nat → List Nat
  | [], _, to => to
  | r :: rs, taken, to => match nextC T m u v taken r with
    | some c => firstF T m u v rs (taken.set c true) (to ++ [c])
    | none => firstF T m u v rs taken to
theorem find_range {m : Nat} {p : Nat → Bool} {c : Nat} (h : (List.range m).find? p = some c) : c < m ∧ p c = true ∧ ∀ j, j < c → p j = false := by
  rw [List.find?_range_eq_some] at h
  obtain ⟨h1, h2, h3⟩ := h
  exact ⟨List.mem_range.1 h2, h1, fun j hj => by simpa using h3 j hj⟩
theorem tight_split {T : List (List Int)} {m : Nat} {u v : Nat → Int} {p : List Nat} {i c : Nat} (hc : c < m) : tightF T u v (takenOf m p) i c = true ↔ c ∉ p ∧ tightB T u v i c = true := by
  unfold tightF
  rw [Bool.and_eq_true]
  constructor
  · rintro ⟨h1, h2⟩
    exact ⟨fun h => by rw [(takenOf_get hc).2 h] at h1; simp at h1, h2⟩
  · rintro ⟨h1, h2⟩
    refine ⟨?_, h2⟩
    cases h : (takenOf m p).getD c false
    · rfl
    · exact absurd ((takenOf_get hc).1 h) h1
theorem snoc_fit {T : List (List Int)} {m : Nat} {u v : Nat → Int} {p : List Nat} {c : Nat} (ht : ∀ i, i < p.length → p.getD i 0 < m ∧ tightB T u v i (p.getD i 0) = true) (hc : c < m) (hcb : tightB T u v p.length c = true) :
    ∀ i, i < (p ++ [c]).length → (p ++ [c]).getD i 0 < m ∧ tightB T u v i ((p ++ [c]).getD i 0) = true := by
  intro i hi
  simp only [List.length_append, List.length_cons, List.length_nil] at hi
  by_cases h : i < p.length
  · rw [List.getD_eq_getElem?_getD, List.getElem?_append_left h, ← List.getD_eq_getElem?_getD]; exact ht i h
  · have : i = p.length := by omega
    subst this
    simp [hc, hcb]
theorem firstF_ok {T : List (List Int)} {m : Nat} {u v : Nat → Int} : ∀ (k : Nat) (p : List Nat), p.length + k = T.length → p.Nodup → (∀ i, i < p.length → p.getD i 0 < m ∧ tightB T u v i (p.getD i 0) = true) →
    (∃ to, Opt T m u v to ∧ to.take p.length = p) → (∀ to, Opt T m u v to → to.take p.length = p ∨ ∃ i, i < p.length ∧ p.take i = to.take i ∧ p.getD i 0 < to.getD i 0) →
    Opt T m u v (firstF T m u v ((List.range T.length).drop p.length) (takenOf m p) p) ∧ ∀ to, Opt T m u v to → lexLe (firstF T m u v ((List.range T.length).drop p.length) (takenOf m p) p) to := by
  intro k
  induction k with
  | zero =>
    intro p hl hn ht hx hle
    have hd : (List.range T.length).drop p.length = [] := List.drop_of_length_le (by simp; omega)
    rw [hd, firstF]
    obtain ⟨to, ho, htk⟩ := hx
    rw [List.take_of_length_le (by rw [ho.len]; omega)] at htk
    subst htk
    refine ⟨ho, fun to' h' => ?_⟩
    rcases hle to' h' with h | ⟨i, h1, h2, h3⟩
    · rw [List.take_of_length_le (by rw [h'.len]; omega)] at h
      exact .inl h.symm
    · exact .inr ⟨i, h1, by rw [h'.len]; omega, h2, h3⟩
  | succ k ih =>
    intro p hl hn ht hx hle
    have hlt : p.length < T.length := by omega
    have hd : (List.range T.length).drop p.length = p.length :: (List.range T.length).drop (p.length + 1) := by
      rw [List.drop_eq_getElem_cons (by simpa using hlt)]; simp
    have key : ∀ to, Opt T m u v to → to.take p.length = p → (tightF T u v (takenOf m p) p.length (to.getD p.length 0) && completesB T m u v (p.length + 1) ((takenOf m p).set (to.getD p.length 0) true)) = true := fun to ho htk => by
      obtain ⟨h1, h2, h3⟩ := ho.ok p.length hlt
      have hb : tightB T u v p.length (to.getD p.length 0) = true := by
        unfold tightB
        rw [Bool.and_eq_true]
        exact ⟨decide_eq_true h2, by rw [h3]; exact beq_self_eq_true _⟩
      have hl2 := ho.len
      have hnp : to.getD p.length 0 ∉ p := fun hm => by
        obtain ⟨i, hi, e⟩ := mem_getD hm
        have : p.getD i 0 = to.getD i 0 := by rw [← htk, List.getD_eq_getElem?_getD, List.getD_eq_getElem?_getD, List.getElem?_take_of_lt hi]
        rw [this, getD_get _ _ _ (by omega), getD_get _ _ _ (by omega)] at e
        have := nodup_inj ho.nd _ _ e
        omega
      have hn' : (p ++ [to.getD p.length 0]).Nodup := by
        rw [List.nodup_append]
        exact ⟨hn, by simp, fun a ha b hb e => by simp at hb; rw [e, hb] at ha; exact hnp ha⟩
      rw [Bool.and_eq_true]
      refine ⟨(tight_split h1).2 ⟨hnp, hb⟩, ?_⟩
      have := (ext_iff (m := m) (u := u) (v := v) (p := p ++ [to.getD p.length 0]) (by simp; omega) hn' (snoc_fit ht h1 hb)).2 ⟨to, ho, by
        simp only [List.length_append, List.length_cons, List.length_nil]
        rw [List.take_succ_eq_append_getElem (by omega), htk, getD_get _ _ _ (by omega)]⟩
      rw [takenOf_snoc] at this
      simpa using this
    obtain ⟨to, ho, htk⟩ := hx
    cases hc : nextC T m u v (takenOf m p) p.length with
    | none =>
      have := List.find?_eq_none.1 hc (to.getD p.length 0) (List.mem_range.2 (ho.ok p.length hlt).1)
      exact absurd (key to ho htk) this
    | some c =>
      obtain ⟨hcm, hcp, hcl⟩ := find_range hc
      rw [Bool.and_eq_true] at hcp
      obtain ⟨hnp, hb⟩ := (tight_split hcm).1 hcp.1
      have hn' : (p ++ [c]).Nodup := by
        rw [List.nodup_append]
        exact ⟨hn, by simp, fun a ha b hb e => by simp at hb; rw [e, hb] at ha; exact hnp ha⟩
      have hfit := snoc_fit ht hcm hb
      have hlen : (p ++ [c]).length = p.length + 1 := by simp
      have hex : ∃ to, Opt T m u v to ∧ to.take (p ++ [c]).length = p ++ [c] := by
        refine (ext_iff (by simp; omega) hn' hfit).1 ?_
        rw [takenOf_snoc, hlen]; exact hcp.2
      have hi := ih (p ++ [c]) (by simp; omega) hn' hfit hex (fun to' h' => ?_)
      · rw [hd, firstF, hc]
        simp only
        rw [hlen, takenOf_snoc] at hi
        exact hi
      · rcases hle to' h' with h | ⟨i, h1, h2, h3⟩
        · have hk := key to' h' h
          have hl2 := h'.len
          by_cases e : to'.getD p.length 0 = c
          · left
            have e' : to'[p.length]'(by omega) = c := by rw [← getD_get _ _ 0 (by omega)]; exact e
            rw [hlen, List.take_succ_eq_append_getElem (by omega), h, e']
          · right
            refine ⟨p.length, by simp, by rw [List.take_append_of_le_length (Nat.le_refl _), List.take_of_length_le (Nat.le_refl _), h], ?_⟩
            have : (p ++ [c]).getD p.length 0 = c := by simp
            rw [this]
            have := hcl (to'.getD p.length 0)
            rw [hk] at this
            rcases Nat.lt_trichotomy (to'.getD p.length 0) c with hlt' | heq | hgt
            · exact absurd (this hlt') (by simp)
            · exact absurd heq e
            · exact hgt
        · right
          refine ⟨i, by simp; omega, by rw [List.take_append_of_le_length (by omega)]; exact h2, ?_⟩
          rw [List.getD_eq_getElem?_getD, List.getElem?_append_left h1, ← List.getD_eq_getElem?_getD]; exact h3
/-- THE FIRST: the lexicographically least of the assignments that the prices prove. -/
theorem first_best {T : List (List Int)} {m : Nat} {u v : Nat → Int} (hd : Duals T m u v) (hx : ∃ to, Opt T m u v to) : IsBest T m (firstF T m u v (List.range T.length) (List.replicate m false) []) (dual T m u v) := by
  obtain ⟨h1, h2⟩ := firstF_ok (T := T) (m := m) (u := u) (v := v) T.length [] (by simp) List.nodup_nil (fun i hi => by simp at hi) (by obtain ⟨to, ho⟩ := hx; exact ⟨to, ho, by simp⟩) (fun to _ => .inl (by simp))
  exact best_of_opt hd h1 h2
end
section
abbrev Acc := List Nat × Int × Bool
def bruteL (rec : List Nat → Acc → Acc) (T : List (List Int)) (first : List Nat) : List Nat → Acc → Acc
  | [], a => a
  | k :: ks, a => bruteL rec T first ks (if 0 ≤ ct T first.length k ∧ k ∉ first then rec (first ++ [k]) a else a)
def bruteF (T : List (List Int)) (m : Nat) : Nat → List Nat → Acc → Acc
  | 0, first, a => if a.2.2 = false ∨ costA T first < a.2.1 then (first, costA T first, true) else a
  | f + 1, first, a => bruteL (bruteF T m f) T first (List.range m) a
/-- The best of those that were seen. -/
def Seen (T : List (List Int)) (S : List Nat → Prop) (a : Acc) : Prop :=
  (a.2.2 = false ∧ ∀ to, ¬ S to) ∨ (a.2.2 = true ∧ S a.1 ∧ costA T a.1 = a.2.1 ∧ ∀ to, S to → a.2.1 < costA T to ∨ (a.2.1 = costA T to ∧ lexLe a.1 to))
def Ext (T : List (List Int)) (m : Nat) (first to : List Nat) : Prop := Asg T m to ∧ to.take first.length = first
theorem lexLe.trans {a b c : List Nat} (h1 : lexLe a b) (h2 : lexLe b c) : lexLe a c := by
  rcases h1 with rfl | ⟨i, a1, a2, a3, a4⟩
  · exact h2
  · rcases h2 with rfl | ⟨j, b1, b2, b3, b4⟩
    · exact .inr ⟨i, a1, a2, a3, a4⟩
    · rcases Nat.lt_trichotomy i j with h | h | h
      · refine .inr ⟨i, a1, by omega, ?_, ?_⟩
        · rw [a3]
          have := congrArg (List.take i) b3
          rwa [List.take_take, List.take_take, Nat.min_eq_left (by omega)] at this
        · rw [← take_getD b3 h]; exact a4
      · subst h
        exact .inr ⟨i, a1, b2, a3.trans b3, by omega⟩
      · refine .inr ⟨j, by omega, b2, ?_, ?_⟩
        · rw [← b3]
          have := congrArg (List.take j) a3
          rwa [List.take_take, List.take_take, Nat.min_eq_left (by omega)] at this
        · rw [take_getD a3 h]; exact b4
theorem ext_lex {T : List (List Int)} {m : Nat} {first : List Nat} {j k : Nat} {a b : List Nat} (ha : Ext T m (first ++ [j]) a) (hb : Ext T m (first ++ [k]) b) (hf : first.length < T.length) (hjk : j < k) : lexLe a b := by
  have hla := ha.1.len
  have hlb := hb.1.len
  have e1 := ha.2
  have e2 := hb.2
  simp only [List.length_append, List.length_cons, List.length_nil] at e1 e2
  rw [List.take_succ_eq_append_getElem (by omega)] at e1 e2
  have p1 := List.append_inj' e1 rfl
  have p2 := List.append_inj' e2 rfl
  refine .inr ⟨first.length, by omega, by omega, by rw [p1.1, p2.1], ?_⟩
  rw [getD_get _ _ _ (by omega), getD_get _ _ _ (by omega)]
  have q1 : a[first.length] = j := by simpa using p1.2
  have q2 : b[first.length] = k := by simpa using p2.2
  omega
theorem ext_step {T : List (List Int)} {m : Nat} {first to : List Nat} (hf : first.length < T.length) (h : Ext T m first to) : ∃ k, k < m ∧ 0 ≤ ct T first.length k ∧ k ∉ first ∧ Ext T m (first ++ [k]) to := by
  have hl := h.1.len
  obtain ⟨h1, h2⟩ := h.1.ok first.length hf
  refine ⟨to.getD first.length 0, h1, h2, fun hm => ?_, h.1, ?_⟩
  · obtain ⟨i, hi, e⟩ := mem_getD hm
    have : first.getD i 0 = to.getD i 0 := by
      have := h.2
      conv => lhs; rw [← this]
      rw [List.getD_eq_getElem?_getD, List.getD_eq_getElem?_getD, List.getElem?_take_of_lt hi]
    rw [this, getD_get _ _ _ (by omega), getD_get _ _ _ (by omega)] at e
    have := nodup_inj h.1.nd _ _ e
    omega
  · simp only [List.length_append, List.length_cons, List.length_nil]
    rw [List.take_succ_eq_append_getElem (by omega), h.2, getD_get _ _ _ (by omega)]
theorem seen_congr {T : List (List Int)} {S S' : List Nat → Prop} {a : Acc} (h : Seen T S a) (he : ∀ to, S to ↔ S' to) : Seen T S' a := by
  rcases h with ⟨h1, h2⟩ | ⟨h1, h2, h3, h4⟩
  · exact .inl ⟨h1, fun to ht => h2 to ((he to).2 ht)⟩
  · exact .inr ⟨h1, (he _).1 h2, h3, fun to ht => h4 to ((he to).2 ht)⟩
theorem bruteF_ok (T : List (List Int)) (m : Nat) : ∀ (f : Nat) (first : List Nat) (S : List Nat → Prop) (a : Acc), first.length + f = T.length → first.Nodup → (∀ i, i < first.length → first.getD i 0 < m ∧ 0 ≤ ct T i (first.getD i 0)) →
    Seen T S a → (∀ to to', S to → Ext T m first to' → lexLe to to') → Seen T (fun to => S to ∨ Ext T m first to) (bruteF T m f first a) := by
  intro f
  induction f with
  | zero =>
    intro first S a hl hn hok hs hlex
    have hasg : Asg T m first := ⟨by omega, hn, fun i hi => hok i (by omega)⟩
    have hext : ∀ to, Ext T m first to ↔ to = first := fun to => by
      constructor
      · rintro ⟨h1, h2⟩
        rw [List.take_of_length_le (by rw [h1.len]; omega)] at h2; exact h2
      · rintro rfl; exact ⟨hasg, List.take_of_length_le (Nat.le_refl _)⟩
    rw [bruteF]
    rcases hs with ⟨h1, h2⟩ | ⟨h1, h2, h3, h4⟩
    · rw [if_pos (.inl h1)]
      refine .inr ⟨rfl, .inr ((hext _).2 rfl), rfl, fun to ht => ?_⟩
      rcases ht with ht | ht
      · exact absurd ht (h2 to)
      · rw [(hext to).1 ht]; exact .inr ⟨rfl, lexLe.refl _⟩
    · by_cases hc : costA T first < a.2.1
      · rw [if_pos (.inr hc)]
        refine .inr ⟨rfl, .inr ((hext _).2 rfl), rfl, fun to ht => ?_⟩
        rcases ht with ht | ht
        · left
          show costA T first < costA T to
          rcases h4 to ht with h | ⟨h, _⟩ <;> omega
        · rw [(hext to).1 ht]; exact .inr ⟨rfl, lexLe.refl _⟩
      · rw [if_neg (by rw [h1]; simp [hc])]
        refine .inr ⟨h1, .inl h2, h3, fun to ht => ?_⟩
        rcases ht with ht | ht
        · exact h4 to ht
        · rw [(hext to).1 ht]
          by_cases e : a.2.1 = costA T first
          · exact .inr ⟨e, hlex _ _ h2 ((hext _).2 rfl)⟩
          · exact .inl (by omega)
  | succ f ih =>
    intro first S a hl hn hok hs hlex
    have hf : first.length < T.length := by omega
    rw [bruteF]
    suffices H : ∀ (ks : List Nat) (d : Nat) (a : Acc), (List.range m).drop d = ks → Seen T (fun to => S to ∨ ∃ k, k < d ∧ k < m ∧ k ∉ first ∧ 0 ≤ ct T first.length k ∧ Ext T m (first ++ [k]) to) a → Seen T (fun to => S to ∨ Ext T m first to) (bruteL (bruteF T m f) T first ks a) from
      H (List.range m) 0 a (by simp) (seen_congr hs (fun to => by constructor; exact .inl; rintro (h | ⟨k, h, _⟩); exact h; omega))
    intro ks
    induction ks with
    | nil =>
      intro d a hd hs
      have hdm : m ≤ d := by have := congrArg List.length hd; simp at this; omega
      rw [bruteL]
      refine seen_congr hs (fun to => ?_)
      constructor
      · rintro (h | ⟨k, _, _, _, _, h⟩)
        · exact .inl h
        · refine .inr ⟨h.1, ?_⟩
          have := h.2
          have h2 := congrArg (List.take first.length) this
          simpa [List.take_take] using h2
      · rintro (h | h)
        · exact .inl h
        · obtain ⟨k, h1, h2, h3, h4⟩ := ext_step hf h
          exact .inr ⟨k, by omega, h1, h3, h2, h4⟩
    | cons k ks ihk =>
      intro d a hd hs
      have hdm : d < m := by have := congrArg List.length hd; simp at this; omega
      rw [List.drop_eq_getElem_cons (by simpa using hdm)] at hd
      simp only [List.cons.injEq, List.getElem_range] at hd
      obtain ⟨rfl, hd⟩ := hd
      rw [bruteL]
      refine ihk (d + 1) _ hd ?_
      split
      · rename_i hc
        have hn' : (first ++ [d]).Nodup := by
          rw [List.nodup_append]
          exact ⟨hn, by simp, fun a ha b hb e => by simp at hb; rw [e, hb] at ha; exact hc.2 ha⟩
        have := ih (first ++ [d]) _ a (by simp; omega) hn' (fun i hi => by
          simp only [List.length_append, List.length_cons, List.length_nil] at hi
          by_cases h : i < first.length
          · rw [List.getD_eq_getElem?_getD, List.getElem?_append_left h, ← List.getD_eq_getElem?_getD]; exact hok i h
          · have : i = first.length := by omega
            subst this
            simp [hdm, hc.1]) hs (fun to to' h h' => by
          rcases h with h | ⟨k, h1, h2, h3, h4, h5⟩
          · refine hlex to to' h ⟨h'.1, ?_⟩
            have h2 := congrArg (List.take first.length) h'.2
            simpa [List.take_take] using h2
          · exact ext_lex h5 h' hf h1)
        refine seen_congr this (fun to => ?_)
        constructor
        · rintro ((h | ⟨k, h1, h2⟩) | h)
          · exact .inl h
          · exact .inr ⟨k, by omega, h2⟩
          · exact .inr ⟨d, by omega, hdm, hc.2, hc.1, h⟩
        · rintro (h | ⟨k, h1, h2, h3, h4, h5⟩)
          · exact .inl (.inl h)
          · by_cases e : k = d
            · subst e; exact .inr h5
            · exact .inl (.inr ⟨k, by omega, h2, h3, h4, h5⟩)
      · rename_i hc
        refine seen_congr hs (fun to => ?_)
        constructor
        · rintro (h | ⟨k, h1, h2⟩)
          · exact .inl h
          · exact .inr ⟨k, by omega, h2⟩
        · rintro (h | ⟨k, h1, h2, h3, h4, h5⟩)
          · exact .inl h
          · by_cases e : k = d
            · subst e; exact absurd ⟨h4, h3⟩ hc
            · exact .inr ⟨k, by omega, h2, h3, h4, h5⟩
/-- ALL ASSIGNMENTS TRIED. -/
theorem brute_best (T : List (List Int)) (m : Nat) : ((bruteF T m T.length [] ([], 0, false)).2.2 = false ∧ ¬ ∃ to, Asg T m to) ∨ ((bruteF T m T.length [] ([], 0, false)).2.2 = true ∧ IsBest T m (bruteF T m T.length [] ([], 0, false)).1 (bruteF T m T.length [] ([], 0, false)).2.1) := by
  have h := bruteF_ok T m T.length [] (fun _ => False) ([], 0, false) (by simp) List.nodup_nil (fun i hi => by simp at hi) (.inl ⟨rfl, fun _ h => h⟩) (fun _ _ h => h.elim)
  have he : ∀ to, Asg T m to → (False ∨ Ext T m [] to) := fun to ht => .inr ⟨ht, by simp⟩
  rcases h with ⟨h1, h2⟩ | ⟨h1, h2, h3, h4⟩
  · exact .inl ⟨h1, fun ⟨to, ht⟩ => h2 to (he to ht)⟩
  · exact .inr ⟨h1, (h2.resolve_left id).1, h3, fun to' h' => h4 to' (he to' h')⟩
end
section
theorem or_down3 {P : Prop} {j k : Nat} (h : j = 0 ∨ k + 1 < j ∨ P) : j = 0 ∨ k < j ∨ P := by
  rcases h with h | h | h
  · exact .inl h
  · exact .inr (.inl (by omega))
  · exact .inr (.inr h)
theorem or_down2 {P : Prop} {j k : Nat} (h : k + 1 ≤ j ∨ P) : k ≤ j ∨ P := by
  rcases h with h | h
  · exact .inl (by omega)
  · exact .inr h
/-! ### near -/
def nearStep (d : Nat → Int) (used : List Bool) (fr j : Nat) (s : List Int × List Nat × Nat) : List Int × List Nat × Nat :=
  if used.getD j false = true then s
  else if d j < s.1.getD j 0 then (s.1.set j (d j), s.2.1.set j fr, if s.2.2 = 0 ∨ d j < (s.1.set j (d j)).getD s.2.2 0 then j else s.2.2)
  else (s.1, s.2.1, if s.2.2 = 0 ∨ s.1.getD j 0 < s.1.getD s.2.2 0 then j else s.2.2)
def nearF (d : Nat → Int) (used : List Bool) (fr : Nat) (least : List Int) (way : List Nat) : Nat → List Int × List Nat × Nat
  | 0 => (least, way, 0)
  | k + 1 => nearStep d used fr (k + 1) (nearF d used fr least way k)
/-- What near leaves, of the columns 1 to k. -/
structure NearP (d : Nat → Int) (used : List Bool) (fr : Nat) (least : List Int) (way : List Nat) (k : Nat) (s : List Int × List Nat × Nat) : Prop where
  l1 : s.1.length = least.length
  l2 : s.2.1.length = way.length
  low : ∀ j, 1 ≤ j → j ≤ k → used.getD j false = false → d j < least.getD j 0 → s.1.getD j 0 = d j ∧ s.2.1.getD j 0 = fr
  high : ∀ j, 1 ≤ j → j ≤ k → used.getD j false = false → ¬ d j < least.getD j 0 → s.1.getD j 0 = least.getD j 0 ∧ s.2.1.getD j 0 = way.getD j 0
  same : ∀ j, (j = 0 ∨ k < j ∨ used.getD j false = true) → s.1.getD j 0 = least.getD j 0 ∧ s.2.1.getD j 0 = way.getD j 0
  none : s.2.2 = 0 → ∀ j, 1 ≤ j → j ≤ k → used.getD j false = true
  some : s.2.2 ≠ 0 → s.2.2 ≤ k ∧ used.getD s.2.2 false = false ∧ ∀ j, 1 ≤ j → j ≤ k → used.getD j false = false → s.1.getD s.2.2 0 ≤ s.1.getD j 0
theorem near_ok (d : Nat → Int) (used : List Bool) (fr : Nat) (least : List Int) (way : List Nat) : ∀ k, k < least.length → k < way.length → NearP d used fr least way k (nearF d used fr least way k) := by
  intro k
  induction k with
  | zero => intro _ _; exact ⟨rfl, rfl, fun j h1 h2 => by omega, fun j h1 h2 => by omega, fun _ _ => ⟨rfl, rfl⟩, fun _ j h1 h2 => by omega, fun h => absurd rfl h⟩
  | succ k ih =>
    intro hk1 hk2
    have h := ih (by omega) (by omega)
    rw [nearF]
    generalize nearF d used fr least way k = s at h
    have hs := h.same (k + 1) (.inr (.inl (by omega)))
    unfold nearStep
    by_cases hu : used.getD (k + 1) false = true
    · rw [if_pos hu]
      refine ⟨h.l1, h.l2, fun j h1 h2 h3 h4 => ?_, fun j h1 h2 h3 h4 => ?_, fun j hj => ?_, fun h0 j h1 h2 => ?_, fun h0 => ?_⟩
      · exact h.low j h1 (by rcases Nat.lt_or_eq_of_le h2 with h' | h'; omega; subst h'; rw [hu] at h3; cases h3) h3 h4
      · exact h.high j h1 (by rcases Nat.lt_or_eq_of_le h2 with h' | h'; omega; subst h'; rw [hu] at h3; cases h3) h3 h4
      · by_cases e : j = k + 1
        · subst e; exact hs
        · exact h.same j (or_down3 hj)
      · by_cases e : j = k + 1
        · subst e; exact hu
        · exact h.none h0 j h1 (by omega)
      · obtain ⟨a1, a2, a3⟩ := h.some h0
        refine ⟨by omega, a2, fun j h1 h2 h3 => ?_⟩
        by_cases e : j = k + 1
        · subst e; rw [hu] at h3; cases h3
        · exact a3 j h1 (by omega) h3
    · have hu' : used.getD (k + 1) false = false := by simpa using hu
      rw [if_neg hu]
      by_cases hd : d (k + 1) < s.1.getD (k + 1) 0
      · rw [if_pos hd]
        have l1 := h.l1
        have l2 := h.l2
        have e1 : (s.1.set (k + 1) (d (k + 1))).getD (k + 1) 0 = d (k + 1) := getD_set_eq _ _ _ _ (by omega)
        have e2 : (s.2.1.set (k + 1) fr).getD (k + 1) 0 = fr := getD_set_eq _ _ _ _ (by omega)
        have n1 : ∀ j, j ≠ k + 1 → (s.1.set (k + 1) (d (k + 1))).getD j 0 = s.1.getD j 0 := fun j hj => getD_set_ne _ _ _ _ _ (fun e => hj e.symm)
        have n2 : ∀ j, j ≠ k + 1 → (s.2.1.set (k + 1) fr).getD j 0 = s.2.1.getD j 0 := fun j hj => getD_set_ne _ _ _ _ _ (fun e => hj e.symm)
        refine ⟨by simpa using l1, by simpa using l2, fun j h1 h2 h3 h4 => ?_, fun j h1 h2 h3 h4 => ?_, fun j hj => ?_, fun h0 => ?_, fun h0 => ?_⟩
        · by_cases e : j = k + 1
          · subst e; exact ⟨e1, e2⟩
          · have := h.low j h1 (by omega) h3 h4
            exact ⟨(n1 j e).trans this.1, (n2 j e).trans this.2⟩
        · by_cases e : j = k + 1
          · subst e; rw [hs.1] at hd; exact absurd hd h4
          · have := h.high j h1 (by omega) h3 h4
            exact ⟨(n1 j e).trans this.1, (n2 j e).trans this.2⟩
        · have e : j ≠ k + 1 := fun e => by
            subst e
            rcases hj with hj | hj | hj
            · omega
            · omega
            · exact hu hj
          have := h.same j (or_down3 hj)
          exact ⟨(n1 j e).trans this.1, (n2 j e).trans this.2⟩
        · exfalso
          revert h0
          show (if s.2.2 = 0 ∨ _ then k + 1 else s.2.2) = 0 → False
          by_cases hc : s.2.2 = 0 ∨ d (k + 1) < (s.1.set (k + 1) (d (k + 1))).getD s.2.2 0
          · rw [if_pos hc]; omega
          · rw [if_neg hc]; exact fun h0 => hc (.inl h0)
        · show (if s.2.2 = 0 ∨ _ then k + 1 else s.2.2) ≤ k + 1 ∧ used.getD (if s.2.2 = 0 ∨ _ then k + 1 else s.2.2) false = false ∧ ∀ j, 1 ≤ j → j ≤ k + 1 → used.getD j false = false → (s.1.set (k + 1) (d (k + 1))).getD (if s.2.2 = 0 ∨ _ then k + 1 else s.2.2) 0 ≤ (s.1.set (k + 1) (d (k + 1))).getD j 0
          by_cases hc : s.2.2 = 0 ∨ d (k + 1) < (s.1.set (k + 1) (d (k + 1))).getD s.2.2 0
          · rw [if_pos hc]
            refine ⟨Nat.le_refl _, hu', fun j h1 h2 h3 => ?_⟩
            rw [e1]
            by_cases e : j = k + 1
            · subst e; rw [e1]; exact Int.le_refl _
            · rw [n1 j e]
              rcases hc with hc | hc
              · have := h.none hc j h1 (by omega)
                rw [this] at h3; cases h3
              · by_cases h0' : s.2.2 = 0
                · have := h.none h0' j h1 (by omega)
                  rw [this] at h3; cases h3
                · obtain ⟨a1, a2, a3⟩ := h.some h0'
                  rw [n1 s.2.2 (by omega)] at hc
                  have := a3 j h1 (by omega) h3
                  omega
          · rw [if_neg hc]
            have h0' : s.2.2 ≠ 0 := fun h => hc (.inl h)
            obtain ⟨a1, a2, a3⟩ := h.some h0'
            refine ⟨by omega, a2, fun j h1 h2 h3 => ?_⟩
            rw [n1 s.2.2 (by omega)]
            by_cases e : j = k + 1
            · subst e; rw [e1]
              have : ¬ d (k + 1) < (s.1.set (k + 1) (d (k + 1))).getD s.2.2 0 := fun h => hc (.inr h)
              rw [n1 s.2.2 (by omega)] at this
              omega
            · rw [n1 j e]; exact a3 j h1 (by omega) h3
      · rw [if_neg hd]
        refine ⟨h.l1, h.l2, fun j h1 h2 h3 h4 => ?_, fun j h1 h2 h3 h4 => ?_, fun j hj => ?_, fun h0 => ?_, fun h0 => ?_⟩
        · by_cases e : j = k + 1
          · subst e; rw [hs.1] at hd; exact absurd h4 hd
          · exact h.low j h1 (by omega) h3 h4
        · by_cases e : j = k + 1
          · subst e; exact hs
          · exact h.high j h1 (by omega) h3 h4
        · have e : j ≠ k + 1 := fun e => by
            subst e
            rcases hj with hj | hj | hj
            · omega
            · omega
            · exact hu hj
          exact h.same j (or_down3 hj)
        · exfalso
          revert h0
          show (if s.2.2 = 0 ∨ _ then k + 1 else s.2.2) = 0 → False
          by_cases hc : s.2.2 = 0 ∨ s.1.getD (k + 1) 0 < s.1.getD s.2.2 0
          · rw [if_pos hc]; omega
          · rw [if_neg hc]; exact fun h0 => hc (.inl h0)
        · show (if s.2.2 = 0 ∨ _ then k + 1 else s.2.2) ≤ k + 1 ∧ used.getD (if s.2.2 = 0 ∨ _ then k + 1 else s.2.2) false = false ∧ ∀ j, 1 ≤ j → j ≤ k + 1 → used.getD j false = false → s.1.getD (if s.2.2 = 0 ∨ _ then k + 1 else s.2.2) 0 ≤ s.1.getD j 0
          by_cases hc : s.2.2 = 0 ∨ s.1.getD (k + 1) 0 < s.1.getD s.2.2 0
          · rw [if_pos hc]
            refine ⟨Nat.le_refl _, hu', fun j h1 h2 h3 => ?_⟩
            by_cases e : j = k + 1
            · subst e; exact Int.le_refl _
            · by_cases h0' : s.2.2 = 0
              · have := h.none h0' j h1 (by omega)
                rw [this] at h3; cases h3
              · have := (h.some h0').2.2 j h1 (by omega) h3
                have := hc.resolve_left h0'
                omega
          · rw [if_neg hc]
            have h0' : s.2.2 ≠ 0 := fun h => hc (.inl h)
            obtain ⟨a1, a2, a3⟩ := h.some h0'
            refine ⟨by omega, a2, fun j h1 h2 h3 => ?_⟩
            by_cases e : j = k + 1
            · subst e
              have : ¬ s.1.getD (k + 1) 0 < s.1.getD s.2.2 0 := fun h => hc (.inr h)
              omega
            · exact a3 j h1 (by omega) h3

/-! ### the shift of prices -/
abbrev Shs := List Int × List Int × List Int
def shiftStep (b : Int) (used : List Bool) (p : List Nat) (j : Nat) (s : Shs) : Shs :=
  if used.getD j false = true then (s.1.set (p.getD j 0) (s.1.getD (p.getD j 0) 0 + b), s.2.1.set j (s.2.1.getD j 0 - b), s.2.2) else (s.1, s.2.1, s.2.2.set j (s.2.2.getD j 0 - b))
def shiftF (b : Int) (used : List Bool) (p : List Nat) (s : Shs) : Nat → Shs
  | 0 => s
  | k + 1 => shiftStep b used p k (shiftF b used p s k)
/-- What the shift leaves, of the columns below k. -/
structure ShiftP (b : Int) (used : List Bool) (p : List Nat) (s : Shs) (k : Nat) (t : Shs) : Prop where
  l1 : t.1.length = s.1.length
  l2 : t.2.1.length = s.2.1.length
  l3 : t.2.2.length = s.2.2.length
  up : ∀ j, j < k → used.getD j false = true → t.1.getD (p.getD j 0) 0 = s.1.getD (p.getD j 0) 0 + b
  flat : ∀ i, (∀ j, j < k → used.getD j false = true → p.getD j 0 ≠ i) → t.1.getD i 0 = s.1.getD i 0
  down : ∀ j, j < k → used.getD j false = true → t.2.1.getD j 0 = s.2.1.getD j 0 - b
  keep : ∀ j, (k ≤ j ∨ used.getD j false = false) → t.2.1.getD j 0 = s.2.1.getD j 0
  less : ∀ j, j < k → used.getD j false = false → t.2.2.getD j 0 = s.2.2.getD j 0 - b
  hold : ∀ j, (k ≤ j ∨ used.getD j false = true) → t.2.2.getD j 0 = s.2.2.getD j 0
theorem shift_ok (b : Int) (used : List Bool) (p : List Nat) (s : Shs) : ∀ k, k ≤ s.2.1.length → k ≤ s.2.2.length → (∀ j, j < k → p.getD j 0 < s.1.length) →
    (∀ i j, i < k → j < k → used.getD i false = true → used.getD j false = true → p.getD i 0 = p.getD j 0 → i = j) → ShiftP b used p s k (shiftF b used p s k) := by
  intro k
  induction k with
  | zero => intro _ _ _ _; exact ⟨rfl, rfl, rfl, fun j h => by omega, fun _ _ => rfl, fun j h => by omega, fun _ _ => rfl, fun j h => by omega, fun _ _ => rfl⟩
  | succ k ih =>
    intro hk1 hk2 hp hinj
    have h := ih (by omega) (by omega) (fun j hj => hp j (by omega)) (fun i j hi hj => hinj i j (by omega) (by omega))
    rw [shiftF]
    generalize shiftF b used p s k = t at h
    have l1 := h.l1
    have l2 := h.l2
    have l3 := h.l3
    unfold shiftStep
    by_cases hu : used.getD k false = true
    · rw [if_pos hu]
      have hpk := hp k (by omega)
      have hflat := h.flat (p.getD k 0) (fun j hj hj' e => by have := hinj j k (by omega) (by omega) hj' hu e; omega)
      refine ⟨by simpa using l1, by simpa using l2, l3, fun j hj hju => ?_, fun i hi => ?_, fun j hj hju => ?_, fun j hj => ?_, fun j hj hju => ?_, fun j hj => ?_⟩
      · by_cases e : j = k
        · subst e; rw [getD_set_eq _ _ _ _ (by omega), hflat]
        · rw [getD_set_ne _ _ _ _ _ (fun e' => e (hinj j k (by omega) (by omega) hju hu e'.symm))]
          exact h.up j (by omega) hju
      · rw [getD_set_ne _ _ _ _ _ (hi k (by omega) hu)]
        exact h.flat i (fun j hj => hi j (by omega))
      · by_cases e : j = k
        · subst e; rw [getD_set_eq _ _ _ _ (by omega), h.keep j (.inl (Nat.le_refl _))]
        · rw [getD_set_ne _ _ _ _ _ (fun e' => e e'.symm)]; exact h.down j (by omega) hju
      · have e : k ≠ j := fun e => by
          subst e
          rcases hj with hj | hj
          · omega
          · rw [hu] at hj; cases hj
        rw [getD_set_ne _ _ _ _ _ e]; exact h.keep j (or_down2 hj)
      · have e : j ≠ k := fun e => by subst e; rw [hu] at hju; cases hju
        exact h.less j (by omega) hju
      · by_cases e : j = k
        · subst e; exact h.hold j (.inl (Nat.le_refl _))
        · exact h.hold j (or_down2 hj)
    · have hu' : used.getD k false = false := by simpa using hu
      rw [if_neg hu]
      have ne : ∀ j, j < k + 1 → used.getD j false = true → j < k := fun j hj hju => by
        rcases Nat.lt_or_eq_of_le (Nat.lt_succ_iff.1 hj) with h' | h'
        · exact h'
        · subst h'; exact absurd hju hu
      refine ⟨l1, l2, by simpa using l3, fun j hj hju => h.up j (ne j hj hju) hju, fun i hi => h.flat i (fun j hj => hi j (by omega)), fun j hj hju => h.down j (ne j hj hju) hju, fun j hj => ?_, fun j hj hju => ?_, fun j hj => ?_⟩
      · by_cases e : j = k
        · subst e; exact h.keep j (.inl (Nat.le_refl _))
        · exact h.keep j (or_down2 hj)
      · by_cases e : j = k
        · subst e; rw [getD_set_eq _ _ _ _ (by omega), h.hold j (.inl (Nat.le_refl _))]
        · rw [getD_set_ne _ _ _ _ _ (fun e' => e e'.symm)]; exact h.less j (by omega) hju
      · have e : k ≠ j := fun e => by
          subst e
          rcases hj with hj | hj
          · omega
          · exact hu hj
        rw [getD_set_ne _ _ _ _ _ e]; exact h.hold j (or_down2 hj)
end
section
def aF (T : List (List Int)) (i j : Nat) : Int := if ct T (i - 1) (j - 1) = -1 then 1000000000000 else ct T (i - 1) (j - 1)
def nearD (a : Nat → Nat → Int) (u v : List Int) (row j : Nat) : Int := a row j - u.getD row 0 - v.getD j 0
def searchF (a : Nat → Nat → Int) (m : Nat) (p : List Nat) : Nat → Nat → List Int → List Int → List Int → List Nat → List Bool → List Int × List Int × List Nat × Nat
  | 0, col, u, v, _, way, _ => (u, v, way, col)
  | f + 1, col, u, v, least, way, used =>
    if p.getD (nearF (nearD a u v (p.getD col 0)) (used.set col true) col least way m).2.2 0 = 0 then
      ((shiftF ((nearF (nearD a u v (p.getD col 0)) (used.set col true) col least way m).1.getD (nearF (nearD a u v (p.getD col 0)) (used.set col true) col least way m).2.2 0) (used.set col true) p (u, v, (nearF (nearD a u v (p.getD col 0)) (used.set col true) col least way m).1) (m + 1)).1,
       (shiftF ((nearF (nearD a u v (p.getD col 0)) (used.set col true) col least way m).1.getD (nearF (nearD a u v (p.getD col 0)) (used.set col true) col least way m).2.2 0) (used.set col true) p (u, v, (nearF (nearD a u v (p.getD col 0)) (used.set col true) col least way m).1) (m + 1)).2.1,
       (nearF (nearD a u v (p.getD col 0)) (used.set col true) col least way m).2.1, (nearF (nearD a u v (p.getD col 0)) (used.set col true) col least way m).2.2)
    else
      searchF a m p f (nearF (nearD a u v (p.getD col 0)) (used.set col true) col least way m).2.2
        (shiftF ((nearF (nearD a u v (p.getD col 0)) (used.set col true) col least way m).1.getD (nearF (nearD a u v (p.getD col 0)) (used.set col true) col least way m).2.2 0) (used.set col true) p (u, v, (nearF (nearD a u v (p.getD col 0)) (used.set col true) col least way m).1) (m + 1)).1
        (shiftF ((nearF (nearD a u v (p.getD col 0)) (used.set col true) col least way m).1.getD (nearF (nearD a u v (p.getD col 0)) (used.set col true) col least way m).2.2 0) (used.set col true) p (u, v, (nearF (nearD a u v (p.getD col 0)) (used.set col true) col least way m).1) (m + 1)).2.1
        (shiftF ((nearF (nearD a u v (p.getD col 0)) (used.set col true) col least way m).1.getD (nearF (nearD a u v (p.getD col 0)) (used.set col true) col least way m).2.2 0) (used.set col true) p (u, v, (nearF (nearD a u v (p.getD col 0)) (used.set col true) col least way m).1) (m + 1)).2.2
        (nearF (nearD a u v (p.getD col 0)) (used.set col true) col least way m).2.1 (used.set col true)
theorem searchF_step (a : Nat → Nat → Int) (m : Nat) (p : List Nat) (f col : Nat) (u v least : List Int) (way : List Nat) (used : List Bool) {s : List Int × List Nat × Nat} {t : Shs} (hs : nearF (nearD a u v (p.getD col 0)) (used.set col true) col least way m = s) (ht : shiftF (s.1.getD s.2.2 0) (used.set col true) p (u, v, s.1) (m + 1) = t) :
    searchF a m p (f + 1) col u v least way used = if p.getD s.2.2 0 = 0 then (t.1, t.2.1, s.2.1, s.2.2) else searchF a m p f s.2.2 t.1 t.2.1 t.2.2 s.2.1 (used.set col true) := by
  subst hs; subst ht; rw [searchF]
def BIG : Int := 4000000000000000000
def DEAR : Int := 1000000000000
/-- What stays of the row of each column while a row is placed. -/
structure PC (n m r : Nat) (p : List Nat) : Prop where
  len : p.length = m + 1
  p0 : p.getD 0 0 = r
  r1 : 1 ≤ r
  rn : r ≤ n
  lt : ∀ j, 1 ≤ j → j ≤ m → p.getD j 0 < r
  inj : ∀ i j, i ≤ m → j ≤ m → p.getD i 0 = p.getD j 0 → p.getD i 0 ≠ 0 → i = j
  free : ∃ j, 1 ≤ j ∧ j ≤ m ∧ p.getD j 0 = 0
theorem PC.le {n m r : Nat} {p : List Nat} (h : PC n m r p) {j : Nat} (hj : j ≤ m) : p.getD j 0 ≤ r := by
  cases j with
  | zero => rw [h.p0]; exact Nat.le_refl _
  | succ j => exact Nat.le_of_lt (h.lt _ (by omega) hj)
/-- The columns that were used, the last one first: each but column 0 was come to from an earlier one. -/
def Path (way : List Nat) : List Nat → Prop
  | [] => True
  | j :: r => ((j = 0 ∧ r = []) ∨ (j ≠ 0 ∧ way.getD j 0 ∈ r)) ∧ j ∉ r ∧ Path way r
theorem Path.congr {way way' : List Nat} : ∀ {ord : List Nat}, (∀ j ∈ ord, way'.getD j 0 = way.getD j 0) → Path way ord → Path way' ord
  | [], _, _ => trivial
  | j :: r, h, ⟨h1, h2, h3⟩ => by
    refine ⟨?_, h2, Path.congr (fun i hi => h i (by simp [hi])) h3⟩
    rcases h1 with h1 | ⟨h1, h4⟩
    · exact .inl h1
    · exact .inr ⟨h1, by rw [h j (by simp)]; exact h4⟩
theorem Path.nodup {way : List Nat} : ∀ {ord : List Nat}, Path way ord → ord.Nodup
  | [], _ => List.nodup_nil
  | _j :: _r, h => List.nodup_cons.2 ⟨h.2.1, Path.nodup h.2.2⟩
theorem Path.zero {way : List Nat} : ∀ {ord : List Nat}, Path way ord → ord ≠ [] → 0 ∈ ord
  | j :: r, h, _ => by
    rcases h.1 with ⟨h1, _⟩ | ⟨_, h2⟩
    · simp [h1]
    · have : r ≠ [] := fun e => by rw [e] at h2; simp at h2
      exact List.mem_cons_of_mem _ (Path.zero h.2.2 this)
/-- THE SEARCH's STATE at a round's head. -/
structure SI (a : Nat → Nat → Int) (n m r : Nat) (u0 v0 : List Int) (p : List Nat) (ord : List Nat) (col : Nat) (u v least : List Int) (way : List Nat) (used : List Bool) (dl : Int) : Prop where
  lu : u.length = n + 1
  lv : v.length = m + 1
  ll : least.length = m + 1
  lw : way.length = m + 1
  ls : used.length = m + 1
  cm : col ≤ m
  nc : col ∉ ord
  us : ∀ j, used.getD j false = true ↔ j ∈ ord
  om : ∀ j ∈ ord, j ≤ m
  op : ∀ j ∈ ord, p.getD j 0 ≠ 0
  path : Path way ord
  hd : (ord = [] ∧ col = 0) ∨ (ord ≠ [] ∧ col ≠ 0 ∧ way.getD col 0 ∈ ord ∧ u.getD (p.getD (way.getD col 0) 0) 0 + v.getD col 0 = a (p.getD (way.getD col 0) 0) col)
  tp : ∀ j ∈ ord, j ≠ 0 → u.getD (p.getD (way.getD j 0) 0) 0 + v.getD j 0 = a (p.getD (way.getD j 0) 0) j
  feas : ∀ i j, 1 ≤ i → i ≤ n → 1 ≤ j → j ≤ m → u.getD i 0 + v.getD j 0 ≤ a i j
  tm : ∀ j, 1 ≤ j → j ≤ m → p.getD j 0 ≠ 0 → u.getD (p.getD j 0) 0 + v.getD j 0 = a (p.getD j 0) j
  vneg : ∀ j, 1 ≤ j → j ≤ m → v.getD j 0 ≤ 0
  vfree : ∀ j, 1 ≤ j → j ≤ m → p.getD j 0 = 0 → v.getD j 0 = 0
  le : ord ≠ [] → ∀ j, 1 ≤ j → j ≤ m → j ∉ ord → way.getD j 0 ∈ ord ∧ least.getD j 0 = nearD a u v (p.getD (way.getD j 0) 0) j ∧ ∀ i ∈ ord, least.getD j 0 ≤ nearD a u v (p.getD i 0) j
  lb : ord = [] → ∀ j, 1 ≤ j → j ≤ m → least.getD j 0 = BIG
  d0 : 0 ≤ dl
  d1 : dl ≤ DEAR
  dr : u.getD r 0 = dl
  du : ∀ i, u0.getD i 0 ≤ u.getD i 0 ∧ u.getD i 0 ≤ u0.getD i 0 + dl
  dv : ∀ j, v0.getD j 0 - dl ≤ v.getD j 0 ∧ v.getD j 0 ≤ v0.getD j 0
  fl : ∀ i, r < i → u.getD i 0 = u0.getD i 0
theorem getD_getD_out {α : Type} (l : List α) (k : Nat) (d : α) (h : l.length ≤ k) : l.getD k d = d := by simp [List.getD_eq_getElem?_getD, h]
set_option maxHeartbeats 1000000 in
theorem search_step {a : Nat → Nat → Int} {n m r : Nat} {u0 v0 : List Int} {p : List Nat} (hp : PC n m r p) (ha : ∀ i j, 1 ≤ i → i ≤ n → 1 ≤ j → j ≤ m → 0 ≤ a i j ∧ a i j ≤ DEAR)
    (hu0 : ∀ i, -(1000 * DEAR) ≤ u0.getD i 0) (hv0 : ∀ j, -(1000 * DEAR) ≤ v0.getD j 0) {ord : List Nat} {col : Nat} {u v least : List Int} {way : List Nat} {used : List Bool} {dl : Int}
    (h : SI a n m r u0 v0 p ord col u v least way used dl) (hpc : p.getD col 0 ≠ 0) {s : List Int × List Nat × Nat} {t : Shs} (hs : nearF (nearD a u v (p.getD col 0)) (used.set col true) col least way m = s) (ht : shiftF (s.1.getD s.2.2 0) (used.set col true) p (u, v, s.1) (m + 1) = t) :
    s.2.2 ≠ 0 ∧ ∃ dl', SI a n m r u0 v0 p (col :: ord) s.2.2 t.1 t.2.1 t.2.2 s.2.1 (used.set col true) dl' := by
  have hD : DEAR = 1000000000000 := rfl
  have hB : BIG = 4000000000000000000 := rfl
  have cm := h.cm
  have ls := h.ls
  have us' : ∀ j, (used.set col true).getD j false = true ↔ j ∈ col :: ord := fun j => by
    by_cases e : j = col
    · subst e; rw [getD_set_eq _ _ _ _ (by omega)]; simp
    · rw [getD_set_ne _ _ _ _ _ (fun e' => e e'.symm), h.us j]; simp [e]
  have un' : ∀ j, j ∉ col :: ord → (used.set col true).getD j false = false := fun j hj => by
    cases hx : (used.set col true).getD j false
    · rfl
    · exact absurd ((us' j).1 hx) hj
  have om' : ∀ j ∈ col :: ord, j ≤ m := fun j hj => by
    rcases List.mem_cons.1 hj with rfl | hj
    · exact cm
    · exact h.om j hj
  have op' : ∀ j ∈ col :: ord, p.getD j 0 ≠ 0 := fun j hj => by
    rcases List.mem_cons.1 hj with rfl | hj
    · exact hpc
    · exact h.op j hj
  have ple : ∀ j ∈ col :: ord, 1 ≤ p.getD j 0 ∧ p.getD j 0 ≤ n := fun j hj => ⟨Nat.pos_of_ne_zero (op' j hj), Nat.le_trans (hp.le (om' j hj)) hp.rn⟩
  have hN := near_ok (nearD a u v (p.getD col 0)) (used.set col true) col least way m (by rw [h.ll]; omega) (by rw [h.lw]; omega)
  rw [hs] at hN
  have z' : 0 ∈ col :: ord := by
    rcases h.hd with ⟨_, e⟩ | ⟨e, _⟩
    · simp [e]
    · exact List.mem_cons_of_mem _ (h.path.zero e)
  -- of each column that is not used
  have key : ∀ j, 1 ≤ j → j ≤ m → j ∉ col :: ord → s.2.1.getD j 0 ∈ col :: ord ∧ s.1.getD j 0 = nearD a u v (p.getD (s.2.1.getD j 0) 0) j ∧ ∀ i ∈ col :: ord, s.1.getD j 0 ≤ nearD a u v (p.getD i 0) j := fun j h1 h2 h3 => by
    have hj := un' j h3
    have hjo : j ∉ ord := fun hx => h3 (List.mem_cons_of_mem _ hx)
    by_cases hd : nearD a u v (p.getD col 0) j < least.getD j 0
    · obtain ⟨e1, e2⟩ := hN.low j h1 h2 hj hd
      rw [e1, e2]
      refine ⟨by simp, rfl, fun i hi => ?_⟩
      rcases List.mem_cons.1 hi with rfl | hi
      · exact Int.le_refl _
      · have hne : ord ≠ [] := fun e => by rw [e] at hi; simp at hi
        have := (h.le hne j h1 h2 hjo).2.2 i hi
        omega
    · obtain ⟨e1, e2⟩ := hN.high j h1 h2 hj hd
      rw [e1, e2]
      by_cases hne : ord = []
      · exfalso
        rw [h.lb hne j h1 h2] at hd
        have b1 := (ha (p.getD col 0) j (ple col (by simp)).1 (ple col (by simp)).2 h1 h2).2
        have b2 := (h.du (p.getD col 0)).1
        have b3 := hu0 (p.getD col 0)
        have b4 := (h.dv j).1
        have b5 := hv0 j
        have b6 := h.d1
        unfold nearD at hd
        omega
      · obtain ⟨c1, c2, c3⟩ := h.le hne j h1 h2 hjo
        refine ⟨List.mem_cons_of_mem _ c1, c2, fun i hi => ?_⟩
        rcases List.mem_cons.1 hi with rfl | hi
        · omega
        · exact c3 i hi
  have nn : ∀ j, 1 ≤ j → j ≤ m → ∀ i ∈ col :: ord, 0 ≤ nearD a u v (p.getD i 0) j := fun j h1 h2 i hi => by
    have := h.feas (p.getD i 0) j (ple i hi).1 (ple i hi).2 h1 h2
    unfold nearD; omega
  obtain ⟨jf, jf1, jf2, jf3⟩ := hp.free
  have jfn : jf ∉ col :: ord := fun hx => op' jf hx jf3
  have hn0 : s.2.2 ≠ 0 := fun e => by
    have := (us' jf).1 (hN.none e jf jf1 jf2)
    exact jfn this
  obtain ⟨nm, nu, nmin⟩ := hN.some hn0
  have nno : s.2.2 ∉ col :: ord := fun hx => by rw [(us' _).2 hx] at nu; cases nu
  have n1 : 1 ≤ s.2.2 := Nat.pos_of_ne_zero hn0
  obtain ⟨kx1, kx2, kx3⟩ := key s.2.2 n1 nm nno
  obtain ⟨b, hb⟩ : ∃ b, s.1.getD s.2.2 0 = b := ⟨_, rfl⟩
  have hb0 : 0 ≤ b := by rw [← hb, kx2]; exact nn _ n1 nm _ kx1
  have hbmin : ∀ j, 1 ≤ j → j ≤ m → j ∉ col :: ord → ∀ i ∈ col :: ord, b ≤ nearD a u v (p.getD i 0) j := fun j h1 h2 h3 i hi => by
    have := nmin j h1 h2 (un' j h3)
    have := (key j h1 h2 h3).2.2 i hi
    omega
  have hS := shift_ok b (used.set col true) p (u, v, s.1) (m + 1) (by show m + 1 ≤ v.length; rw [h.lv]; omega) (by show m + 1 ≤ s.1.length; rw [hN.l1, h.ll]; omega)
    (fun j hj => by show p.getD j 0 < u.length; rw [h.lu]; have := hp.le (j := j) (by omega); have := hp.rn; omega)
    (fun i j hi hj hiu hju e => hp.inj i j (by omega) (by omega) e (op' i ((us' i).1 hiu)))
  rw [hb] at ht
  rw [ht] at hS
  have U1 : ∀ j ∈ col :: ord, t.1.getD (p.getD j 0) 0 = u.getD (p.getD j 0) 0 + b := fun j hj => hS.up j (by have := om' j hj; omega) ((us' j).2 hj)
  have U2 : ∀ i, (∀ j ∈ col :: ord, p.getD j 0 ≠ i) → t.1.getD i 0 = u.getD i 0 := fun i hi => hS.flat i (fun j _ hju => hi j ((us' j).1 hju))
  have V1 : ∀ j ∈ col :: ord, t.2.1.getD j 0 = v.getD j 0 - b := fun j hj => hS.down j (by have := om' j hj; omega) ((us' j).2 hj)
  have V2 : ∀ j, j ∉ col :: ord → t.2.1.getD j 0 = v.getD j 0 := fun j hj => hS.keep j (.inr (un' j hj))
  have W : ∀ j ∈ col :: ord, s.2.1.getD j 0 = way.getD j 0 := fun j hj => (hN.same j (.inr (.inr ((us' j).2 hj)))).2
  have Udec : ∀ i, (∃ j ∈ col :: ord, p.getD j 0 = i) ∨ (∀ j ∈ col :: ord, p.getD j 0 ≠ i) := fun i => by
    by_cases hx : ∃ j ∈ col :: ord, p.getD j 0 = i
    · exact .inl hx
    · exact .inr fun j hj e => hx ⟨j, hj, e⟩
  -- the same sums of what is used
  have keep2 : ∀ i ∈ col :: ord, ∀ j ∈ col :: ord, t.1.getD (p.getD i 0) 0 + t.2.1.getD j 0 = u.getD (p.getD i 0) 0 + v.getD j 0 := fun i hi j hj => by rw [U1 i hi, V1 j hj]; omega
  have hdr : r = p.getD 0 0 := hp.p0.symm
  have hbd : b ≤ DEAR - dl := by
    have h1 := hbmin jf jf1 jf2 jfn 0 z'
    have h2 := (ha r jf hp.r1 hp.rn jf1 jf2).2
    have h3 := h.vfree jf jf1 jf2 jf3
    have h4 := h.dr
    unfold nearD at h1
    rw [← hdr] at h1
    omega
  refine ⟨hn0, dl + b, ?_⟩
  refine ⟨hS.l1.trans h.lu, hS.l2.trans h.lv, hS.l3.trans (hN.l1.trans h.ll), hN.l2.trans h.lw, by simpa using h.ls, nm, nno, us', om', op', ?_, ?_, ?_, ?_, ?_, ?_, ?_, ?_, ?_, ?_, ?_, ?_, ?_, ?_, ?_⟩
  · -- path
    refine ⟨?_, h.nc, h.path.congr fun j hj => W j (List.mem_cons_of_mem _ hj)⟩
    rcases h.hd with ⟨e1, e2⟩ | ⟨_, e2, e3, _⟩
    · exact .inl ⟨e2, e1⟩
    · exact .inr ⟨e2, by rw [W col (by simp)]; exact e3⟩
  · -- hd
    refine .inr ⟨by simp, hn0, kx1, ?_⟩
    rw [U1 _ kx1, V2 _ nno]
    rw [hb] at kx2
    unfold nearD at kx2
    omega
  · -- tp
    intro j hj hj0
    rw [W j hj]
    rcases List.mem_cons.1 hj with rfl | hjo
    · rcases h.hd with ⟨_, e⟩ | ⟨_, _, e3, e4⟩
      · exact absurd e hj0
      · rw [keep2 _ (List.mem_cons_of_mem _ e3) _ hj]; exact e4
    · have hw : way.getD j 0 ∈ ord := by
        suffices H : ∀ o : List Nat, Path way o → ∀ j ∈ o, j ≠ 0 → way.getD j 0 ∈ o from H ord h.path j hjo hj0
        intro o
        induction o with
        | nil => intro _ j hj; simp at hj
        | cons x r ih =>
          intro hp j hj h0
          rcases List.mem_cons.1 hj with rfl | hj
          · rcases hp.1 with ⟨e, _⟩ | ⟨_, e⟩
            · exact absurd e h0
            · exact List.mem_cons_of_mem _ e
          · exact List.mem_cons_of_mem _ (ih hp.2.2 j hj h0)
      rw [keep2 _ (List.mem_cons_of_mem _ hw) _ hj]
      exact h.tp j hjo hj0
  · -- feas
    intro i j h1 h2 h3 h4
    have hf := h.feas i j h1 h2 h3 h4
    rcases Udec i with ⟨i0, hi0, rfl⟩ | hi
    · by_cases hj : j ∈ col :: ord
      · rw [keep2 _ hi0 _ hj]; exact hf
      · rw [U1 _ hi0, V2 _ hj]
        have := hbmin j h3 h4 hj i0 hi0
        unfold nearD at this
        omega
    · rw [U2 i hi]
      by_cases hj : j ∈ col :: ord
      · rw [V1 j hj]; omega
      · rw [V2 j hj]; exact hf
  · -- tm
    intro j h1 h2 h3
    have hf := h.tm j h1 h2 h3
    by_cases hj : j ∈ col :: ord
    · rw [keep2 _ hj _ hj]; exact hf
    · rw [U2 _ (fun i hi e => hj (by have := hp.inj i j (om' i hi) h2 e (op' i hi); rwa [this] at hi)), V2 j hj]; exact hf
  · -- vneg
    intro j h1 h2
    have := h.vneg j h1 h2
    by_cases hj : j ∈ col :: ord
    · rw [V1 j hj]; omega
    · rw [V2 j hj]; exact this
  · -- vfree
    intro j h1 h2 h3
    rw [V2 j (fun hj => op' j hj h3)]; exact h.vfree j h1 h2 h3
  · -- le
    intro _ j h1 h2 h3
    obtain ⟨k1, k2, k3⟩ := key j h1 h2 h3
    have hl : t.2.2.getD j 0 = s.1.getD j 0 - b := hS.less j (by omega) (un' j h3)
    refine ⟨k1, ?_, fun i hi => ?_⟩
    · rw [hl, k2]; unfold nearD; rw [U1 _ k1, V2 _ h3]; omega
    · have := k3 i hi
      rw [hl]; unfold nearD at this ⊢; rw [U1 _ hi, V2 _ h3]; omega
  · intro e; simp at e
  · have := h.d0; omega
  · omega
  · have := U1 0 z'
    rw [← hdr] at this
    rw [this, h.dr]
  · intro i
    have := h.du i
    have := h.d0
    rcases Udec i with ⟨i0, hi0, rfl⟩ | hi
    · rw [U1 _ hi0]; omega
    · rw [U2 i hi]; omega
  · intro j
    have := h.dv j
    by_cases hj : j ∈ col :: ord
    · rw [V1 j hj]; omega
    · rw [V2 j hj]; omega
  · intro i hi
    rw [U2 i (fun j hj e => by have := hp.le (om' j hj); omega)]
    exact h.fl i hi
theorem search_ok {a : Nat → Nat → Int} {n m r : Nat} {u0 v0 : List Int} {p : List Nat} (hp : PC n m r p) (ha : ∀ i j, 1 ≤ i → i ≤ n → 1 ≤ j → j ≤ m → 0 ≤ a i j ∧ a i j ≤ DEAR)
    (hu0 : ∀ i, -(1000 * DEAR) ≤ u0.getD i 0) (hv0 : ∀ j, -(1000 * DEAR) ≤ v0.getD j 0) : ∀ (f : Nat) (ord : List Nat) (col : Nat) (u v least : List Int) (way : List Nat) (used : List Bool) (dl : Int),
    SI a n m r u0 v0 p ord col u v least way used dl → p.getD col 0 ≠ 0 → m + 1 ≤ f + ord.length →
    ∃ ord' least' used' dl' u' v' way' col', searchF a m p f col u v least way used = (u', v', way', col') ∧ SI a n m r u0 v0 p ord' col' u' v' least' way' used' dl' ∧ col' ≠ 0 ∧ p.getD col' 0 = 0 := by
  intro f
  induction f with
  | zero =>
    intro ord col u v least way used dl h hpc hf
    exfalso
    obtain ⟨jf, jf1, jf2, jf3⟩ := hp.free
    have hnd := h.path.nodup
    have : (jf :: ord).length ≤ (List.range (m + 1)).length := length_le_of_nodup _ _ (List.nodup_cons.2 ⟨fun hx => h.op jf hx jf3, hnd⟩) (fun x hx => by
      rcases List.mem_cons.1 hx with rfl | hx
      · exact List.mem_range.2 (by omega)
      · exact List.mem_range.2 (by have := h.om x hx; omega))
    simp at this; omega
  | succ f ih =>
    intro ord col u v least way used dl h hpc hf
    obtain ⟨s, hs⟩ : ∃ s, nearF (nearD a u v (p.getD col 0)) (used.set col true) col least way m = s := ⟨_, rfl⟩
    obtain ⟨t, ht⟩ : ∃ t, shiftF (s.1.getD s.2.2 0) (used.set col true) p (u, v, s.1) (m + 1) = t := ⟨_, rfl⟩
    obtain ⟨hn0, dl', hs'⟩ := search_step hp ha hu0 hv0 h hpc hs ht
    rw [searchF_step a m p f col u v least way used hs ht]
    by_cases hpn : p.getD s.2.2 0 = 0
    · rw [if_pos hpn]
      exact ⟨_, _, _, _, _, _, _, _, rfl, hs', hn0, hpn⟩
    · rw [if_neg hpn]
      exact ih _ _ _ _ _ _ _ _ hs' hpn (by simp only [List.length_cons]; omega)
end
section
def augF (way : List Nat) : Nat → Nat → List Nat → List Nat
  | 0, _, p => p
  | f + 1, col, p => if col = 0 then p else augF way f (way.getD col 0) (p.set col (p.getD (way.getD col 0) 0))
/-- But for the column col (a hole), every row up to r has just one column. -/
structure Hole (m r col : Nat) (p : List Nat) : Prop where
  len : p.length = m + 1
  le : ∀ j, j ≤ m → j ≠ col → p.getD j 0 ≤ r
  all : ∀ i, 1 ≤ i → i ≤ r → ∃ j, j ≤ m ∧ j ≠ col ∧ p.getD j 0 = i
  inj : ∀ i j, i ≤ m → j ≤ m → i ≠ col → j ≠ col → p.getD i 0 = p.getD j 0 → p.getD i 0 ≠ 0 → i = j
theorem Hole.move {m r col : Nat} {p : List Nat} (h : Hole m r col p) {w : Nat} (hw : w ≤ m) (hc : col ≤ m) (hne : w ≠ col) : Hole m r w (p.set col (p.getD w 0)) := by
  have hl := h.len
  have e1 : (p.set col (p.getD w 0)).getD col 0 = p.getD w 0 := getD_set_eq _ _ _ _ (by omega)
  have e2 : ∀ j, j ≠ col → (p.set col (p.getD w 0)).getD j 0 = p.getD j 0 := fun j hj => getD_set_ne _ _ _ _ _ (fun e => hj e.symm)
  refine ⟨by simpa using h.len, fun j hj hjw => ?_, fun i h1 h2 => ?_, fun i j hi hj hiw hjw he h0 => ?_⟩
  · by_cases e : j = col
    · subst e; rw [e1]; exact h.le w hw hne
    · rw [e2 j e]; exact h.le j hj e
  · obtain ⟨j, a1, a2, a3⟩ := h.all i h1 h2
    by_cases e : j = w
    · subst e; exact ⟨col, hc, fun e => hne e.symm, e1.trans a3⟩
    · exact ⟨j, a1, e, (e2 j a2).trans a3⟩
  · by_cases ei : i = col <;> by_cases ej : j = col
    · rw [ei, ej]
    · subst ei
      rw [e1, e2 j ej] at he
      rw [e1] at h0
      exact absurd (h.inj w j hw hj hne ej he h0).symm hjw
    · subst ej
      rw [e1, e2 i ei] at he
      rw [e2 i ei] at h0
      exact absurd (h.inj i w hi hw ei hne he h0) hiw
    · rw [e2 i ei, e2 j ej] at he
      rw [e2 i ei] at h0
      exact h.inj i j hi hj ei ej he h0
theorem path_split {way : List Nat} {w : Nat} : ∀ {ord : List Nat}, Path way ord → w ∈ ord → ∃ r, Path way (w :: r) ∧ (∀ j ∈ r, j ∈ ord) ∧ (w :: r).length ≤ ord.length
  | x :: o, h, hw => by
    by_cases e : w = x
    · subst e; exact ⟨o, h, fun j hj => List.mem_cons_of_mem _ hj, Nat.le_refl _⟩
    · obtain ⟨r, h1, h2, h3⟩ := path_split (ord := o) h.2.2 ((List.mem_cons.1 hw).resolve_left e)
      exact ⟨r, h1, fun j hj => List.mem_cons_of_mem _ (h2 j hj), Nat.le_trans h3 (Nat.le_succ _)⟩
/-- ROWS MOVE ALONG THE WAY: then the hole is column 0. tg: which row and column may come together. -/
theorem aug_ok {m r : Nat} {way : List Nat} {p0 : List Nat} {tg : Nat → Nat → Prop} : ∀ (f : Nat) (ord : List Nat) (col : Nat) (p : List Nat), ord.length < f → Path way ord → (∀ j ∈ ord, j ≤ m) → col ≤ m → col ∉ ord →
    ((col = 0 ∧ ord = []) ∨ (col ≠ 0 ∧ way.getD col 0 ∈ ord ∧ tg (p0.getD (way.getD col 0) 0) col)) → (∀ j ∈ ord, p.getD j 0 = p0.getD j 0) → (∀ j ∈ ord, p0.getD j 0 ≠ 0) → (∀ j ∈ ord, j ≠ 0 → tg (p0.getD (way.getD j 0) 0) j) →
    Hole m r col p → (∀ j, 1 ≤ j → j ≤ m → j ≠ col → p.getD j 0 ≠ 0 → tg (p.getD j 0) j) → (∀ j, 1 ≤ j → j ≤ m → p.getD j 0 = 0 → p0.getD j 0 = 0) →
    Hole m r 0 (augF way f col p) ∧ (∀ j, 1 ≤ j → j ≤ m → (augF way f col p).getD j 0 ≠ 0 → tg ((augF way f col p).getD j 0) j) ∧ (∀ j, 1 ≤ j → j ≤ m → (augF way f col p).getD j 0 = 0 → p0.getD j 0 = 0) := by
  intro f
  induction f with
  | zero => intro ord col p h; omega
  | succ f ih =>
    intro ord col p hf hP hm hc hno hcol hp h0 htp hH htg hz
    rw [augF]
    by_cases e : col = 0
    · subst e
      rw [if_pos rfl]
      exact ⟨hH, fun j h1 h2 h3 => htg j h1 h2 (by omega) h3, hz⟩
    · rw [if_neg e]
      obtain ⟨_, hw, ht⟩ := hcol.resolve_left (fun h => e h.1)
      obtain ⟨o, hPo, hos, hol⟩ := path_split hP hw
      have hwm := hm _ hw
      have hne : way.getD col 0 ≠ col := fun e' => hno (e' ▸ hw)
      have hl := hH.len
      have e1 : (p.set col (p.getD (way.getD col 0) 0)).getD col 0 = p.getD (way.getD col 0) 0 := getD_set_eq _ _ _ _ (by omega)
      have e2 : ∀ j, j ≠ col → (p.set col (p.getD (way.getD col 0) 0)).getD j 0 = p.getD j 0 := fun j hj => getD_set_ne _ _ _ _ _ (fun e => hj e.symm)
      have nc : ∀ j ∈ o, j ≠ col := fun j hj e' => hno (e' ▸ hos j hj)
      refine ih o (way.getD col 0) _ (by simp only [List.length_cons] at hol; omega) hPo.2.2 (fun j hj => hm j (hos j hj)) hwm hPo.2.1 ?_ (fun j hj => by rw [e2 j (nc j hj)]; exact hp j (hos j hj)) (fun j hj => h0 j (hos j hj)) (fun j hj hj0 => htp j (hos j hj) hj0) (hH.move hwm hc hne) (fun j h1 h2 h3 h4 => ?_) (fun j h1 h2 h3 => ?_)
      · rcases hPo.1 with h | ⟨h1, h2⟩
        · exact .inl h
        · exact .inr ⟨h1, h2, htp _ hw h1⟩
      · by_cases ej : j = col
        · subst ej; rw [e1, hp _ hw]; exact ht
        · rw [e2 j ej] at h4 ⊢; exact htg j h1 h2 ej h4
      · by_cases ej : j = col
        · subst ej
          rw [e1, hp _ hw] at h3
          exact absurd h3 (h0 _ hw)
        · rw [e2 j ej] at h3; exact hz j h1 h2 h3

/-! ### a row is placed -/
/-- The first k rows are placed. -/
structure MI (a : Nat → Nat → Int) (n m k : Nat) (u v : List Int) (p : List Nat) (way : List Nat) : Prop where
  lu : u.length = n + 1
  lv : v.length = m + 1
  lp : p.length = m + 1
  lw : way.length = m + 1
  le : ∀ j, 1 ≤ j → j ≤ m → p.getD j 0 ≤ k
  inj : ∀ i j, 1 ≤ i → i ≤ m → 1 ≤ j → j ≤ m → p.getD i 0 = p.getD j 0 → p.getD i 0 ≠ 0 → i = j
  all : ∀ i, 1 ≤ i → i ≤ k → ∃ j, 1 ≤ j ∧ j ≤ m ∧ p.getD j 0 = i
  feas : ∀ i j, 1 ≤ i → i ≤ n → 1 ≤ j → j ≤ m → u.getD i 0 + v.getD j 0 ≤ a i j
  tm : ∀ j, 1 ≤ j → j ≤ m → p.getD j 0 ≠ 0 → u.getD (p.getD j 0) 0 + v.getD j 0 = a (p.getD j 0) j
  vneg : ∀ j, 1 ≤ j → j ≤ m → v.getD j 0 ≤ 0
  vfree : ∀ j, 1 ≤ j → j ≤ m → p.getD j 0 = 0 → v.getD j 0 = 0
  u0 : ∀ i, k < i → u.getD i 0 = 0
  ub : ∀ i, 0 ≤ u.getD i 0 ∧ u.getD i 0 ≤ DEAR * k
  vb : ∀ j, -(DEAR * k) ≤ v.getD j 0 ∧ v.getD j 0 ≤ 0
theorem MI.start {a : Nat → Nat → Int} {n m : Nat} (ha : ∀ i j, 1 ≤ i → i ≤ n → 1 ≤ j → j ≤ m → 0 ≤ a i j ∧ a i j ≤ DEAR) : MI a n m 0 (List.replicate (n + 1) 0) (List.replicate (m + 1) 0) (List.replicate (m + 1) 0) (List.replicate (m + 1) 0) := by
  have g : ∀ (x y : Nat), (List.replicate x (0 : Int)).getD y 0 = 0 := fun x y => by rw [List.getD_eq_getElem?_getD, List.getElem?_replicate]; split <;> rfl
  have g' : ∀ (x y : Nat), (List.replicate x (0 : Nat)).getD y 0 = 0 := fun x y => by rw [List.getD_eq_getElem?_getD, List.getElem?_replicate]; split <;> rfl
  refine ⟨by simp, by simp, by simp, by simp, fun j _ _ => by rw [g']; exact Nat.le_refl _, fun i j _ _ _ _ _ h => absurd (g' _ _) h, fun i h1 h2 => by omega, fun i j h1 h2 h3 h4 => ?_, fun j _ _ h => absurd (g' _ _) h, fun j _ _ => by rw [g]; omega, fun j _ _ _ => g _ _, fun i _ => g _ _, fun i => by rw [g]; simp, fun j => by rw [g]; simp⟩
  rw [g, g]; have := (ha i j h1 h2 h3 h4).1; omega
def placeF (a : Nat → Nat → Int) (_n m r : Nat) (u v : List Int) (p way : List Nat) : List Int × List Int × List Nat × List Nat :=
  ((searchF a m (p.set 0 r) (m + 1) 0 u v (List.replicate (m + 1) BIG) way (List.replicate (m + 1) false)).1, (searchF a m (p.set 0 r) (m + 1) 0 u v (List.replicate (m + 1) BIG) way (List.replicate (m + 1) false)).2.1,
   augF (searchF a m (p.set 0 r) (m + 1) 0 u v (List.replicate (m + 1) BIG) way (List.replicate (m + 1) false)).2.2.1 (m + 2) (searchF a m (p.set 0 r) (m + 1) 0 u v (List.replicate (m + 1) BIG) way (List.replicate (m + 1) false)).2.2.2 (p.set 0 r),
   (searchF a m (p.set 0 r) (m + 1) 0 u v (List.replicate (m + 1) BIG) way (List.replicate (m + 1) false)).2.2.1)
theorem MI.pc {a : Nat → Nat → Int} {n m k : Nat} {u v : List Int} {p way : List Nat} (h : MI a n m k u v p way) (hk : k < n) (hnm : n ≤ m) : PC n m (k + 1) (p.set 0 (k + 1)) := by
  have hl := h.lp
  have e0 : (p.set 0 (k + 1)).getD 0 0 = k + 1 := getD_set_eq _ _ _ _ (by omega)
  have e1 : ∀ j, 1 ≤ j → (p.set 0 (k + 1)).getD j 0 = p.getD j 0 := fun j hj => getD_set_ne _ _ _ _ _ (by omega)
  refine ⟨by simpa using h.lp, e0, by omega, by omega, fun j h1 h2 => by rw [e1 j h1]; have := h.le j h1 h2; omega, fun i j hi hj he h0 => ?_, ?_⟩
  · by_cases ei : i = 0 <;> by_cases ej : j = 0
    · rw [ei, ej]
    · subst ei; rw [e0, e1 j (by omega)] at he; have := h.le j (by omega) hj; omega
    · subst ej; rw [e0, e1 i (by omega)] at he; have := h.le i (by omega) hi; omega
    · rw [e1 i (by omega), e1 j (by omega)] at he
      rw [e1 i (by omega)] at h0
      exact h.inj i j (by omega) hi (by omega) hj he h0
  · refine Classical.byContradiction fun hno => ?_
    have hall : ∀ j, 1 ≤ j → j ≤ m → p.getD j 0 ≠ 0 := fun j h1 h2 h3 => hno ⟨j, h1, h2, by rw [e1 j h1]; exact h3⟩
    have : (List.range m).length ≤ (List.range k).length := map_le (f := fun j => p.getD (j + 1) 0 - 1) (nodup_range m) (fun x hx y hy e => by
      have hx := List.mem_range.1 hx
      have hy := List.mem_range.1 hy
      have a1 := hall (x + 1) (by omega) (by omega)
      have a2 := hall (y + 1) (by omega) (by omega)
      replace e : p.getD (x + 1) 0 - 1 = p.getD (y + 1) 0 - 1 := e
      have := h.inj (x + 1) (y + 1) (by omega) (by omega) (by omega) (by omega) (by omega) a1
      omega) (fun x hx => by
      have hx := List.mem_range.1 hx
      have a1 := hall (x + 1) (by omega) (by omega)
      have a2 := h.le (x + 1) (by omega) (by omega)
      exact List.mem_range.2 (by omega))
    simp at this; omega
/-- What is known of the prices when the search for one more row's column has ended. -/
theorem place_ok {a : Nat → Nat → Int} {n m k : Nat} {u v : List Int} {p way : List Nat} (ha : ∀ i j, 1 ≤ i → i ≤ n → 1 ≤ j → j ≤ m → 0 ≤ a i j ∧ a i j ≤ DEAR) (hn : n ≤ 1000) (hnm : n ≤ m) (hk : k < n) (h : MI a n m k u v p way) :
    MI a n m (k + 1) (placeF a n m (k + 1) u v p way).1 (placeF a n m (k + 1) u v p way).2.1 (placeF a n m (k + 1) u v p way).2.2.1 (placeF a n m (k + 1) u v p way).2.2.2 := by
  have hD : DEAR = 1000000000000 := rfl
  have hp := h.pc hk hnm
  have hl := h.lp
  have e1 : ∀ j, 1 ≤ j → (p.set 0 (k + 1)).getD j 0 = p.getD j 0 := fun j hj => getD_set_ne _ _ _ _ _ (by omega)
  have gb : ∀ j, 1 ≤ j → j ≤ m → (List.replicate (m + 1) BIG).getD j 0 = BIG := fun j _ hj => by rw [List.getD_eq_getElem?_getD, List.getElem?_replicate, if_pos (by omega)]; rfl
  have hkd : DEAR * k ≤ DEAR * 1000 := Int.mul_le_mul_of_nonneg_left (by omega) (by omega)
  have hs0 : SI a n m (k + 1) u v (p.set 0 (k + 1)) [] 0 u v (List.replicate (m + 1) BIG) way (List.replicate (m + 1) false) 0 := by
    refine ⟨h.lu, h.lv, by simp, h.lw, by simp, by omega, by simp, fun j => ⟨fun h => absurd h fresh_false, fun h => by simp at h⟩, by simp, by simp, trivial, .inl ⟨rfl, rfl⟩, by simp, h.feas, fun j h1 h2 h3 => ?_, h.vneg, fun j h1 h2 h3 => ?_, fun h => absurd rfl h, fun _ => gb, Int.le_refl _, by omega, h.u0 _ (by omega), fun i => by omega, fun j => by omega, fun _ _ => rfl⟩
    · rw [e1 j h1] at h3 ⊢; exact h.tm j h1 h2 h3
    · rw [e1 j h1] at h3; exact h.vfree j h1 h2 h3
  obtain ⟨ord, least', used', dl, u', v', way', col', he, hs, hc0, hcz⟩ := search_ok hp ha (fun i => by have := (h.ub i).1; omega) (fun j => by have := (h.vb j).1; omega) (m + 1) [] 0 u v _ way _ 0 hs0 (by rw [hp.p0]; omega) (by simp)
  unfold placeF
  rw [he]
  show MI a n m (k + 1) u' v' (augF way' (m + 2) col' (p.set 0 (k + 1))) way'
  have hol : ord.length ≤ m + 1 := by
    have := length_le_of_nodup ord (List.range (m + 1)) hs.path.nodup (fun x hx => List.mem_range.2 (by have := hs.om x hx; omega))
    simpa using this
  have hnc := hs.nc
  have hH : Hole m (k + 1) col' (p.set 0 (k + 1)) := by
    refine ⟨hp.len, fun j hj _ => hp.le hj, fun i h1 h2 => ?_, fun i j hi hj _ _ e h0 => hp.inj i j hi hj e h0⟩
    by_cases ei : i = k + 1
    · subst ei; exact ⟨0, by omega, fun e => hc0 e.symm, hp.p0⟩
    · obtain ⟨j, a1, a2, a3⟩ := h.all i h1 (by omega)
      refine ⟨j, a2, fun e => ?_, by rw [e1 j a1]; exact a3⟩
      subst e
      rw [e1 j a1] at hcz; omega
  obtain ⟨A1, A2, A3⟩ := aug_ok (m := m) (r := k + 1) (way := way') (p0 := p.set 0 (k + 1)) (tg := fun i j => u'.getD i 0 + v'.getD j 0 = a i j) (m + 2) ord col' (p.set 0 (k + 1)) (by omega) hs.path hs.om hs.cm hnc
    (.inr (by
      rcases hs.hd with ⟨_, e⟩ | ⟨_, e2, e3, e4⟩
      · exact absurd e hc0
      · exact ⟨hc0, e3, e4⟩)) (fun _ _ => rfl) hs.op hs.tp hH (fun j h1 h2 _ h4 => hs.tm j h1 h2 h4) (fun _ _ _ h => h)
  have hdl0 := hs.d0
  have hdl1 := hs.d1
  have hsum : DEAR * ((k + 1 : Nat) : Int) = DEAR * k + DEAR := by rw [Int.natCast_add, Int.mul_add]; simp
  refine ⟨hs.lu, hs.lv, A1.len, hs.lw, fun j h1 h2 => A1.le j h2 (by omega), fun i j h1 h2 h3 h4 e h0 => A1.inj i j h2 h4 (by omega) (by omega) e h0, fun i h1 h2 => ?_, hs.feas, A2, hs.vneg, fun j h1 h2 h3 => hs.vfree j h1 h2 (A3 j h1 h2 h3), fun i hi => ?_, fun i => ?_, fun j => ?_⟩
  · obtain ⟨j, b1, b2, b3⟩ := A1.all i h1 h2
    exact ⟨j, by omega, b1, b3⟩
  · rw [hs.fl i hi]; exact h.u0 i (by omega)
  · have := hs.du i
    have := h.ub i
    omega
  · have := hs.dv j
    have := h.vb j
    omega
def solveF (a : Nat → Nat → Int) (n m : Nat) : Nat → List Int × List Int × List Nat × List Nat
  | 0 => (List.replicate (n + 1) 0, List.replicate (m + 1) 0, List.replicate (m + 1) 0, List.replicate (m + 1) 0)
  | k + 1 => placeF a n m (k + 1) (solveF a n m k).1 (solveF a n m k).2.1 (solveF a n m k).2.2.1 (solveF a n m k).2.2.2
theorem solve_ok {a : Nat → Nat → Int} {n m : Nat} (ha : ∀ i j, 1 ≤ i → i ≤ n → 1 ≤ j → j ≤ m → 0 ≤ a i j ∧ a i j ≤ DEAR) (hn : n ≤ 1000) (hnm : n ≤ m) : ∀ k, k ≤ n → MI a n m k (solveF a n m k).1 (solveF a n m k).2.1 (solveF a n m k).2.2.1 (solveF a n m k).2.2.2
  | 0, _ => MI.start ha
  | k + 1, hk => place_ok ha hn hnm (by omega) (solve_ok ha hn hnm k (by omega))

/-! ### the cheapest assignment -/
/-- A table whose costs are -1 to 10^9. -/
def CostOk (T : List (List Int)) (m : Nat) : Prop := ∀ i j, i < T.length → j < m → -1 ≤ ct T i j ∧ ct T i j ≤ 1000000000
theorem aF_bd {T : List (List Int)} {m : Nat} (h : CostOk T m) : ∀ i j, 1 ≤ i → i ≤ T.length → 1 ≤ j → j ≤ m → 0 ≤ aF T i j ∧ aF T i j ≤ DEAR := fun i j h1 h2 h3 h4 => by
  have := h (i - 1) (j - 1) (by omega) (by omega)
  have hD : DEAR = 1000000000000 := rfl
  unfold aF
  split <;> omega
/-- The column of row i, of a finished solver. -/
noncomputable def toOf (p : List Nat) (m i : Nat) : Nat := by
  classical
  exact if h : ∃ j, j < m ∧ p.getD (j + 1) 0 = i + 1 then Classical.choose h else 0
/-- THE PRICES AND ROWS OF A FINISHED SOLVER PROVE AN ASSIGNMENT, if the table has one. -/
theorem solver_opt {T : List (List Int)} {m : Nat} {u v : List Int} {p way : List Nat} (hc : CostOk T m) (hn : T.length ≤ 64) (h : MI (aF T) T.length m T.length u v p way) (hx : ∃ to, Asg T m to) :
    Duals T m (fun i => u.getD (i + 1) 0) (fun j => v.getD (j + 1) 0) ∧ Opt T m (fun i => u.getD (i + 1) 0) (fun j => v.getD (j + 1) 0) ((List.range T.length).map (toOf p m)) ∧
    (∀ j, j < m → p.getD (j + 1) 0 ≠ 0 → 0 ≤ ct T (p.getD (j + 1) 0 - 1) j) ∧ sumN (fun j => if p.getD (j + 1) 0 = 0 then 0 else ct T (p.getD (j + 1) 0 - 1) j) m = costA T ((List.range T.length).map (toOf p m)) := by
  have hD : DEAR = 1000000000000 := rfl
  have hbd := aF_bd hc
  have to1 : ∀ i, i < T.length → toOf p m i < m ∧ p.getD (toOf p m i + 1) 0 = i + 1 := fun i hi => by
    have hex : ∃ j, j < m ∧ p.getD (j + 1) 0 = i + 1 := by
      obtain ⟨j, h1, h2, h3⟩ := h.all (i + 1) (by omega) (by omega)
      exact ⟨j - 1, by omega, by rw [show j - 1 + 1 = j by omega]; exact h3⟩
    unfold toOf
    rw [dif_pos hex]
    exact Classical.choose_spec hex
  have to2 : ∀ j, j < m → p.getD (j + 1) 0 ≠ 0 → toOf p m (p.getD (j + 1) 0 - 1) = j := fun j hj h0 => by
    have hle := h.le (j + 1) (by omega) (by omega)
    obtain ⟨h1, h2⟩ := to1 (p.getD (j + 1) 0 - 1) (by omega)
    have := h.inj (toOf p m (p.getD (j + 1) 0 - 1) + 1) (j + 1) (by omega) (by omega) (by omega) (by omega) (by omega) (by omega)
    omega
  -- the sum of what is paid, by prices
  have hget : ∀ i, i < T.length → ((List.range T.length).map (toOf p m)).getD i 0 = toOf p m i := fun i hi => by rw [getD_get _ _ _ (by simpa using hi)]; simp
  have hnd : ((List.range T.length).map (toOf p m)).Nodup := nodup_map (nodup_range _) (fun x hx y hy e => by
    have a1 := (to1 x (List.mem_range.1 hx)).2
    have a2 := (to1 y (List.mem_range.1 hy)).2
    rw [e] at a1
    omega)
  have tight : ∀ i, i < T.length → u.getD (i + 1) 0 + v.getD (toOf p m i + 1) 0 = aF T (i + 1) (toOf p m i + 1) := fun i hi => by
    obtain ⟨h1, h2⟩ := to1 i hi
    have := h.tm (toOf p m i + 1) (by omega) (by omega) (by omega)
    rwa [h2] at this
  have hfree : sumN (fun j => if j ∈ (List.range T.length).map (toOf p m) then 0 else v.getD (j + 1) 0) m = 0 := by
    rw [sumN_congr (g := fun _ => 0) m (fun j hj => ?_), sumN_zero]
    by_cases hm : j ∈ (List.range T.length).map (toOf p m)
    · rw [if_pos hm]
    · rw [if_neg hm]
      refine h.vfree (j + 1) (by omega) (by omega) (Classical.byContradiction fun h0 => hm ?_)
      have hle := h.le (j + 1) (by omega) (by omega)
      exact List.mem_map.2 ⟨p.getD (j + 1) 0 - 1, List.mem_range.2 (by omega), to2 j hj h0⟩
  have hsum : sumN (fun i => aF T (i + 1) (toOf p m i + 1)) T.length = sumN (fun i => u.getD (i + 1) 0) T.length + sumN (fun j => v.getD (j + 1) 0) m := by
    rw [sumN_list (fun j => v.getD (j + 1) 0) m _ hnd (fun j hj => by obtain ⟨i, hi, rfl⟩ := List.mem_map.1 hj; exact (to1 i (List.mem_range.1 hi)).1), hfree, sumN_map, List.length_map, List.length_range]
    rw [sumN_congr (f := fun i => v.getD (((List.range T.length).map (toOf p m)).getD i 0 + 1) 0) (g := fun i => v.getD (toOf p m i + 1) 0) _ (fun i hi => by rw [hget i hi])]
    rw [Int.add_zero, ← sumN_add]
    exact sumN_congr _ (fun i hi => (tight i hi).symm)
  -- it is little, by an assignment that there is
  obtain ⟨to, hto⟩ := hx
  have hlow : sumN (fun i => u.getD (i + 1) 0) T.length + sumN (fun j => v.getD (j + 1) 0) m ≤ costA T to := by
    rw [sumN_list (fun j => v.getD (j + 1) 0) m to hto.nd hto.lt, sumN_map, hto.len]
    have h1 : sumN (fun i => u.getD (i + 1) 0 + v.getD (to.getD i 0 + 1) 0) T.length ≤ costA T to := sumN_le _ (fun i hi => by
      obtain ⟨h1, h2⟩ := hto.ok i hi
      have := h.feas (i + 1) (to.getD i 0 + 1) (by omega) (by omega) (by omega) (by omega)
      unfold aF at this
      simp only [Nat.add_sub_cancel] at this
      rw [if_neg (by omega)] at this
      exact this)
    rw [sumN_add] at h1
    have h2 : sumN (fun j => if j ∈ to then 0 else v.getD (j + 1) 0) m ≤ sumN (fun _ => 0) m := sumN_le _ (fun j hj => by
      by_cases hm : j ∈ to
      · rw [if_pos hm]; exact Int.le_refl _
      · rw [if_neg hm]; exact h.vneg (j + 1) (by omega) (by omega))
    rw [sumN_zero] at h2
    omega
  have hcost : costA T to ≤ 1000000000 * T.length := (sumN_bd _ (fun i hi => ⟨(hto.ok i hi).2, (hc i _ hi (hto.ok i hi).1).2⟩)).2
  have hpos : ∀ i, i < T.length → aF T (i + 1) (toOf p m i + 1) < DEAR := fun i hi => by
    have hnn : ∀ i, i < T.length → 0 ≤ aF T (i + 1) (toOf p m i + 1) := fun i hi => (hbd _ _ (by omega) (by omega) (by omega) (by have := (to1 i hi).1; omega)).1
    have hone : aF T (i + 1) (toOf p m i + 1) ≤ sumN (fun i => aF T (i + 1) (toOf p m i + 1)) T.length := by
      have h1 : sumN (fun k => if k = i then aF T (i + 1) (toOf p m i + 1) else 0) T.length ≤ sumN (fun i => aF T (i + 1) (toOf p m i + 1)) T.length := sumN_le _ (fun k hk => by
        by_cases e : k = i
        · subst e; rw [if_pos rfl]; exact Int.le_refl _
        · rw [if_neg e]; exact hnn k hk)
      rw [sumN_one, if_pos hi] at h1
      exact h1
    omega
  have hct : ∀ i, i < T.length → 0 ≤ ct T i (toOf p m i) ∧ aF T (i + 1) (toOf p m i + 1) = ct T i (toOf p m i) := fun i hi => by
    have h1 := hpos i hi
    have h2 := (hc i _ hi (to1 i hi).1).1
    unfold aF at h1 ⊢
    simp only [Nat.add_sub_cancel] at h1 ⊢
    by_cases e : ct T i (toOf p m i) = -1
    · rw [if_pos e] at h1; omega
    · rw [if_neg e]; exact ⟨by omega, rfl⟩
  refine ⟨⟨fun j hj => h.vneg (j + 1) (by omega) (by omega), fun i hi j hj h0 => ?_⟩, ⟨by simp, hnd, fun i hi => ?_, fun j hj hv => ?_⟩, fun j hj h0 => ?_, ?_⟩
  · have := h.feas (i + 1) (j + 1) (by omega) (by omega) (by omega) (by omega)
    unfold aF at this
    simp only [Nat.add_sub_cancel] at this
    rw [if_neg (by omega)] at this
    exact this
  · rw [hget i hi]
    exact ⟨(to1 i hi).1, (hct i hi).1, by have := tight i hi; rw [(hct i hi).2] at this; exact this⟩
  · have h0 : p.getD (j + 1) 0 ≠ 0 := fun e => by
      have := h.vfree (j + 1) (by omega) (by omega) e
      omega
    have hle := h.le (j + 1) (by omega) (by omega)
    exact List.mem_map.2 ⟨p.getD (j + 1) 0 - 1, List.mem_range.2 (by omega), to2 j hj h0⟩
  · have hle := h.le (j + 1) (by omega) (by omega)
    have := (hct (p.getD (j + 1) 0 - 1) (by omega)).1
    rwa [to2 j hj h0] at this
  · rw [sumN_list _ m _ hnd (fun j hj => by obtain ⟨i, hi, rfl⟩ := List.mem_map.1 hj; exact (to1 i (List.mem_range.1 hi)).1), sumN_map, List.length_map, List.length_range]
    have hz : sumN (fun j => if j ∈ (List.range T.length).map (toOf p m) then 0 else if p.getD (j + 1) 0 = 0 then 0 else ct T (p.getD (j + 1) 0 - 1) j) m = 0 := by
      rw [sumN_congr (g := fun _ => 0) m (fun j hj => ?_), sumN_zero]
      by_cases hm : j ∈ (List.range T.length).map (toOf p m)
      · rw [if_pos hm]
      · rw [if_neg hm, if_pos]
        refine Classical.byContradiction fun h0 => hm ?_
        have hle := h.le (j + 1) (by omega) (by omega)
        exact List.mem_map.2 ⟨p.getD (j + 1) 0 - 1, List.mem_range.2 (by omega), to2 j hj h0⟩
    rw [hz, Int.add_zero]
    refine sumN_congr _ (fun i hi => ?_)
    rw [hget i hi, (to1 i hi).2, if_neg (by omega), Nat.add_sub_cancel]
end
section
/-- The best assignment, if there is one. -/
def bestO (T : List (List Int)) (m : Nat) : Option (List Nat × Int) := if (bruteF T m T.length [] ([], 0, false)).2.2 = true then some ((bruteF T m T.length [] ([], 0, false)).1, (bruteF T m T.length [] ([], 0, false)).2.1) else none
theorem bestO_some {T : List (List Int)} {m : Nat} {to : List Nat} {c : Int} (h : bestO T m = some (to, c)) : IsBest T m to c := by
  unfold bestO at h
  rcases brute_best T m with ⟨h1, _⟩ | ⟨h1, h2⟩
  · rw [if_neg (by rw [h1]; simp)] at h; cases h
  · rw [if_pos h1] at h
    simp only [Option.some.injEq, Prod.mk.injEq] at h
    rw [← h.1, ← h.2]; exact h2
theorem bestO_none {T : List (List Int)} {m : Nat} (h : bestO T m = none) : ¬ ∃ to, Asg T m to := by
  unfold bestO at h
  rcases brute_best T m with ⟨_, h2⟩ | ⟨h1, _⟩
  · exact h2
  · rw [if_pos h1] at h; cases h
theorem bestO_eq {T : List (List Int)} {m : Nat} {to : List Nat} {c : Int} (h : IsBest T m to c) : bestO T m = some (to, c) := by
  cases hb : bestO T m with
  | none => exact absurd ⟨to, h.asg⟩ (bestO_none hb)
  | some x =>
    obtain ⟨a, d⟩ := x
    obtain ⟨e1, e2⟩ := (bestO_some hb).unique h
    rw [e1, e2]
theorem bestO_no {T : List (List Int)} {m : Nat} (h : ¬ ∃ to, Asg T m to) : bestO T m = none := by
  cases hb : bestO T m with
  | none => rfl
  | some x => exact absurd ⟨_, (bestO_some (to := x.1) (c := x.2) hb).asg⟩ h
theorem bestO_iff (T : List (List Int)) (m : Nat) : bestO T m = none ↔ kuhn (gT T) m (List.range T.length) ≠ T.length := by
  rw [Ne, ← asg_iff]
  exact ⟨bestO_none, bestO_no⟩
theorem costA_nonneg {T : List (List Int)} {m : Nat} {to : List Nat} (h : Asg T m to) : 0 ≤ costA T to := by
  have := sumN_le (f := fun _ => 0) (g := fun i => ct T i (to.getD i 0)) T.length (fun i hi => (h.ok i hi).2)
  rw [sumN_zero] at this; exact this

theorem lex_no {a b : List Nat} (h : lexLe a b) {r : Nat} (hr : r < a.length) (hb : r < b.length) (he : ∀ i, i < r → a.getD i 0 = b.getD i 0) (hlt : b.getD r 0 < a.getD r 0) : False := by
  rcases h with h | ⟨i, h1, h2, h3, h4⟩
  · rw [h] at hlt; omega
  · rcases Nat.lt_trichotomy i r with hi | hi | hi
    · have := he i hi; omega
    · subst hi; omega
    · have := take_getD h3 hi; omega
/-- With the columns of the first rows kept, a lesser column of the next row always costs more. -/
theorem forced_law {T T' : List (List Int)} {m r : Nat} {to to' : List Nat} {c : Int} (hlen : T'.length = T.length) (hb : IsBest T m to c) (hr : r < T.length)
    (hct : ∀ i k, i < T.length → k < m → ct T' i k = if (i < r ∧ k ≠ to.getD i 0) ∨ (i = r ∧ to.getD i 0 ≤ k) then -1 else ct T i k) (h' : Asg T' m to') : c < costA T' to' := by
  have key : ∀ i, i < T.length → ¬ ((i < r ∧ to'.getD i 0 ≠ to.getD i 0) ∨ (i = r ∧ to.getD i 0 ≤ to'.getD i 0)) ∧ ct T' i (to'.getD i 0) = ct T i (to'.getD i 0) := fun i hi => by
    obtain ⟨h1, h2⟩ := h'.ok i (by omega)
    have := hct i _ hi h1
    by_cases hc : (i < r ∧ to'.getD i 0 ≠ to.getD i 0) ∨ (i = r ∧ to.getD i 0 ≤ to'.getD i 0)
    · rw [if_pos hc] at this; omega
    · rw [if_neg hc] at this; exact ⟨hc, this⟩
  have ha : Asg T m to' := ⟨by rw [h'.len, hlen], h'.nd, fun i hi => ⟨(h'.ok i (by omega)).1, by rw [← (key i hi).2]; exact (h'.ok i (by omega)).2⟩⟩
  have hcost : costA T' to' = costA T to' := by
    unfold costA; rw [hlen]
    exact sumN_congr _ (fun i hi => (key i hi).2)
  rw [hcost]
  rcases hb.least to' ha with h | ⟨_, h⟩
  · exact h
  · exfalso
    have hl := hb.asg.len
    have hl' := ha.len
    have hrr := (key r hr).1
    refine lex_no h (r := r) (by omega) (by omega) (fun i hi => ?_) ?_
    · have := (key i (by omega)).1
      by_cases e : to'.getD i 0 = to.getD i 0
      · exact e.symm
      · exact absurd (.inl ⟨hi, e⟩) this
    · have : ¬ to.getD r 0 ≤ to'.getD r 0 := fun h => hrr (.inr ⟨rfl, h⟩)
      omega
/-- What an assignment costs where all its costs stay. -/
theorem asg_more {T T' : List (List Int)} {m m' : Nat} {to : List Nat} (hlen : T'.length = T.length) (hm : m ≤ m') (hct : ∀ i k, i < T.length → k < m → 0 ≤ ct T i k → ct T' i k = ct T i k) (h : Asg T m to) : Asg T' m' to ∧ costA T' to = costA T to := by
  have key : ∀ i, i < T.length → ct T' i (to.getD i 0) = ct T i (to.getD i 0) := fun i hi => hct i _ hi (h.ok i hi).1 (h.ok i hi).2
  refine ⟨⟨by rw [h.len, hlen], h.nd, fun i hi => ?_⟩, ?_⟩
  · obtain ⟨h1, h2⟩ := h.ok i (by omega)
    exact ⟨by omega, by rw [key i (by omega)]; exact h2⟩
  · unfold costA; rw [hlen]
    exact sumN_congr _ (fun i hi => key i hi)
theorem columns_law {T T' : List (List Int)} {m m' : Nat} {to : List Nat} {c : Int} (hlen : T'.length = T.length) (hm : m ≤ m') (hct : ∀ i k, i < T.length → k < m → 0 ≤ ct T i k → ct T' i k = ct T i k) (h : IsBest T m to c) : ∃ to' c', bestO T' m' = some (to', c') ∧ c' ≤ c := by
  obtain ⟨h1, h2⟩ := asg_more hlen hm hct h.asg
  cases hb : bestO T' m' with
  | none => exact absurd ⟨to, h1⟩ (bestO_none hb)
  | some x =>
    obtain ⟨a, d⟩ := x
    refine ⟨a, d, rfl, ?_⟩
    have := (bestO_some hb).le h1
    rw [h2, h.cost] at this
    exact this
/-- A row dearer by a constant. -/
theorem shifts_law {T T' : List (List Int)} {m r : Nat} {by_ : Int} (hlen : T'.length = T.length) (hr : r < T.length) (hby : 0 ≤ by_)
    (hct : ∀ i k, i < T.length → k < m → ct T' i k = if i = r ∧ 0 ≤ ct T i k then ct T i k + by_ else ct T i k) : bestO T' m = (bestO T m).map fun x => (x.1, x.2 + by_) := by
  have pos : ∀ i k, i < T.length → k < m → (0 ≤ ct T' i k ↔ 0 ≤ ct T i k) := fun i k hi hk => by
    rw [hct i k hi hk]
    split
    · omega
    · exact Iff.rfl
  have ha : ∀ to, Asg T' m to ↔ Asg T m to := fun to => by
    constructor
    · intro h; exact ⟨by rw [h.len, hlen], h.nd, fun i hi => ⟨(h.ok i (by omega)).1, (pos i _ hi (h.ok i (by omega)).1).1 (h.ok i (by omega)).2⟩⟩
    · intro h; exact ⟨by rw [h.len, hlen], h.nd, fun i hi => ⟨(h.ok i (by omega)).1, (pos i _ (by omega) (h.ok i (by omega)).1).2 (h.ok i (by omega)).2⟩⟩
  have hc : ∀ to, Asg T m to → costA T' to = costA T to + by_ := fun to h => by
    unfold costA
    rw [hlen, sumN_congr (g := fun i => ct T i (to.getD i 0) + if i = r then by_ else 0) _ (fun i hi => ?_), sumN_add, sumN_one, if_pos hr]
    obtain ⟨h1, h2⟩ := h.ok i hi
    rw [hct i _ hi h1]
    by_cases e : i = r
    · rw [if_pos ⟨e, h2⟩, if_pos e]
    · rw [if_neg (fun h => e h.1), if_neg e]; omega
  cases hb : bestO T m with
  | none => exact bestO_no (fun ⟨to, h⟩ => bestO_none hb ⟨to, (ha to).1 h⟩)
  | some x =>
    obtain ⟨to, c⟩ := x
    have hB := bestO_some hb
    refine bestO_eq ⟨(ha to).2 hB.asg, by rw [hc to hB.asg, hB.cost], fun to' h' => ?_⟩
    have h'' := (ha to').1 h'
    rw [hc to' h'']
    rcases hB.least to' h'' with h | ⟨h1, h2⟩
    · left; omega
    · right; exact ⟨by omega, h2⟩
/-! ### a row less -/
theorem sumN_skip (f : Nat → Int) (r : Nat) : ∀ n, r ≤ n → sumN f (n + 1) = sumN (fun i => if i < r then f i else f (i + 1)) n + f r
  | 0, h => by
    obtain rfl : r = 0 := by omega
    simp [sumN]
  | n + 1, h => by
    by_cases e : r = n + 1
    · subst e
      rw [sumN, sumN_congr (f := fun i => if i < n + 1 then f i else f (i + 1)) (g := f) _ (fun i hi => by rw [if_pos hi])]
    · rw [sumN, sumN_skip f r n (by omega), sumN]
      rw [if_neg (by omega : ¬ n < r)]
      omega
theorem eraseIdx_getD {α : Type} (l : List α) (r i : Nat) (d : α) : (l.eraseIdx r).getD i d = l.getD (if i < r then i else i + 1) d := by
  rw [List.getD_eq_getElem?_getD, List.getD_eq_getElem?_getD, List.getElem?_eraseIdx]
  split <;> rfl
theorem ct_erase (T : List (List Int)) (r i k : Nat) : ct (T.eraseIdx r) i k = ct T (if i < r then i else i + 1) k := by
  unfold ct
  rw [eraseIdx_getD]
theorem nodup_eraseIdx {l : List Nat} (h : l.Nodup) (r : Nat) : (l.eraseIdx r).Nodup := h.sublist (List.eraseIdx_sublist l r)
theorem fewer_asg {T : List (List Int)} {m r : Nat} {to : List Nat} (hr : r < T.length) (h : Asg T m to) : Asg (T.eraseIdx r) m (to.eraseIdx r) ∧ costA (T.eraseIdx r) (to.eraseIdx r) = costA T to - ct T r (to.getD r 0) := by
  have hl := h.len
  have hlt : (T.eraseIdx r).length = T.length - 1 := List.length_eraseIdx_of_lt hr
  refine ⟨⟨by rw [hlt, List.length_eraseIdx_of_lt (by omega), hl], nodup_eraseIdx h.nd r, fun i hi => ?_⟩, ?_⟩
  · rw [hlt] at hi
    rw [ct_erase, eraseIdx_getD]
    by_cases e : i < r
    · rw [if_pos e]; exact h.ok i (by omega)
    · rw [if_neg e]; exact h.ok (i + 1) (by omega)
  · obtain ⟨n, hn⟩ : ∃ n, T.length = n + 1 := ⟨T.length - 1, by omega⟩
    unfold costA
    rw [hlt, hn, Nat.add_sub_cancel, sumN_skip _ r n (by omega), sumN_congr (g := fun i => if i < r then ct T i (to.getD i 0) else ct T (i + 1) (to.getD (i + 1) 0)) _ (fun i _ => ?_)]
    · omega
    · rw [ct_erase, eraseIdx_getD]
      by_cases e : i < r
      · simp only [if_pos e]
      · simp only [if_neg e]
theorem fewer_law {T : List (List Int)} {m r : Nat} {to : List Nat} {c : Int} (hr : r < T.length) (h : IsBest T m to c) : ∃ to' c', bestO (T.eraseIdx r) m = some (to', c') ∧ c' ≤ c - ct T r (to.getD r 0) ∧ 0 ≤ c' := by
  obtain ⟨h1, h2⟩ := fewer_asg hr h.asg
  cases hb : bestO (T.eraseIdx r) m with
  | none => exact absurd ⟨_, h1⟩ (bestO_none hb)
  | some x =>
    obtain ⟨a, d⟩ := x
    have hB := bestO_some hb
    refine ⟨a, d, rfl, ?_, ?_⟩
    · have := hB.le h1
      rw [h2, h.cost] at this; exact this
    · rw [← hB.cost]; exact costA_nonneg hB.asg
/-! ### the table turned -/
theorem perm_inv {n : Nat} {to : List Nat} (hl : to.length = n) (hn : to.Nodup) (hm : ∀ j ∈ to, j < n) : ∃ inv : Nat → Nat, ∀ j, j < n → inv j < n ∧ to.getD (inv j) 0 = j := by
  have hall : ∀ j ∈ List.range n, j ∈ to := mem_of_full hn (fun j hj => List.mem_range.2 (hm j hj)) (by simp [hl])
  have hx : ∀ j, ∃ i, j < n → i < n ∧ to.getD i 0 = j := fun j => by
    by_cases h : j < n
    · obtain ⟨i, hi, e⟩ := mem_getD (hall j (List.mem_range.2 h))
      exact ⟨i, fun _ => ⟨by omega, e⟩⟩
    · exact ⟨0, fun h' => absurd h' h⟩
  exact Classical.skolem.1 hx
theorem turned_asg {T T' : List (List Int)} {to : List Nat} (hlen : T'.length = T.length) (hct : ∀ i k, i < T.length → k < T.length → ct T' k i = ct T i k) (h : Asg T T.length to) : ∃ to', Asg T' T'.length to' ∧ costA T' to' = costA T to := by
  obtain ⟨inv, hinv⟩ := perm_inv h.len h.nd h.lt
  have hl := h.len
  have hget : ∀ j, j < T.length → ((List.range T.length).map inv).getD j 0 = inv j := fun j hj => by rw [getD_get _ _ _ (by simpa using hj)]; simp
  refine ⟨(List.range T.length).map inv, ⟨by simp [hlen], nodup_map (nodup_range _) (fun x hx y hy e => ?_), fun j hj => ?_⟩, ?_⟩
  · have a1 := (hinv x (List.mem_range.1 hx)).2
    have a2 := (hinv y (List.mem_range.1 hy)).2
    rw [e, a2] at a1; exact a1.symm
  · rw [hlen] at hj
    obtain ⟨a1, a2⟩ := hinv j hj
    rw [hget j hj, hlen]
    have := (h.ok (inv j) a1).2
    rw [a2] at this
    exact ⟨a1, by rw [hct _ _ a1 hj]; exact this⟩
  · have e1 : costA T' ((List.range T.length).map inv) = sumN (fun j => ct T (inv j) j) T.length := by
      unfold costA; rw [hlen]
      exact sumN_congr _ (fun j hj => by rw [hget j hj, hct _ _ (hinv j hj).1 hj])
    have hall : ∀ j, j < T.length → j ∈ to := fun j hj => by
      obtain ⟨a1, a2⟩ := hinv j hj
      rw [getD_get _ _ _ (by omega)] at a2
      rw [← a2]; exact List.getElem_mem _
    rw [e1, sumN_list (fun j => ct T (inv j) j) T.length to h.nd h.lt, sumN_map, hl, sumN_congr (f := fun j => if j ∈ to then (0 : Int) else ct T (inv j) j) (g := fun _ => 0) _ (fun j hj => by rw [if_pos (hall j hj)]), sumN_zero, Int.add_zero]
    unfold costA
    refine sumN_congr _ (fun i hi => ?_)
    obtain ⟨a1, a2⟩ := hinv (to.getD i 0) (h.ok i hi).1
    have : inv (to.getD i 0) = i := by
      generalize inv (to.getD i 0) = q at a1 a2
      rw [getD_get _ _ _ (by omega), getD_get to i 0 (by omega)] at a2
      exact nodup_inj h.nd _ _ a2
    show ct T (inv (to.getD i 0)) (to.getD i 0) = ct T i (to.getD i 0)
    rw [this]
theorem turned_law {T T' : List (List Int)} (hlen : T'.length = T.length) (hct : ∀ i k, i < T.length → k < T.length → ct T' k i = ct T i k) : (bestO T' T'.length).map (·.2) = (bestO T T.length).map (·.2) := by
  have hct' : ∀ i k, i < T'.length → k < T'.length → ct T k i = ct T' i k := fun i k hi hk => (hct k i (by omega) (by omega)).symm
  cases h1 : bestO T T.length with
  | none =>
    rw [bestO_no]
    rintro ⟨to, h⟩
    obtain ⟨to', h', _⟩ := turned_asg hlen.symm hct' h
    exact bestO_none h1 ⟨to', h'⟩
  | some x =>
    obtain ⟨to, c⟩ := x
    have hB := bestO_some h1
    obtain ⟨to', h', e'⟩ := turned_asg hlen hct hB.asg
    cases h2 : bestO T' T'.length with
    | none => exact absurd ⟨to', h'⟩ (bestO_none h2)
    | some y =>
      obtain ⟨a, d⟩ := y
      have hB2 := bestO_some h2
      obtain ⟨a', h'', e''⟩ := turned_asg hlen.symm hct' hB2.asg
      have l1 := hB2.le h'
      have l2 := hB.le h''
      rw [e', hB.cost] at l1
      rw [e'', hB2.cost] at l2
      show some d = some c
      rw [show d = c by omega]
theorem turned_kuhn {g g' : Nat → Nat → Bool} {n : Nat} (h : ∀ i k, i < n → k < n → g' k i = g i k) : kuhn g' n (List.range n) = kuhn g n (List.range n) := by
  have le : ∀ {g g' : Nat → Nat → Bool}, (∀ i k, i < n → k < n → g' k i = g i k) → kuhn g n (List.range n) ≤ kuhn g' n (List.range n) := fun {g g'} h => by
    obtain ⟨S, f, h1, h2, h3, h4⟩ := kuhn_mat g n (List.range n) (nodup_range n)
    rw [← h3, show S.length = (S.map f).length by simp]
    have hx : ∀ k, ∃ r, k ∈ S.map f → r ∈ S ∧ f r = k := fun k => by
      by_cases hk : k ∈ S.map f
      · obtain ⟨r, hr, e⟩ := List.mem_map.1 hk; exact ⟨r, fun _ => ⟨hr, e⟩⟩
      · exact ⟨0, fun h => absurd h hk⟩
    obtain ⟨w, hw⟩ := Classical.skolem.1 hx
    refine kuhn_max g' n (List.range n) (nodup_range n) (f := w) (nodup_map h1 (fun x hx y hy e => (h4 y hy).2.2 x hx e)) (fun k hk => ?_) (fun k hk => ?_)
    · obtain ⟨a, b⟩ := hw k hk
      rw [← b]; exact List.mem_range.2 (h4 _ a).1
    · obtain ⟨a, b⟩ := hw k hk
      have hr := List.mem_range.1 (h2 _ a)
      have hk' : k < n := by rw [← b]; exact (h4 _ a).1
      refine ⟨hr, ?_, fun q hq e => ?_⟩
      · rw [h _ _ hr hk']
        have := (h4 _ a).2.1
        rwa [b] at this
      · obtain ⟨a2, b2⟩ := hw q hq
        rw [← b2, ← b, e]
  exact Nat.le_antisymm (le (fun i k hi hk => (h k i hk hi).symm)) (le h)
end
end Go.Proofs.Ytjdhcdoekfikpaa
