/-
  Plain mathematics: how many rows can have columns at the same time; the search's number is that (a cover proves it). No program in sight.
-/
import Derived.Test.YtjdhcdoekfikpaaMKuhn
namespace Go.Proofs.Ytjdhcdoekfikpaa

def kuhnF (g : Nat → Nat → Bool) (m : Nat) : List Nat → List Int → Nat → List Int × Nat
  | [], of, n => (of, n)
  | r :: rs, of, n => if (findF g m (m + 1) r of (List.replicate m false)).2.2 = true then kuhnF g m rs (findF g m (m + 1) r of (List.replicate m false)).1 (n + 1) else kuhnF g m rs of n
def kuhn (g : Nat → Nat → Bool) (m : Nat) (rows : List Nat) : Nat := (kuhnF g m rows (List.replicate m (-1)) 0).2

/-- What a matching of some rows is known by: the row of each column; a set of columns that no row outside leaves. -/
structure Cert (g : Nat → Nat → Bool) (m : Nat) (rows : List Nat) (of : List Int) (n : Nat) (C : Nat → Prop) : Prop where
  len : of.length = m
  val : Valid g m of
  one : ∀ r, cn r of ≤ 1
  mem : ∀ r, 0 < cn r of → r ∈ rows
  num : mc of = n
  clo : Clo g m C of
  all : ∀ r ∈ rows, 0 < cn r of ∨ ∀ k, k < m → g r k = true → C k
theorem unseen_fresh (m : Nat) : unseen (List.replicate m false) = m := by simp [unseen]
theorem fresh_false {m k : Nat} : ¬ (List.replicate m false).getD k false = true := by
  rw [List.getD_eq_getElem?_getD, List.getElem?_replicate]; split <;> simp
theorem Cert.start (g : Nat → Nat → Bool) (m : Nat) : Cert g m [] (List.replicate m (-1)) 0 (fun _ => False) := by
  have hg : ∀ k : Nat, (List.replicate m (-1 : Int)).getD k (-1) = -1 := fun k => by
    rw [List.getD_eq_getElem?_getD, List.getElem?_replicate]; split <;> rfl
  have hc : ∀ r, cn r (List.replicate m (-1)) = 0 := fun r => by
    unfold cn; rw [List.count_replicate]; simp
  refine ⟨by simp, fun k _ h => by rw [hg] at h; omega, fun r => by rw [hc]; omega, fun r h => by rw [hc] at h; omega, ?_, fun k h => h.elim, fun r h => by simp at h⟩
  unfold mc; rw [List.countP_replicate]; simp
theorem Cert.step {g : Nat → Nat → Bool} {m : Nat} {rows : List Nat} {of : List Int} {n : Nat} {C : Nat → Prop} (h : Cert g m rows of n C) (r : Nat) (hr : r ∉ rows) {u : Sta} (hu : findF g m (m + 1) r of (List.replicate m false) = u) :
    if u.2.2 = true then Cert g m (rows ++ [r]) u.1 (n + 1) C else u.1 = of ∧ ∃ C', Cert g m (rows ++ [r]) of n C' := by
  have hP := find_post g m of h.len h.val (m + 1) r (List.replicate m false) (by simp) (by rw [unseen_fresh]; omega)
  rw [hu] at hP
  have h0 : cn r of = 0 := by
    cases hc : cn r of with
    | zero => rfl
    | succ j => exact absurd (h.mem r (by omega)) hr
  split
  · rename_i hok
    obtain ⟨y1, y2, y3⟩ := hP.yes hok
    have hk := (hP.clo C h.clo).2 hok
    refine ⟨hP.l1, y1, fun q => ?_, fun q hq => ?_, by rw [y3, h.num], fun k hC => ?_, fun q hq => ?_⟩
    · rw [y2 q]
      by_cases e : q = r
      · subst e; rw [if_pos rfl, h0]; omega
      · rw [if_neg e]; have := h.one q; omega
    · rw [y2 q] at hq
      by_cases e : q = r
      · simp [e]
      · rw [if_neg e] at hq; exact List.mem_append_left _ (h.mem q (by omega))
    · rw [hk k hC]; exact h.clo k hC
    · rw [y2 q]
      by_cases e : q = r
      · left; rw [if_pos e]; omega
      · rw [if_neg e]
        rcases List.mem_append.1 hq with hq | hq
        · exact h.all q hq
        · simp at hq; exact absurd hq e
  · rename_i hok
    have hok : u.2.2 = false := by simpa using hok
    obtain ⟨n1, n2, n3⟩ := hP.no hok
    refine ⟨n1, fun k => C k ∨ (k < m ∧ u.2.1.getD k false = true), h.len, h.val, h.one, fun q hq => List.mem_append_left _ (h.mem q hq), h.num, fun k hC => ?_, fun q hq => ?_⟩
    · rcases hC with hC | ⟨hk, hC⟩
      · obtain ⟨a, b, c⟩ := h.clo k hC
        exact ⟨a, b, fun k' hk' hg' => .inl (c k' hk' hg')⟩
      · rcases n3 k hk hC with h' | ⟨h1, h2⟩
        · exact absurd h' fresh_false
        · exact ⟨hk, h1, fun k' hk' hg' => .inr ⟨hk', h2 k' hk' hg'⟩⟩
    · rcases List.mem_append.1 hq with hq | hq
      · rcases h.all q hq with h' | h'
        · exact .inl h'
        · exact .inr fun k hk hg => .inl (h' k hk hg)
      · simp at hq; subst hq
        exact .inr fun k hk hg => .inr ⟨hk, n2 k hk hg⟩
theorem kuhnF_cert (g : Nat → Nat → Bool) (m : Nat) : ∀ (rs done : List Nat) (of : List Int) (n : Nat) (C : Nat → Prop), (done ++ rs).Nodup → Cert g m done of n C → ∃ C', Cert g m (done ++ rs) (kuhnF g m rs of n).1 (kuhnF g m rs of n).2 C' := by
  intro rs
  induction rs with
  | nil => intro done of n C _ h; exact ⟨C, by simpa [kuhnF] using h⟩
  | cons r rs ih =>
    intro done of n C hnd h
    have hr : r ∉ done := fun hm => by
      have := List.nodup_append.1 hnd
      exact this.2.2 r hm r (by simp) rfl
    have e : done ++ r :: rs = (done ++ [r]) ++ rs := by simp
    have hs := h.step r hr rfl
    rw [e] at hnd ⊢
    rw [kuhnF]
    split
    · rename_i hok
      rw [if_pos hok] at hs
      exact ih _ _ _ _ hnd hs
    · rename_i hok
      rw [if_neg hok] at hs
      obtain ⟨_, C', hs⟩ := hs
      exact ih _ _ _ _ hnd hs
theorem kuhn_cert (g : Nat → Nat → Bool) (m : Nat) (rows : List Nat) (h : rows.Nodup) : ∃ of C, Cert g m rows of (kuhn g m rows) C := by
  obtain ⟨C, hC⟩ := kuhnF_cert g m rows [] _ 0 _ (by simpa using h) (Cert.start g m)
  exact ⟨_, C, by simpa [kuhn] using hC⟩

/-! ### counting -/
theorem length_le_of_nodup {α : Type} [DecidableEq α] : ∀ (l l' : List α), l.Nodup → (∀ x ∈ l, x ∈ l') → l.length ≤ l'.length
  | [], _, _, _ => by simp
  | a :: r, l', h, hs => by
    have ha : a ∈ l' := hs a (by simp)
    have hr := length_le_of_nodup r (l'.erase a) (List.nodup_cons.1 h).2 (fun x hx => by
      have hxa : x ≠ a := fun e => (List.nodup_cons.1 h).1 (e ▸ hx)
      exact (List.mem_erase_of_ne hxa).2 (hs x (by simp [hx])))
    rw [List.length_erase_of_mem ha] at hr
    have : 0 < l'.length := List.length_pos_of_mem ha
    simp only [List.length_cons]
    omega
theorem nodup_map {α β : Type} {f : α → β} {l : List α} (hl : l.Nodup) (hf : ∀ x ∈ l, ∀ y ∈ l, f x = f y → x = y) : (l.map f).Nodup := by
  unfold List.Nodup at *
  rw [List.pairwise_map]
  exact hl.imp_of_mem (fun {a b} ha hb hne e => hne (hf a ha b hb e))
theorem map_le {α β : Type} [DecidableEq β] {f : α → β} {l : List α} {l' : List β} (hl : l.Nodup) (hf : ∀ x ∈ l, ∀ y ∈ l, f x = f y → x = y) (hm : ∀ x ∈ l, f x ∈ l') : l.length ≤ l'.length := by
  have := length_le_of_nodup (l.map f) l' (nodup_map hl hf) (fun y hy => by obtain ⟨x, hx, rfl⟩ := List.mem_map.1 hy; exact hm x hx)
  simpa using this
/-- The columns that have a row. -/
def hadC (m : Nat) (of : List Int) : List Nat := (List.range m).filter fun k => decide (0 ≤ of.getD k (-1))
theorem mem_hadC {m k : Nat} {of : List Int} : k ∈ hadC m of ↔ k < m ∧ 0 ≤ of.getD k (-1) := by simp [hadC]
theorem nodup_range (m : Nat) : (List.range m).Nodup := List.nodup_range
theorem nodup_hadC (m : Nat) (of : List Int) : (hadC m of).Nodup := (nodup_range m).filter _
theorem hadC_len {m : Nat} {of : List Int} (h : of.length = m) : (hadC m of).length = mc of := by
  have e : (List.range m).map (fun k => of.getD k (-1)) = of := by
    apply List.ext_getElem
    · simp [h]
    · intro i h1 h2
      simp [h2]
  unfold hadC mc
  conv => rhs; rw [← e]
  rw [List.countP_map, List.countP_eq_length_filter]
  rfl
/-- A matching of the rows of S: no column twice, only columns that the row may have. -/
def Mat (g : Nat → Nat → Bool) (m : Nat) (S : List Nat) (f : Nat → Nat) : Prop := ∀ r ∈ S, f r < m ∧ g r (f r) = true ∧ ∀ q ∈ S, f q = f r → q = r
theorem Mat.sub {g : Nat → Nat → Bool} {m : Nat} {S T : List Nat} {f : Nat → Nat} (h : Mat g m S f) (ht : ∀ r ∈ T, r ∈ S) : Mat g m T f := fun r hr => ⟨(h r (ht r hr)).1, (h r (ht r hr)).2.1, fun q hq e => (h r (ht r hr)).2.2 q (ht q hq) e⟩
section
variable {g : Nat → Nat → Bool} {m : Nat} {rows : List Nat} {of : List Int} {n : Nat} {C : Nat → Prop}
theorem cn_pos {r : Nat} {of : List Int} : 0 < cn r of ↔ ∃ k, k < of.length ∧ of.getD k (-1) = (r : Int) := by
  unfold cn
  rw [List.count_pos_iff, List.mem_iff_getElem]
  constructor
  · rintro ⟨k, hk, e⟩; exact ⟨k, hk, by rw [getD_get _ _ _ hk]; exact e⟩
  · rintro ⟨k, hk, e⟩; exact ⟨k, hk, by rw [getD_get _ _ _ hk] at e; exact e⟩
theorem count_two : ∀ {of : List Int} {i j : Nat} {x : Int} (hi : i < of.length) (hj : j < of.length), i < j → of[i] = x → of[j] = x → 2 ≤ of.count x
  | a :: l, 0, j + 1, x, _, hj, _, e1, e2 => by
    have : 1 ≤ l.count x := List.count_pos_iff.2 (by simp at e2; exact e2 ▸ List.getElem_mem (by simpa using hj))
    simp at e1
    rw [List.count_cons, e1, if_pos (by simp)]; omega
  | a :: l, i + 1, j + 1, x, hi, hj, h, e1, e2 => by
    have := count_two (of := l) (i := i) (j := j) (x := x) (by simpa using hi) (by simpa using hj) (by omega) (by simpa using e1) (by simpa using e2)
    rw [List.count_cons]; omega
theorem Cert.inj (h : Cert g m rows of n C) {i j r : Nat} (hi : i < m) (hj : j < m) (e1 : of.getD i (-1) = (r : Int)) (e2 : of.getD j (-1) = (r : Int)) : i = j := by
  have hl := h.len
  have h1 := h.one r
  rw [getD_get _ _ _ (by omega)] at e1
  rw [getD_get _ _ _ (by omega)] at e2
  rcases Nat.lt_trichotomy i j with hlt | heq | hlt
  · have := count_two (by omega) (by omega) hlt e1 e2; unfold cn at h1; omega
  · exact heq
  · have := count_two (by omega) (by omega) hlt e2 e1; unfold cn at h1; omega
/-- The column of a row. -/
noncomputable def colOf (m : Nat) (of : List Int) (r : Nat) : Nat := by
  classical
  exact if h : ∃ k, k < m ∧ of.getD k (-1) = (r : Int) then Classical.choose h else 0
theorem colOf_spec {r : Nat} (h : Cert g m rows of n C) (hr : 0 < cn r of) : colOf m of r < m ∧ of.getD (colOf m of r) (-1) = (r : Int) := by
  have hx : ∃ k, k < m ∧ of.getD k (-1) = (r : Int) := by
    obtain ⟨k, hk, e⟩ := cn_pos.1 hr
    exact ⟨k, by rw [← h.len]; exact hk, e⟩
  unfold colOf
  rw [dif_pos hx]
  exact Classical.choose_spec hx
/-- The rows that have columns. -/
def hadR (rows : List Nat) (of : List Int) : List Nat := rows.filter fun r => decide (0 < cn r of)
theorem mem_hadR {r : Nat} : r ∈ hadR rows of ↔ r ∈ rows ∧ 0 < cn r of := by simp [hadR]
theorem Cert.mat (h : Cert g m rows of n C) : Mat g m (hadR rows of) (colOf m of) := fun r hr => by
  have hs := colOf_spec h (mem_hadR.1 hr).2
  refine ⟨hs.1, ?_, fun q hq e => ?_⟩
  · have := h.val _ hs.1 (by rw [hs.2]; omega)
    rwa [hs.2, Int.toNat_natCast] at this
  · have hs' := colOf_spec h (mem_hadR.1 hq).2
    rw [e, hs.2] at hs'
    omega
theorem Cert.hadR_len (h : Cert g m rows of n C) (hn : rows.Nodup) : (hadR rows of).length = n := by
  have hnr : (hadR rows of).Nodup := hn.filter _
  rw [← h.num, ← hadC_len h.len]
  apply Nat.le_antisymm
  · refine map_le (f := colOf m of) hnr (fun x hx y hy e => ((h.mat y hy).2.2 x hx e)) (fun x hx => ?_)
    have := colOf_spec h (mem_hadR.1 hx).2
    exact mem_hadC.2 ⟨this.1, by rw [this.2]; omega⟩
  · refine map_le (f := fun k => (of.getD k (-1)).toNat) (nodup_hadC m of) (fun x hx y hy e => ?_) (fun k hk => ?_)
    · have hx := mem_hadC.1 hx
      have hy := mem_hadC.1 hy
      exact h.inj (r := (of.getD x (-1)).toNat) hx.1 hy.1 (by omega) (by omega)
    · have hk := mem_hadC.1 hk
      have hc : 0 < cn (of.getD k (-1)).toNat of := cn_pos.2 ⟨k, by rw [h.len]; exact hk.1, by omega⟩
      exact mem_hadR.2 ⟨h.mem _ hc, hc⟩
/-- No matching of rows of these has more. -/
theorem Cert.max (h : Cert g m rows of n C) {S : List Nat} {f : Nat → Nat} (hS : S.Nodup) (hsub : ∀ r ∈ S, r ∈ rows) (hf : Mat g m S f) : S.length ≤ n := by
  classical
  rw [← h.num, ← hadC_len h.len]
  have key : ∀ r ∈ S, ¬ C (f r) → 0 < cn r of := fun r hr hC => by
    rcases h.all r (hsub r hr) with h' | h'
    · exact h'
    · exact absurd (h' (f r) (hf r hr).1 (hf r hr).2.1) hC
  have out : ∀ r ∈ S, ¬ C (f r) → ¬ C (colOf m of r) := fun r hr hC hk => by
    have hs := colOf_spec h (key r hr hC)
    have := (h.clo _ hk).2.2 (f r) (hf r hr).1
    rw [hs.2, Int.toNat_natCast] at this
    exact hC (this (hf r hr).2.1)
  refine map_le (f := fun r => if C (f r) then f r else colOf m of r) hS (fun x hx y hy e => ?_) (fun r hr => ?_)
  · by_cases hcx : C (f x) <;> by_cases hcy : C (f y)
    · rw [if_pos hcx, if_pos hcy] at e; exact (hf y hy).2.2 x hx e
    · rw [if_pos hcx, if_neg hcy] at e; rw [e] at hcx; exact absurd hcx (out y hy hcy)
    · rw [if_neg hcx, if_pos hcy] at e; rw [← e] at hcy; exact absurd hcy (out x hx hcx)
    · rw [if_neg hcx, if_neg hcy] at e
      have h1 := colOf_spec h (key x hx hcx)
      have h2 := colOf_spec h (key y hy hcy)
      rw [e, h2.2] at h1
      omega
  · by_cases hc : C (f r)
    · rw [if_pos hc]
      have := h.clo _ hc
      exact mem_hadC.2 ⟨this.1, this.2.1⟩
    · rw [if_neg hc]
      have := colOf_spec h (key r hr hc)
      exact mem_hadC.2 ⟨this.1, by rw [this.2]; omega⟩
end
/-- THE GREATEST NUMBER OF ROWS THAT CAN HAVE COLUMNS: it is reached, and no matching has more. -/
theorem kuhn_mat (g : Nat → Nat → Bool) (m : Nat) (rows : List Nat) (h : rows.Nodup) : ∃ S f, S.Nodup ∧ (∀ r ∈ S, r ∈ rows) ∧ S.length = kuhn g m rows ∧ Mat g m S f := by
  obtain ⟨of, C, hc⟩ := kuhn_cert g m rows h
  exact ⟨hadR rows of, colOf m of, h.filter _, fun r hr => (mem_hadR.1 hr).1, hc.hadR_len h, hc.mat⟩
theorem kuhn_max (g : Nat → Nat → Bool) (m : Nat) (rows : List Nat) (h : rows.Nodup) {S : List Nat} {f : Nat → Nat} (hS : S.Nodup) (hsub : ∀ r ∈ S, r ∈ rows) (hf : Mat g m S f) : S.length ≤ kuhn g m rows := by
  obtain ⟨of, C, hc⟩ := kuhn_cert g m rows h
  exact hc.max hS hsub hf
theorem kuhn_le (g : Nat → Nat → Bool) (m : Nat) (rows : List Nat) (h : rows.Nodup) : kuhn g m rows ≤ rows.length := by
  obtain ⟨S, f, h1, h2, h3, _⟩ := kuhn_mat g m rows h
  rw [← h3]
  exact length_le_of_nodup S rows h1 h2
theorem mem_of_full {S rows : List Nat} (hS : S.Nodup) (hsub : ∀ r ∈ S, r ∈ rows) (hl : rows.length ≤ S.length) : ∀ r ∈ rows, r ∈ S := by
  intro r hr
  by_cases h : r ∈ S
  · exact h
  · have := length_le_of_nodup (r :: S) rows (List.nodup_cons.2 ⟨h, hS⟩) (fun x hx => by
      rcases List.mem_cons.1 hx with rfl | hx
      · exact hr
      · exact hsub x hx)
    simp at this; omega
/-- All rows can have columns exactly if the number is theirs. -/
theorem kuhn_full (g : Nat → Nat → Bool) (m : Nat) (rows : List Nat) (h : rows.Nodup) : kuhn g m rows = rows.length ↔ ∃ f, Mat g m rows f := by
  constructor
  · intro e
    obtain ⟨S, f, h1, h2, h3, h4⟩ := kuhn_mat g m rows h
    exact ⟨f, h4.sub (mem_of_full h1 h2 (by omega))⟩
  · rintro ⟨f, hf⟩
    exact Nat.le_antisymm (kuhn_le g m rows h) (kuhn_max g m rows h h (fun _ h => h) hf)
end Go.Proofs.Ytjdhcdoekfikpaa
