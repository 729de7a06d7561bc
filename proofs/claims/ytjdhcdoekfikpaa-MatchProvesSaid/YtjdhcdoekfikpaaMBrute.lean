/-
  Plain mathematics: all assignments tried in lexicographical order find the best one. No program in sight.
-/
import Derived.Test.YtjdhcdoekfikpaaMAsg
namespace Go.Proofs.Ytjdhcdoekfikpaa

abbrev Acc := List Nat × Int × Bool
def bruteL (rec : List Nat → Acc → Acc) (T : List (List Int)) (first : List Nat) : List Nat → Acc → Acc
  | [], a => a
  | k :: ks, a => bruteL rec T first ks (if 0 ≤ ct T first.length k ∧ k ∉ first then rec (first ++ [k]) a else a)
def bruteF (T : List (List Int)) (m : Nat) : Nat → List Nat → Acc → Acc
  | 0, first, a => if a.2.2 = false ∨ costA T first < a.2.1 then (first, costA T first, true) else a
  | f + 1, first, a => bruteL (bruteF T m f) T first (List.range m) a
/-- The best of those that were seen. -/
def Seen (T : List (List Int)) (S : List Nat → Prop) (a : Acc) : Prop :=
  (a.2.2 = false ∧ ∀ to, ¬ S to) ∨ (a.2.2 = true ∧ S a.1 ∧ costA T a.1 = a.2.1 ∧ ∀ to, S to → a.2.1 < costA T to ∨ (a.2.1 = costA T to ∧ lexLe a.1 to))
def Ext (T : List (List Int)) (m : Nat) (first to : List Nat) : Prop := Asg T m to ∧ to.take first.length = first
theorem lexLe.trans {a b c : List Nat} (h1 : lexLe a b) (h2 : lexLe b c) : lexLe a c := by
  rcases h1 with rfl | ⟨i, a1, a2, a3, a4⟩
  · exact h2
  · rcases h2 with rfl | ⟨j, b1, b2, b3, b4⟩
    · exact .inr ⟨i, a1, a2, a3, a4⟩
    · rcases Nat.lt_trichotomy i j with h | h | h
      · refine .inr ⟨i, a1, by omega, ?_, ?_⟩
        · rw [a3]
          have := congrArg (List.take i) b3
          rwa [List.take_take, List.take_take, Nat.min_eq_left (by omega)] at this
        · rw [← take_getD b3 h]; exact a4
      · subst h
        exact .inr ⟨i, a1, b2, a3.trans b3, by omega⟩
      · refine .inr ⟨j, by omega, b2, ?_, ?_⟩
        · rw [← b3]
          have := congrArg (List.take j) a3
          rwa [List.take_take, List.take_take, Nat.min_eq_left (by omega)] at this
        · rw [take_getD a3 h]; exact b4
theorem ext_lex {T : List (List Int)} {m : Nat} {first : List Nat} {j k : Nat} {a b : List Nat} (ha : Ext T m (first ++ [j]) a) (hb : Ext T m (first ++ [k]) b) (hf : first.length < T.length) (hjk : j < k) : lexLe a b := by
  have hla := ha.1.len
  have hlb := hb.1.len
  have e1 := ha.2
  have e2 := hb.2
  simp only [List.length_append, List.length_cons, List.length_nil] at e1 e2
  rw [List.take_succ_eq_append_getElem (by omega)] at e1 e2
  have p1 := List.append_inj' e1 rfl
  have p2 := List.append_inj' e2 rfl
  refine .inr ⟨first.length, by omega, by omega, by rw [p1.1, p2.1], ?_⟩
  rw [getD_get _ _ _ (by omega), getD_get _ _ _ (by omega)]
  have q1 : a[first.length] = j := by simpa using p1.2
  have q2 : b[first.length] = k := by simpa using p2.2
  omega
theorem ext_step {T : List (List Int)} {m : Nat} {first to : List Nat} (hf : first.length < T.length) (h : Ext T m first to) : ∃ k, k < m ∧ 0 ≤ ct T first.length k ∧ k ∉ first ∧ Ext T m (first ++ [k]) to := by
  have hl := h.1.len
  obtain ⟨h1, h2⟩ := h.1.ok first.length hf
  refine ⟨to.getD first.length 0, h1, h2, fun hm => ?_, h.1, ?_⟩
  · obtain ⟨i, hi, e⟩ := mem_getD hm
    have : first.getD i 0 = to.getD i 0 := by
      have := h.2
      conv => lhs; rw [← this]
      rw [List.getD_eq_getElem?_getD, List.getD_eq_getElem?_getD, List.getElem?_take_of_lt hi]
    rw [this, getD_get _ _ _ (by omega), getD_get _ _ _ (by omega)] at e
    have := nodup_inj h.1.nd _ _ e
    omega
  · simp only [List.length_append, List.length_cons, List.length_nil]
    rw [List.take_succ_eq_append_getElem (by omega), h.2, getD_get _ _ _ (by omega)]
theorem seen_congr {T : List (List Int)} {S S' : List Nat → Prop} {a : Acc} (h : Seen T S a) (he : ∀ to, S to ↔ S' to) : Seen T S' a := by
  rcases h with ⟨h1, h2⟩ | ⟨h1, h2, h3, h4⟩
  · exact .inl ⟨h1, fun to ht => h2 to ((he to).2 ht)⟩
  · exact .inr ⟨h1, (he _).1 h2, h3, fun to ht => h4 to ((he to).2 ht)⟩
theorem bruteF_ok (T : List (List Int)) (m : Nat) : ∀ (f : Nat) (first : List Nat) (S : List Nat → Prop) (a : Acc), first.length + f = T.length → first.Nodup → (∀ i, i < first.length → first.getD i 0 < m ∧ 0 ≤ ct T i (first.getD i 0)) →
    Seen T S a → (∀ to to', S to → Ext T m first to' → lexLe to to') → Seen T (fun to => S to ∨ Ext T m first to) (bruteF T m f first a) := by
  intro f
  induction f with
  | zero =>
    intro first S a hl hn hok hs hlex
    have hasg : Asg T m first := ⟨by omega, hn, fun i hi => hok i (by omega)⟩
    have hext : ∀ to, Ext T m first to ↔ to = first := fun to => by
      constructor
      · rintro ⟨h1, h2⟩
        rw [List.take_of_length_le (by rw [h1.len]; omega)] at h2; exact h2
      · rintro rfl; exact ⟨hasg, List.take_of_length_le (Nat.le_refl _)⟩
    rw [bruteF]
    rcases hs with ⟨h1, h2⟩ | ⟨h1, h2, h3, h4⟩
    · rw [if_pos (.inl h1)]
      refine .inr ⟨rfl, .inr ((hext _).2 rfl), rfl, fun to ht => ?_⟩
      rcases ht with ht | ht
      · exact absurd ht (h2 to)
      · rw [(hext to).1 ht]; exact .inr ⟨rfl, lexLe.refl _⟩
    · by_cases hc : costA T first < a.2.1
      · rw [if_pos (.inr hc)]
        refine .inr ⟨rfl, .inr ((hext _).2 rfl), rfl, fun to ht => ?_⟩
        rcases ht with ht | ht
        · left
          show costA T first < costA T to
          rcases h4 to ht with h | ⟨h, _⟩ <;> omega
        · rw [(hext to).1 ht]; exact .inr ⟨rfl, lexLe.refl _⟩
      · rw [if_neg (by rw [h1]; simp [hc])]
        refine .inr ⟨h1, .inl h2, h3, fun to ht => ?_⟩
        rcases ht with ht | ht
        · exact h4 to ht
        · rw [(hext to).1 ht]
          by_cases e : a.2.1 = costA T first
          · exact .inr ⟨e, hlex _ _ h2 ((hext _).2 rfl)⟩
          · exact .inl (by omega)
  | succ f ih =>
    intro first S a hl hn hok hs hlex
    have hf : first.length < T.length := by omega
    rw [bruteF]
    suffices H : ∀ (ks : List Nat) (d : Nat) (a : Acc), (List.range m).drop d = ks → Seen T (fun to => S to ∨ ∃ k, k < d ∧ k < m ∧ k ∉ first ∧ 0 ≤ ct T first.length k ∧ Ext T m (first ++ [k]) to) a → Seen T (fun to => S to ∨ Ext T m first to) (bruteL (bruteF T m f) T first ks a) from
      H (List.range m) 0 a (by simp) (seen_congr hs (fun to => by constructor; exact .inl; rintro (h | ⟨k, h, _⟩); exact h; omega))
    intro ks
    induction ks with
    | nil =>
      intro d a hd hs
      have hdm : m ≤ d := by have := congrArg List.length hd; simp at this; omega
      rw [bruteL]
      refine seen_congr hs (fun to => ?_)
      constructor
      · rintro (h | ⟨k, _, _, _, _, h⟩)
        · exact .inl h
        · refine .inr ⟨h.1, ?_⟩
          have := h.2
          have h2 := congrArg (List.take first.length) this
          simpa [List.take_take] using h2
      · rintro (h | h)
        · exact .inl h
        · obtain ⟨k, h1, h2, h3, h4⟩ := ext_step hf h
          exact .inr ⟨k, by omega, h1, h3, h2, h4⟩
    | cons k ks ihk =>
      intro d a hd hs
      have hdm : d < m := by have := congrArg List.length hd; simp at this; omega
      rw [List.drop_eq_getElem_cons (by simpa using hdm)] at hd
      simp only [List.cons.injEq, List.getElem_range] at hd
      obtain ⟨rfl, hd⟩ := hd
      rw [bruteL]
      refine ihk (d + 1) _ hd ?_
      split
      · rename_i hc
        have hn' : (first ++ [d]).Nodup := by
          rw [List.nodup_append]
          exact ⟨hn, by simp, fun a ha b hb e => by simp at hb; rw [e, hb] at ha; exact hc.2 ha⟩
        have := ih (first ++ [d]) _ a (by simp; omega) hn' (fun i hi => by
          simp only [List.length_append, List.length_cons, List.length_nil] at hi
          by_cases h : i < first.length
          · rw [List.getD_eq_getElem?_getD, List.getElem?_append_left h, ← List.getD_eq_getElem?_getD]; exact hok i h
          · have : i = first.length := by omega
            subst this
            simp [hdm, hc.1]) hs (fun to to' h h' => by
          rcases h with h | ⟨k, h1, h2, h3, h4, h5⟩
          · refine hlex to to' h ⟨h'.1, ?_⟩
            have h2 := congrArg (List.take first.length) h'.2
            simpa [List.take_take] using h2
          · exact ext_lex h5 h' hf h1)
        refine seen_congr this (fun to => ?_)
        constructor
        · rintro ((h | ⟨k, h1, h2⟩) | h)
          · exact .inl h
          · exact .inr ⟨k, by omega, h2⟩
          · exact .inr ⟨d, by omega, hdm, hc.2, hc.1, h⟩
        · rintro (h | ⟨k, h1, h2, h3, h4, h5⟩)
          · exact .inl (.inl h)
          · by_cases e : k = d
            · subst e; exact .inr h5
            · exact .inl (.inr ⟨k, by omega, h2, h3, h4, h5⟩)
      · rename_i hc
        refine seen_congr hs (fun to => ?_)
        constructor
        · rintro (h | ⟨k, h1, h2⟩)
          · exact .inl h
          · exact .inr ⟨k, by omega, h2⟩
        · rintro (h | ⟨k, h1, h2, h3, h4, h5⟩)
          · exact .inl h
          · by_cases e : k = d
            · subst e; exact absurd ⟨h4, h3⟩ hc
            · exact .inr ⟨k, by omega, h2, h3, h4, h5⟩
/-- ALL ASSIGNMENTS TRIED. -/
theorem brute_best (T : List (List Int)) (m : Nat) : ((bruteF T m T.length [] ([], 0, false)).2.2 = false ∧ ¬ ∃ to, Asg T m to) ∨ ((bruteF T m T.length [] ([], 0, false)).2.2 = true ∧ IsBest T m (bruteF T m T.length [] ([], 0, false)).1 (bruteF T m T.length [] ([], 0, false)).2.1) := by
  have h := bruteF_ok T m T.length [] (fun _ => False) ([], 0, false) (by simp) List.nodup_nil (fun i hi => by simp at hi) (.inl ⟨rfl, fun _ h => h⟩) (fun _ _ h => h.elim)
  have he : ∀ to, Asg T m to → (False ∨ Ext T m [] to) := fun to ht => .inr ⟨ht, by simp⟩
  rcases h with ⟨h1, h2⟩ | ⟨h1, h2, h3, h4⟩
  · exact .inl ⟨h1, fun ⟨to, ht⟩ => h2 to (he to ht)⟩
  · exact .inr ⟨h1, (h2.resolve_left id).1, h3, fun to' h' => h4 to' (he to' h')⟩
end Go.Proofs.Ytjdhcdoekfikpaa
