/-
  Plain mathematics of the laws on assignments: columns more, a row less, a row dearer, the table turned, columns forced. No program in sight.
-/
import Derived.Test.YtjdhcdoekfikpaaMBrute
namespace Go.Proofs.Ytjdhcdoekfikpaa

/-- The best assignment, if there is one. -/
def bestO (T : List (List Int)) (m : Nat) : Option (List Nat × Int) := if (bruteF T m T.length [] ([], 0, false)).2.2 = true then some ((bruteF T m T.length [] ([], 0, false)).1, (bruteF T m T.length [] ([], 0, false)).2.1) else none
theorem bestO_some {T : List (List Int)} {m : Nat} {to : List Nat} {c : Int} (h : bestO T m = some (to, c)) : IsBest T m to c := by
  unfold bestO at h
  rcases brute_best T m with ⟨h1, _⟩ | ⟨h1, h2⟩
  · rw [if_neg (by rw [h1]; simp)] at h; cases h
  · rw [if_pos h1] at h
    simp only [Option.some.injEq, Prod.mk.injEq] at h
    rw [← h.1, ← h.2]; exact h2
theorem bestO_none {T : List (List Int)} {m : Nat} (h : bestO T m = none) : ¬ ∃ to, Asg T m to := by
  unfold bestO at h
  rcases brute_best T m with ⟨_, h2⟩ | ⟨h1, _⟩
  · exact h2
  · rw [if_pos h1] at h; cases h
theorem bestO_eq {T : List (List Int)} {m : Nat} {to : List Nat} {c : Int} (h : IsBest T m to c) : bestO T m = some (to, c) := by
  cases hb : bestO T m with
  | none => exact absurd ⟨to, h.asg⟩ (bestO_none hb)
  | some x =>
    obtain ⟨a, d⟩ := x
    obtain ⟨e1, e2⟩ := (bestO_some hb).unique h
    rw [e1, e2]
theorem bestO_no {T : List (List Int)} {m : Nat} (h : ¬ ∃ to, Asg T m to) : bestO T m = none := by
  cases hb : bestO T m with
  | none => rfl
  | some x => exact absurd ⟨_, (bestO_some (to := x.1) (c := x.2) hb).asg⟩ h
theorem bestO_iff (T : List (List Int)) (m : Nat) : bestO T m = none ↔ kuhn (gT T) m (List.range T.length) ≠ T.length := by
  rw [Ne, ← asg_iff]
  exact ⟨bestO_none, bestO_no⟩
theorem costA_nonneg {T : List (List Int)} {m : Nat} {to : List Nat} (h : Asg T m to) : 0 ≤ costA T to := by
  have := sumN_le (f := fun _ => 0) (g := fun i => ct T i (to.getD i 0)) T.length (fun i hi => (h.ok i hi).2)
  rw [sumN_zero] at this; exact this

theorem lex_no {a b : List Nat} (h : lexLe a b) {r : Nat} (hr : r < a.length) (hb : r < b.length) (he : ∀ i, i < r → a.getD i 0 = b.getD i 0) (hlt : b.getD r 0 < a.getD r 0) : False := by
  rcases h with h | ⟨i, h1, h2, h3, h4⟩
  · rw [h] at hlt; omega
  · rcases Nat.lt_trichotomy i r with hi | hi | hi
    · have := he i hi; omega
    · subst hi; omega
    · have := take_getD h3 hi; omega
/-- With the columns of the first rows kept, a lesser column of the next row always costs more. -/
theorem forced_law {T T' : List (List Int)} {m r : Nat} {to to' : List Nat} {c : Int} (hlen : T'.length = T.length) (hb : IsBest T m to c) (hr : r < T.length)
    (hct : ∀ i k, i < T.length → k < m → ct T' i k = if (i < r ∧ k ≠ to.getD i 0) ∨ (i = r ∧ to.getD i 0 ≤ k) then -1 else ct T i k) (h' : Asg T' m to') : c < costA T' to' := by
  have key : ∀ i, i < T.length → ¬ ((i < r ∧ to'.getD i 0 ≠ to.getD i 0) ∨ (i = r ∧ to.getD i 0 ≤ to'.getD i 0)) ∧ ct T' i (to'.getD i 0) = ct T i (to'.getD i 0) := fun i hi => by
    obtain ⟨h1, h2⟩ := h'.ok i (by omega)
    have := hct i _ hi h1
    by_cases hc : (i < r ∧ to'.getD i 0 ≠ to.getD i 0) ∨ (i = r ∧ to.getD i 0 ≤ to'.getD i 0)
    · rw [if_pos hc] at this; omega
    · rw [if_neg hc] at this; exact ⟨hc, this⟩
  have ha : Asg T m to' := ⟨by rw [h'.len, hlen], h'.nd, fun i hi => ⟨(h'.ok i (by omega)).1, by rw [← (key i hi).2]; exact (h'.ok i (by omega)).2⟩⟩
  have hcost : costA T' to' = costA T to' := by
    unfold costA; rw [hlen]
    exact sumN_congr _ (fun i hi => (key i hi).2)
  rw [hcost]
  rcases hb.least to' ha with h | ⟨_, h⟩
  · exact h
  · exfalso
    have hl := hb.asg.len
    have hl' := ha.len
    have hrr := (key r hr).1
    refine lex_no h (r := r) (by omega) (by omega) (fun i hi => ?_) ?_
    · have := (key i (by omega)).1
      by_cases e : to'.getD i 0 = to.getD i 0
      · exact e.symm
      · exact absurd (.inl ⟨hi, e⟩) this
    · have : ¬ to.getD r 0 ≤ to'.getD r 0 := fun h => hrr (.inr ⟨rfl, h⟩)
      omega
/-- What an assignment costs where all its costs stay. -/
theorem asg_more {T T' : List (List Int)} {m m' : Nat} {to : List Nat} (hlen : T'.length = T.length) (hm : m ≤ m') (hct : ∀ i k, i < T.length → k < m → 0 ≤ ct T i k → ct T' i k = ct T i k) (h : Asg T m to) : Asg T' m' to ∧ costA T' to = costA T to := by
  have key : ∀ i, i < T.length → ct T' i (to.getD i 0) = ct T i (to.getD i 0) := fun i hi => hct i _ hi (h.ok i hi).1 (h.ok i hi).2
  refine ⟨⟨by rw [h.len, hlen], h.nd, fun i hi => ?_⟩, ?_⟩
  · obtain ⟨h1, h2⟩ := h.ok i (by omega)
    exact ⟨by omega, by rw [key i (by omega)]; exact h2⟩
  · unfold costA; rw [hlen]
    exact sumN_congr _ (fun i hi => key i hi)
theorem columns_law {T T' : List (List Int)} {m m' : Nat} {to : List Nat} {c : Int} (hlen : T'.length = T.length) (hm : m ≤ m') (hct : ∀ i k, i < T.length → k < m → 0 ≤ ct T i k → ct T' i k = ct T i k) (h : IsBest T m to c) : ∃ to' c', bestO T' m' = some (to', c') ∧ c' ≤ c := by
  obtain ⟨h1, h2⟩ := asg_more hlen hm hct h.asg
  cases hb : bestO T' m' with
  | none => exact absurd ⟨to, h1⟩ (bestO_none hb)
  | some x =>
    obtain ⟨a, d⟩ := x
    refine ⟨a, d, rfl, ?_⟩
    have := (bestO_some hb).le h1
    rw [h2, h.cost] at this
    exact this
/-- A row dearer by a constant. -/
theorem shifts_law {T T' : List (List Int)} {m r : Nat} {by_ : Int} (hlen : T'.length = T.length) (hr : r < T.length) (hby : 0 ≤ by_)
    (hct : ∀ i k, i < T.length → k < m → ct T' i k = if i = r ∧ 0 ≤ ct T i k then ct T i k + by_ else ct T i k) : bestO T' m = (bestO T m).map fun x => (x.1, x.2 + by_) := by
  have pos : ∀ i k, i < T.length → k < m → (0 ≤ ct T' i k ↔ 0 ≤ ct T i k) := fun i k hi hk => by
    rw [hct i k hi hk]
    split
    · omega
    · exact Iff.rfl
  have ha : ∀ to, Asg T' m to ↔ Asg T m to := fun to => by
    constructor
    · intro h; exact ⟨by rw [h.len, hlen], h.nd, fun i hi => ⟨(h.ok i (by omega)).1, (pos i _ hi (h.ok i (by omega)).1).1 (h.ok i (by omega)).2⟩⟩
    · intro h; exact ⟨by rw [h.len, hlen], h.nd, fun i hi => ⟨(h.ok i (by omega)).1, (pos i _ (by omega) (h.ok i (by omega)).1).2 (h.ok i (by omega)).2⟩⟩
  have hc : ∀ to, Asg T m to → costA T' to = costA T to + by_ := fun to h => by
    unfold costA
    rw [hlen, sumN_congr (g := fun i => ct T i (to.getD i 0) + if i = r then by_ else 0) _ (fun i hi => ?_), sumN_add, sumN_one, if_pos hr]
    obtain ⟨h1, h2⟩ := h.ok i hi
    rw [hct i _ hi h1]
    by_cases e : i = r
    · rw [if_pos ⟨e, h2⟩, if_pos e]
    · rw [if_neg (fun h => e h.1), if_neg e]; omega
  cases hb : bestO T m with
  | none => exact bestO_no (fun ⟨to, h⟩ => bestO_none hb ⟨to, (ha to).1 h⟩)
  | some x =>
    obtain ⟨to, c⟩ := x
    have hB := bestO_some hb
    refine bestO_eq ⟨(ha to).2 hB.asg, by rw [hc to hB.asg, hB.cost], fun to' h' => ?_⟩
    have h'' := (ha to').1 h'
    rw [hc to' h'']
    rcases hB.least to' h'' with h | ⟨h1, h2⟩
    · left; omega
    · right; exact ⟨by omega, h2⟩
/-! ### a row less -/
theorem sumN_skip (f : Nat → Int) (r : Nat) : ∀ n, r ≤ n → sumN f (n + 1) = sumN (fun i => if i < r then f i else f (i + 1)) n + f r
  | 0, h => by
    obtain rfl : r = 0 := by omega
    simp [sumN]
  | n + 1, h => by
    by_cases e : r = n + 1
    · subst e
      rw [sumN, sumN_congr (f := fun i => if i < n + 1 then f i else f (i + 1)) (g := f) _ (fun i hi => by rw [if_pos hi])]
    · rw [sumN, sumN_skip f r n (by omega), sumN]
      rw [if_neg (by omega : ¬ n < r)]
      omega
theorem eraseIdx_getD {α : Type} (l : List α) (r i : Nat) (d : α) : (l.eraseIdx r).getD i d = l.getD (if i < r then i else i + 1) d := by
  rw [List.getD_eq_getElem?_getD, List.getD_eq_getElem?_getD, List.getElem?_eraseIdx]
  split <;> rfl
theorem ct_erase (T : List (List Int)) (r i k : Nat) : ct (T.eraseIdx r) i k = ct T (if i < r then i else i + 1) k := by
  unfold ct
  rw [eraseIdx_getD]
theorem nodup_eraseIdx {l : List Nat} (h : l.Nodup) (r : Nat) : (l.eraseIdx r).Nodup := h.sublist (List.eraseIdx_sublist l r)
theorem fewer_asg {T : List (List Int)} {m r : Nat} {to : List Nat} (hr : r < T.length) (h : Asg T m to) : Asg (T.eraseIdx r) m (to.eraseIdx r) ∧ costA (T.eraseIdx r) (to.eraseIdx r) = costA T to - ct T r (to.getD r 0) := by
  have hl := h.len
  have hlt : (T.eraseIdx r).length = T.length - 1 := List.length_eraseIdx_of_lt hr
  refine ⟨⟨by rw [hlt, List.length_eraseIdx_of_lt (by omega), hl], nodup_eraseIdx h.nd r, fun i hi => ?_⟩, ?_⟩
  · rw [hlt] at hi
    rw [ct_erase, eraseIdx_getD]
    by_cases e : i < r
    · rw [if_pos e]; exact h.ok i (by omega)
    · rw [if_neg e]; exact h.ok (i + 1) (by omega)
  · obtain ⟨n, hn⟩ : ∃ n, T.length = n + 1 := ⟨T.length - 1, by omega⟩
    unfold costA
    rw [hlt, hn, Nat.add_sub_cancel, sumN_skip _ r n (by omega), sumN_congr (g := fun i => if i < r then ct T i (to.getD i 0) else ct T (i + 1) (to.getD (i + 1) 0)) _ (fun i _ => ?_)]
    · omega
    · rw [ct_erase, eraseIdx_getD]
      by_cases e : i < r
      · simp only [if_pos e]
      · simp only [if_neg e]
theorem fewer_law {T : List (List Int)} {m r : Nat} {to : List Nat} {c : Int} (hr : r < T.length) (h : IsBest T m to c) : ∃ to' c', bestO (T.eraseIdx r) m = some (to', c') ∧ c' ≤ c - ct T r (to.getD r 0) ∧ 0 ≤ c' := by
  obtain ⟨h1, h2⟩ := fewer_asg hr h.asg
  cases hb : bestO (T.eraseIdx r) m with
  | none => exact absurd ⟨_, h1⟩ (bestO_none hb)
  | some x =>
    obtain ⟨a, d⟩ := x
    have hB := bestO_some hb
    refine ⟨a, d, rfl, ?_, ?_⟩
    · have := hB.le h1
      rw [h2, h.cost] at this; exact this
    · rw [← hB.cost]; exact costA_nonneg hB.asg
/-! ### the table turned -/
theorem perm_inv {n : Nat} {to : List Nat} (hl : to.length = n) (hn : to.Nodup) (hm : ∀ j ∈ to, j < n) : ∃ inv : Nat → Nat, ∀ j, j < n → inv j < n ∧ to.getD (inv j) 0 = j := by
  have hall : ∀ j ∈ List.range n, j ∈ to := mem_of_full hn (fun j hj => List.mem_range.2 (hm j hj)) (by simp [hl])
  have hx : ∀ j, ∃ i, j < n → i < n ∧ to.getD i 0 = j := fun j => by
    by_cases h : j < n
    · obtain ⟨i, hi, e⟩ := mem_getD (hall j (List.mem_range.2 h))
      exact ⟨i, fun _ => ⟨by omega, e⟩⟩
    · exact ⟨0, fun h' => absurd h' h⟩
  exact Classical.skolem.1 hx
theorem turned_asg {T T' : List (List Int)} {to : List Nat} (hlen : T'.length = T.length) (hct : ∀ i k, i < T.length → k < T.length → ct T' k i = ct T i k) (h : Asg T T.length to) : ∃ to', Asg T' T'.length to' ∧ costA T' to' = costA T to := by
  obtain ⟨inv, hinv⟩ := perm_inv h.len h.nd h.lt
  have hl := h.len
  have hget : ∀ j, j < T.length → ((List.range T.length).map inv).getD j 0 = inv j := fun j hj => by rw [getD_get _ _ _ (by simpa using hj)]; simp
  refine ⟨(List.range T.length).map inv, ⟨by simp [hlen], nodup_map (nodup_range _) (fun x hx y hy e => ?_), fun j hj => ?_⟩, ?_⟩
  · have a1 := (hinv x (List.mem_range.1 hx)).2
    have a2 := (hinv y (List.mem_range.1 hy)).2
    rw [e, a2] at a1; exact a1.symm
  · rw [hlen] at hj
    obtain ⟨a1, a2⟩ := hinv j hj
    rw [hget j hj, hlen]
    have := (h.ok (inv j) a1).2
    rw [a2] at this
    exact ⟨a1, by rw [hct _ _ a1 hj]; exact this⟩
  · have e1 : costA T' ((List.range T.length).map inv) = sumN (fun j => ct T (inv j) j) T.length := by
      unfold costA; rw [hlen]
      exact sumN_congr _ (fun j hj => by rw [hget j hj, hct _ _ (hinv j hj).1 hj])
    have hall : ∀ j, j < T.length → j ∈ to := fun j hj => by
      obtain ⟨a1, a2⟩ := hinv j hj
      rw [getD_get _ _ _ (by omega)] at a2
      rw [← a2]; exact List.getElem_mem _
    rw [e1, sumN_list (fun j => ct T (inv j) j) T.length to h.nd h.lt, sumN_map, hl, sumN_congr (f := fun j => if j ∈ to then (0 : Int) else ct T (inv j) j) (g := fun _ => 0) _ (fun j hj => by rw [if_pos (hall j hj)]), sumN_zero, Int.add_zero]
    unfold costA
    refine sumN_congr _ (fun i hi => ?_)
    obtain ⟨a1, a2⟩ := hinv (to.getD i 0) (h.ok i hi).1
    have : inv (to.getD i 0) = i := by
      generalize inv (to.getD i 0) = q at a1 a2
      rw [getD_get _ _ _ (by omega), getD_get to i 0 (by omega)] at a2
      exact nodup_inj h.nd _ _ a2
    show ct T (inv (to.getD i 0)) (to.getD i 0) = ct T i (to.getD i 0)
    rw [this]
theorem turned_law {T T' : List (List Int)} (hlen : T'.length = T.length) (hct : ∀ i k, i < T.length → k < T.length → ct T' k i = ct T i k) : (bestO T' T'.length).map (·.2) = (bestO T T.length).map (·.2) := by
  have hct' : ∀ i k, i < T'.length → k < T'.length → ct T k i = ct T' i k := fun i k hi hk => (hct k i (by omega) (by omega)).symm
  cases h1 : bestO T T.length with
  | none =>
    rw [bestO_no]
    rintro ⟨to, h⟩
    obtain ⟨to', h', _⟩ := turned_asg hlen.symm hct' h
    exact bestO_none h1 ⟨to', h'⟩
  | some x =>
    obtain ⟨to, c⟩ := x
    have hB := bestO_some h1
    obtain ⟨to', h', e'⟩ := turned_asg hlen hct hB.asg
    cases h2 : bestO T' T'.length with
    | none => exact absurd ⟨to', h'⟩ (bestO_none h2)
    | some y =>
      obtain ⟨a, d⟩ := y
      have hB2 := bestO_some h2
      obtain ⟨a', h'', e''⟩ := turned_asg hlen.symm hct' hB2.asg
      have l1 := hB2.le h'
      have l2 := hB.le h''
      rw [e', hB.cost] at l1
      rw [e'', hB2.cost] at l2
      show some d = some c
      rw [show d = c by omega]
theorem turned_kuhn {g g' : Nat → Nat → Bool} {n : Nat} (h : ∀ i k, i < n → k < n → g' k i = g i k) : kuhn g' n (List.range n) = kuhn g n (List.range n) := by
  have le : ∀ {g g' : Nat → Nat → Bool}, (∀ i k, i < n → k < n → g' k i = g i k) → kuhn g n (List.range n) ≤ kuhn g' n (List.range n) := fun {g g'} h => by
    obtain ⟨S, f, h1, h2, h3, h4⟩ := kuhn_mat g n (List.range n) (nodup_range n)
    rw [← h3, show S.length = (S.map f).length by simp]
    have hx : ∀ k, ∃ r, k ∈ S.map f → r ∈ S ∧ f r = k := fun k => by
      by_cases hk : k ∈ S.map f
      · obtain ⟨r, hr, e⟩ := List.mem_map.1 hk; exact ⟨r, fun _ => ⟨hr, e⟩⟩
      · exact ⟨0, fun h => absurd h hk⟩
    obtain ⟨w, hw⟩ := Classical.skolem.1 hx
    refine kuhn_max g' n (List.range n) (nodup_range n) (f := w) (nodup_map h1 (fun x hx y hy e => (h4 y hy).2.2 x hx e)) (fun k hk => ?_) (fun k hk => ?_)
    · obtain ⟨a, b⟩ := hw k hk
      rw [← b]; exact List.mem_range.2 (h4 _ a).1
    · obtain ⟨a, b⟩ := hw k hk
      have hr := List.mem_range.1 (h2 _ a)
      have hk' : k < n := by rw [← b]; exact (h4 _ a).1
      refine ⟨hr, ?_, fun q hq e => ?_⟩
      · rw [h _ _ hr hk']
        have := (h4 _ a).2.1
        rwa [b] at this
      · obtain ⟨a2, b2⟩ := hw q hq
        rw [← b2, ← b, e]
  exact Nat.le_antisymm (le (fun i k hi hk => (h k i hk hi).symm)) (le h)
end Go.Proofs.Ytjdhcdoekfikpaa
