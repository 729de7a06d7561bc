/-
  What is connected, Kruskal's list, and contracts of the document's Plan, Reach and Bearings; each states its condition.
-/
import Derived.Test.YtgmphiklkllnlaaTKru0
import Derived.Test.YtgmphiklkllnlaaTKrB
import Derived.Test.YtgmphiklkllnlaaTIso
import Derived.Test.YtgmphiklkllnlaaTPlan
import Derived.Test.YtgmphiklkllnlaaTSwp
import Derived.Test.YtgmphiklkllnlaaTBef
namespace Go.Proofs.Ytgmphiklkllnlaa
section
/-- Connected by links of a weight of at most most: no mark that these links keep tells the two apart. -/
def Conn (K : List Lk) (most : Int) (x y : Nat) : Prop := ∀ s : Nat → Bool, (∀ l ∈ K, l.w ≤ most → s l.a.toNat = s l.b.toNat) → s x = s y
def rstep (most : Int) (o : Nat → Bool) (l : Lk) : Nat → Bool := if l.w ≤ most ∧ (o l.a.toNat = true ∨ o l.b.toNat = true) then fun i => o i || decide (i = l.a.toNat) || decide (i = l.b.toNat) else o
def sweep (K : List Lk) (most : Int) (o : Nat → Bool) : Nat → Bool := K.foldl (rstep most) o
def rounds (K : List Lk) (most : Int) : Nat → (Nat → Bool) → Nat → Bool
  | 0, o => o
  | k + 1, o => sweep K most (rounds K most k o)
def reachF (K : List Lk) (most : Int) (n : Nat) (x : Nat) : Nat → Bool := rounds K most n (fun i => decide (i = x))
theorem rstep_mono {most : Int} {o : Nat → Bool} {l : Lk} {i : Nat} (h : o i = true) : rstep most o l i = true := by
  unfold rstep
  split
  · simp [h]
  · exact h
theorem sweep_mono : ∀ {K : List Lk} {most : Int} {o : Nat → Bool} {i : Nat}, o i = true → sweep K most o i = true
  | [], _, _, _, h => h
  | l :: K, most, o, _i, h => sweep_mono (K := K) (o := rstep most o l) (rstep_mono h)
theorem rounds_mono {K : List Lk} {most : Int} {o : Nat → Bool} {i : Nat} : ∀ k, o i = true → rounds K most k o i = true
  | 0, h => h
  | k + 1, h => sweep_mono (rounds_mono k h)
theorem sweep_sound {most : Int} {s : Nat → Bool} : ∀ {K : List Lk} {o : Nat → Bool}, (∀ l ∈ K, l.w ≤ most → s l.a.toNat = s l.b.toNat) → (∀ i, o i = true → s i = true) → ∀ i, sweep K most o i = true → s i = true
  | [], _, _, h => h
  | l :: K, o, hc, h => by
    refine sweep_sound (K := K) (o := rstep most o l) (fun l' hl' => hc l' (by simp [hl'])) (fun i hi => ?_)
    unfold rstep at hi
    split at hi
    · rename_i hh
      have he := hc l (by simp) hh.1
      simp only [Bool.or_eq_true, decide_eq_true_eq] at hi
      rcases hi with (hi | hi) | hi
      · exact h i hi
      · subst hi
        rcases hh.2 with k | k
        · exact h _ k
        · rw [he]; exact h _ k
      · subst hi
        rcases hh.2 with k | k
        · rw [← he]; exact h _ k
        · exact h _ k
    · exact h i hi
theorem rounds_sound {K : List Lk} {most : Int} {s : Nat → Bool} {o : Nat → Bool} (hc : ∀ l ∈ K, l.w ≤ most → s l.a.toNat = s l.b.toNat) (h : ∀ i, o i = true → s i = true) : ∀ k i, rounds K most k o i = true → s i = true
  | 0, i, hi => h i hi
  | k + 1, i, hi => sweep_sound hc (rounds_sound hc h k) i hi
def LkN (N : Nat) (K : List Lk) : Prop := ∀ l ∈ K, l.a.toNat < N ∧ l.b.toNat < N
theorem sweep_congr {N : Nat} {most : Int} : ∀ {K : List Lk} {o p : Nat → Bool}, LkN N K → (∀ i, i < N → o i = p i) → ∀ i, i < N → sweep K most o i = sweep K most p i
  | [], _, _, _, h => h
  | l :: K, o, p, hK, h => by
    refine sweep_congr (K := K) (fun l' hl' => hK l' (by simp [hl'])) (fun i hi => ?_)
    have hl := hK l (by simp)
    unfold rstep
    rw [h _ hl.1, h _ hl.2]
    split
    · show (o i || decide (i = l.a.toNat) || decide (i = l.b.toNat)) = (p i || decide (i = l.a.toNat) || decide (i = l.b.toNat))
      rw [h i hi]
    · exact h i hi
theorem sweep_app (K1 K2 : List Lk) (most : Int) (o : Nat → Bool) : sweep (K1 ++ K2) most o = sweep K2 most (sweep K1 most o) := List.foldl_append
/-- Where a sweep adds nothing, the links keep the mark. -/
theorem sweep_closed {N : Nat} {K : List Lk} {most : Int} {o : Nat → Bool} (hK : LkN N K) (h : ∀ i, i < N → sweep K most o i = o i) {l : Lk} (hl : l ∈ K) (hw : l.w ≤ most) : o l.a.toNat = o l.b.toNat := by
  obtain ⟨K1, K2, rfl⟩ := List.append_of_mem hl
  obtain ⟨ha, hb⟩ := hK l hl
  rw [sweep_app] at h
  have key : ∀ x y : Nat, x < N → y < N → (x = l.a.toNat ∧ y = l.b.toNat ∨ x = l.b.toNat ∧ y = l.a.toNat) → o x = true → o y = true := by
    intro x y hx hy hxy ho
    rw [← h y hy]
    refine sweep_mono (K := K2) ?_
    have h1 : sweep K1 most o x = true := sweep_mono ho
    unfold rstep
    rw [if_pos ⟨hw, by rcases hxy with ⟨rfl, -⟩ | ⟨rfl, -⟩ <;> simp [h1]⟩]
    rcases hxy with ⟨-, rfl⟩ | ⟨-, rfl⟩ <;> simp
  have k1 := key _ _ ha hb (.inl ⟨rfl, rfl⟩)
  have k2 := key _ _ hb ha (.inr ⟨rfl, rfl⟩)
  cases e1 : o l.a.toNat <;> cases e2 : o l.b.toNat
  · rfl
  · exact absurd (k2 e2) (by rw [e1]; decide)
  · exact absurd (k1 e1) (by rw [e2]; decide)
  · rfl
def cntB (o : Nat → Bool) : Nat → Nat
  | 0 => 0
  | n + 1 => cntB o n + if o n = true then 1 else 0
theorem cntB_le (o : Nat → Bool) : ∀ n, cntB o n ≤ n
  | 0 => Nat.le_refl _
  | n + 1 => by have := cntB_le o n; unfold cntB; split <;> omega
theorem cntB_mono {o p : Nat → Bool} (h : ∀ i, o i = true → p i = true) : ∀ n, cntB o n ≤ cntB p n
  | 0 => Nat.le_refl _
  | n + 1 => by
    have ih := cntB_mono h n
    unfold cntB
    by_cases c : o n = true
    · rw [if_pos c, if_pos (h n c)]; omega
    · rw [if_neg c]; omega
theorem cntB_lt {o p : Nat → Bool} (h : ∀ i, o i = true → p i = true) : ∀ {n i : Nat}, i < n → o i = false → p i = true → cntB o n < cntB p n
  | 0, i, hi, _, _ => absurd hi (Nat.not_lt_zero _)
  | n + 1, i, hi, h1, h2 => by
    unfold cntB
    by_cases e : i = n
    · subst e
      have := cntB_mono h i
      rw [if_neg (by rw [h1]; decide), if_pos h2]; omega
    · have ih := cntB_lt h (n := n) (i := i) (by omega) h1 h2
      by_cases c : o n = true
      · rw [if_pos c, if_pos (h n c)]; omega
      · rw [if_neg c]; omega
theorem cntB_pos {o : Nat → Bool} : ∀ {n i : Nat}, i < n → o i = true → 0 < cntB o n
  | 0, i, hi, _ => absurd hi (Nat.not_lt_zero _)
  | n + 1, i, hi, h => by
    unfold cntB
    by_cases e : i = n
    · subst e; rw [if_pos h]; omega
    · have := cntB_pos (n := n) (i := i) (by omega) h; omega
/-- After as many rounds as there are notes nothing is added any more. -/
theorem rounds_fix {N : Nat} {K : List Lk} {most : Int} {o : Nat → Bool} {x : Nat} (hK : LkN N K) (hx : x < N) (ho : o x = true) : ∀ k, (∀ i, i < N → sweep K most (rounds K most k o) i = rounds K most k o i) ∨ k + 1 ≤ cntB (rounds K most k o) N
  | 0 => .inr (cntB_pos hx ho)
  | k + 1 => by
    rcases rounds_fix hK hx ho k with h | h
    · left
      intro i hi
      exact sweep_congr hK h i hi
    · by_cases c : ∀ i, i < N → sweep K most (rounds K most k o) i = rounds K most k o i
      · left
        intro i hi
        exact sweep_congr hK c i hi
      · right
        obtain ⟨i, hi⟩ := Classical.not_forall.1 c
        obtain ⟨hi1, hi2⟩ := Classical.not_imp.1 hi
        have h1 : rounds K most k o i = false := by
          cases e : rounds K most k o i with
          | false => rfl
          | true => exact absurd (by rw [sweep_mono e, e]) hi2
        have h2 : sweep K most (rounds K most k o) i = true := by
          cases e : sweep K most (rounds K most k o) i with
          | true => rfl
          | false => exact absurd (by rw [e, h1]) hi2
        have := cntB_lt (o := rounds K most k o) (p := sweep K most (rounds K most k o)) (fun j hj => sweep_mono hj) hi1 h1 h2
        show k + 1 + 1 ≤ cntB (sweep K most (rounds K most k o)) N
        omega
theorem reach_iff {N : Nat} {K : List Lk} {most : Int} {x y : Nat} (hK : LkN N K) (hx : x < N) : reachF K most N x y = true ↔ Conn K most x y := by
  constructor
  · intro h s hs
    have := rounds_sound (K := K) (most := most) (s := fun i => s i == s x) (o := fun i => decide (i = x)) (fun l hl hw => by rw [hs l hl hw]) (fun i hi => by
      simp only [decide_eq_true_eq] at hi
      subst hi
      exact beq_self_eq_true _) N y h
    exact (beq_iff_eq.1 this).symm
  · intro h
    have hfix : ∀ i, i < N → sweep K most (reachF K most N x) i = reachF K most N x i := by
      rcases rounds_fix (K := K) (most := most) (o := fun i => decide (i = x)) hK hx (by simp) N with k | k
      · exact k
      · exact absurd k (by have := cntB_le (rounds K most N (fun i => decide (i = x))) N; omega)
    have := h (reachF K most N x) (fun l hl hw => sweep_closed hK hfix hl hw)
    rw [← this]
    exact rounds_mono N (by simp)
/-- Connected by the links of some numbers. -/
def ConnI (L : List Lk) (T : List Int) (x y : Nat) : Prop := ∀ s : Nat → Bool, (∀ i ∈ T, ∀ l, L[i.toNat]? = some l → s l.a.toNat = s l.b.toNat) → s x = s y
theorem ConnI.refl (L : List Lk) (T : List Int) (x : Nat) : ConnI L T x x := fun _ _ => rfl
theorem ConnI.symm {L : List Lk} {T : List Int} {x y : Nat} (h : ConnI L T x y) : ConnI L T y x := fun s hs => (h s hs).symm
theorem ConnI.trans {L : List Lk} {T : List Int} {x y z : Nat} (h : ConnI L T x y) (k : ConnI L T y z) : ConnI L T x z := fun s hs => (h s hs).trans (k s hs)
theorem ConnI.more {L : List Lk} {T U : List Int} {x y : Nat} (h : ConnI L T x y) (hu : ∀ i ∈ T, i ∈ U) : ConnI L U x y := fun s hs => h s fun i hi => hs i (hu i hi)
theorem ConnI.link {L : List Lk} {T : List Int} {i : Int} {l : Lk} (hi : i ∈ T) (hl : L[i.toNat]? = some l) : ConnI L T l.a.toNat l.b.toNat := fun _ hs => hs i hi l hl
/-- What the labels say, when the links D have been examined and T been taken. -/
structure Lab (L : List Lk) (D T : List Int) (c : Nat → Nat) : Prop where
  keep : ∀ i ∈ D, ∀ l, L[i.toNat]? = some l → c l.a.toNat = c l.b.toNat
  conn : ∀ x y, c x = c y → ConnI L T x y
  sub : ∀ i ∈ T, i ∈ D
theorem Lab.start (L : List Lk) : Lab L [] [] id := ⟨fun i hi => by simp at hi, fun x y h => by cases (show x = y from h); exact ConnI.refl _ _ _, fun i hi => by simp at hi⟩
theorem Lab.skip {L : List Lk} {D T : List Int} {c : Nat → Nat} {i : Int} {l : Lk} (h : Lab L D T c) (hl : L[i.toNat]? = some l) (he : c l.a.toNat = c l.b.toNat) : Lab L (D ++ [i]) T c :=
  ⟨fun j hj l' hl' => by
    rcases List.mem_append.1 hj with hj | hj
    · exact h.keep j hj l' hl'
    · simp only [List.mem_singleton] at hj
      subst hj
      rw [hl] at hl'; injection hl' with hl'; subst hl'; exact he, h.conn, fun j hj => List.mem_append_left _ (h.sub j hj)⟩
theorem Lab.take {L : List Lk} {D T : List Int} {c : Nat → Nat} {i : Int} {l : Lk} (h : Lab L D T c) (hl : L[i.toNat]? = some l) : Lab L (D ++ [i]) (T ++ [i]) (relab c (c l.a.toNat) (c l.b.toNat)) := by
  have hab : ConnI L (T ++ [i]) l.a.toNat l.b.toNat := ConnI.link (by simp) hl
  have hm : ∀ {x y}, ConnI L T x y → ConnI L (T ++ [i]) x y := fun k => k.more fun j hj => List.mem_append_left _ hj
  refine ⟨fun j hj l' hl' => ?_, fun x y he => ?_, fun j hj => ?_⟩
  · rcases List.mem_append.1 hj with hj | hj
    · unfold relab; rw [h.keep j hj l' hl']
    · simp only [List.mem_singleton] at hj
      subst hj
      rw [hl] at hl'; injection hl' with hl'; subst hl'
      unfold relab
      rw [if_pos rfl]
      split
      · rfl
      · rfl
  · unfold relab at he
    by_cases c1 : c x = c l.a.toNat
    · rw [if_pos c1] at he
      by_cases c2 : c y = c l.a.toNat
      · exact hm (h.conn x y (c1.trans c2.symm))
      · rw [if_neg c2] at he
        exact ((hm (h.conn _ _ c1)).trans hab).trans (hm (h.conn _ _ he))
    · rw [if_neg c1] at he
      by_cases c2 : c y = c l.a.toNat
      · rw [if_pos c2] at he
        exact (hm (h.conn _ _ he)).trans (hab.symm.trans (hm (h.conn _ _ c2.symm)))
      · rw [if_neg c2] at he
        exact hm (h.conn _ _ he)
  · rcases List.mem_append.1 hj with hj | hj
    · exact List.mem_append_left _ (h.sub j hj)
    · exact List.mem_append_right _ hj
theorem Lab.iff {L : List Lk} {D T : List Int} {c : Nat → Nat} (h : Lab L D T c) {x y : Nat} : c x = c y ↔ ConnI L T x y := by
  refine ⟨h.conn x y, fun k => ?_⟩
  have := k (fun z => decide (c z = c x)) (fun i hi l hl => by
    have e := h.keep i (h.sub i hi) l hl
    show decide (c l.a.toNat = c x) = decide (c l.b.toNat = c x)
    rw [e])
  have h2 : decide (c x = c x) = decide (c y = c x) := this
  simp only [decide_true] at h2
  exact (of_decide_eq_true h2.symm).symm
end
section
def stop0 (_ : List Int) (_ : Nat → Nat) : Bool := false
theorem krun_sub (L : List Lk) (stop : List Int → (Nat → Nat) → Bool) : ∀ (r : List Int) (c : Nat → Nat) (T : List Int), ∃ T', (krun L stop r c T).1 = T ++ T' ∧ T'.Sublist r
  | [], c, T => ⟨[], by simp [krun], List.Sublist.refl _⟩
  | i :: r, c, T => by
    unfold krun
    split
    · obtain ⟨T', h1, h2⟩ := krun_sub L stop r c T
      exact ⟨T', h1, h2.cons i⟩
    · rename_i l hl
      split
      · obtain ⟨T', h1, h2⟩ := krun_sub L stop r c T
        exact ⟨T', h1, h2.cons i⟩
      · split
        · exact ⟨[i], rfl, List.singleton_sublist.2 (by simp)⟩
        · obtain ⟨T', h1, h2⟩ := krun_sub L stop r (relab c (c l.a.toNat) (c l.b.toNat)) (T ++ [i])
          exact ⟨i :: T', by rw [h1, List.append_assoc]; rfl, h2.cons_cons i⟩
theorem krun_done {L : List Lk} : ∀ {r : List Int} {c : Nat → Nat} {T : List Int}, (∀ l ∈ L, c l.a.toNat = c l.b.toNat) → (krun L stop0 r c T).1 = T
  | [], _, _, _ => rfl
  | i :: r, c, T, h => by
    unfold krun
    split
    · exact krun_done h
    · rename_i l hl
      rw [if_pos (h l (List.mem_of_getElem? hl))]
      exact krun_done h
theorem cntB_drop {o p : Nat → Bool} {x : Nat} (ho : o x = true) (hp : p x = false) (h : ∀ i, i ≠ x → p i = o i) : ∀ {n : Nat}, x < n → cntB p n + 1 = cntB o n
  | 0, hx => absurd hx (Nat.not_lt_zero _)
  | n + 1, hx => by
    unfold cntB
    by_cases e : x = n
    · subst e
      have key : ∀ m, m ≤ x → cntB p m = cntB o m := by
        intro m
        induction m with
        | zero => intro _; rfl
        | succ m ih => intro hm; unfold cntB; rw [ih (by omega), h m (by omega)]
      rw [key x (Nat.le_refl _), if_neg (by rw [hp]; decide), if_pos ho]
    · have ih := cntB_drop ho hp h (n := n) (by omega)
      rw [h n (fun k => e k.symm)]
      omega
theorem cntB_one {o : Nat → Bool} {n x y : Nat} (h : cntB o n = 1) (hx : x < n) (hy : y < n) (ox : o x = true) (oy : o y = true) : x = y := by
  by_cases e : x = y
  · exact e
  · exfalso
    have h1 := cntB_drop (o := o) (p := fun i => if i = x then false else o i) ox (by simp) (fun i hi => by simp [hi]) hx
    have h2 := cntB_pos (o := fun i => if i = x then false else o i) hy (by simp [oy]; exact fun k => e k.symm)
    omega
/-- Labels that are themselves labelled so; as many of them as notes less links taken. -/
structure Cnt (N : Nat) (c : Nat → Nat) (t : Nat) : Prop where
  fix : ∀ x, x < N → c x < N ∧ c (c x) = c x
  cnt : cntB (fun i => decide (c i = i)) N + t = N
theorem Cnt.start (N : Nat) : Cnt N id 0 := ⟨fun x h => ⟨h, rfl⟩, by
  have key : ∀ n, cntB (fun i => decide (id i = i)) n = n := by
    intro n
    induction n with
    | zero => rfl
    | succ n ih => unfold cntB; rw [ih]; simp
  rw [key]; rfl⟩
theorem Cnt.take {N t a b : Nat} {c : Nat → Nat} (h : Cnt N c t) (ha : a < N) (hb : b < N) (hne : c a ≠ c b) : Cnt N (relab c (c a) (c b)) (t + 1) := by
  obtain ⟨p1, p2⟩ := h.fix a ha
  obtain ⟨q1, q2⟩ := h.fix b hb
  refine ⟨fun x hx => ?_, ?_⟩
  · obtain ⟨x1, x2⟩ := h.fix x hx
    unfold relab
    by_cases e : c x = c a
    · rw [if_pos e, q2, if_neg (fun k => hne k.symm)]; exact ⟨q1, rfl⟩
    · rw [if_neg e, x2, if_neg e]; exact ⟨x1, rfl⟩
  · have := cntB_drop (o := fun i => decide (c i = i)) (p := fun i => decide (relab c (c a) (c b) i = i)) (x := c a) (by simp [p2]) (by unfold relab; rw [p2, if_pos rfl]; simp; exact fun k => hne k.symm) (fun i hi => by
      unfold relab
      by_cases e : c i = c a
      · rw [if_pos e]
        have h1 : ¬ c b = i := fun k => hne (by rw [← e, ← k, q2])
        have h2 : ¬ c i = i := fun k => hi (by rw [← e]; exact k.symm)
        rw [decide_eq_false h1, decide_eq_false h2]
      · rw [if_neg e]) p1
    have := h.cnt
    omega
theorem Cnt.le {N t : Nat} {c : Nat → Nat} (h : Cnt N c t) (hN : 1 ≤ N) : t + 1 ≤ N := by
  obtain ⟨h1, h2⟩ := h.fix 0 hN
  have := cntB_pos (o := fun i => decide (c i = i)) h1 (by simp [h2])
  have := h.cnt
  omega
theorem Cnt.all {N t : Nat} {c : Nat → Nat} (h : Cnt N c t) (ht : t + 1 = N) {x y : Nat} (hx : x < N) (hy : y < N) : c x = c y := by
  obtain ⟨x1, x2⟩ := h.fix x hx
  obtain ⟨y1, y2⟩ := h.fix y hy
  exact cntB_one (o := fun i => decide (c i = i)) (by have := h.cnt; omega) x1 y1 (by simp [x2]) (by simp [y2])
def LkM (N : Nat) (L : List Lk) : Prop := ∀ l ∈ L, l.a.toNat < N ∧ l.b.toNat < N
/-- Whether Kruskal's method stops early or not, it takes the same links. -/
theorem krun_same {L : List Lk} {N : Nat} (hL : LkM N L) : ∀ {r : List Int} {c : Nat → Nat} {T : List Int}, Cnt N c T.length → (krun L (stopB (N : Nat)) r c T).1 = (krun L stop0 r c T).1
  | [], _, _, _ => rfl
  | i :: r, c, T, h => by
    unfold krun
    split
    · exact krun_same hL h
    · rename_i l hl
      obtain ⟨ha, hb⟩ := hL l (List.mem_of_getElem? hl)
      split
      · exact krun_same hL h
      · rename_i hne
        have h2 := h.take ha hb hne
        rw [if_neg (show ¬ stop0 (T ++ [i]) (relab c (c l.a.toNat) (c l.b.toNat)) = true from fun h => by cases h)]
        split
        · rename_i hs
          have hlen : ((T ++ [i]).length : Int) = (N : Nat) - 1 := by simpa [stopB] using hs
          have ht : T.length + 1 + 1 = N := by rw [List.length_append] at hlen; simp at hlen; omega
          exact (krun_done (fun l' hl' => h2.all ht (hL l' hl').1 (hL l' hl').2)).symm
        · exact krun_same hL (T := T ++ [i]) (by rw [List.length_append]; exact h2)
theorem kruL_same {L : List Lk} {N : Nat} (hL : LkM N L) : (kruL L (stopB (N : Nat))).1 = (kruL L stop0).1 := krun_same hL (Cnt.start N)
theorem krun_cnt {L : List Lk} {N : Nat} (hL : LkM N L) : ∀ {r : List Int} {c : Nat → Nat} {T : List Int}, Cnt N c T.length → ∃ c', Cnt N c' (krun L stop0 r c T).1.length
  | [], c, _, h => ⟨c, h⟩
  | i :: r, c, T, h => by
    unfold krun
    split
    · exact krun_cnt hL h
    · rename_i l hl
      obtain ⟨ha, hb⟩ := hL l (List.mem_of_getElem? hl)
      split
      · exact krun_cnt hL h
      · rename_i hne
        rw [if_neg (show ¬ stop0 (T ++ [i]) (relab c (c l.a.toNat) (c l.b.toNat)) = true from fun h => by cases h)]
        exact krun_cnt hL (T := T ++ [i]) (by rw [List.length_append]; exact h.take ha hb hne)
theorem kruL_le {L : List Lk} {N : Nat} (h : Pln (N : Nat) L) : (kruL L stop0).1.length + 1 ≤ N := by
  obtain ⟨c, hc⟩ := krun_cnt (L := L) (N := N) (fun l hl => by have := h.lk l hl; omega) (r := srt L (idxs L.length)) (c := id) (T := []) (Cnt.start N)
  exact hc.le (by have := h.lo; omega)
theorem kruL_nodup (L : List Lk) (stop : List Int → (Nat → Nat) → Bool) : (kruL L stop).1.Nodup ∧ ∀ x ∈ (kruL L stop).1, 0 ≤ x ∧ x < L.length := by
  obtain ⟨T', h1, h2⟩ := krun_sub L stop (srt L (idxs L.length)) id []
  rw [List.nil_append] at h1
  have hp := srt_perm L (idxs L.length)
  unfold kruL
  rw [h1]
  exact ⟨h2.nodup (hp.nodup_iff.2 (idxs_nodup _)), fun x hx => idxs_mem.1 (hp.subset (h2.subset hx))⟩
theorem ris_nil {l : List Int} : Ris [] l ↔ l.Pairwise (fun x y => x < y) := by
  have e : ∀ x y : Int, klt [] x y ↔ x < y := fun x y => by unfold klt lkW; simp
  exact ⟨fun h => h.imp fun k => (e _ _).1 k, fun h => h.imp fun k => (e _ _).2 k⟩
/-- The links of a list, rising, are those of all numbers that the list holds. -/
theorem isrt_filter {T : List Int} {n : Nat} (hT : T.Nodup) (hm : ∀ x ∈ T, 0 ≤ x ∧ x < n) : isrt T = (idxs n).filter (fun i => decide (i ∈ T)) := by
  have hp : (isrt T).Perm T := List.mergeSort_perm _ _
  have h1 : Ris [] (isrt T) := by
    rw [ris_nil]
    have hs := List.pairwise_mergeSort (le := fun x y : Int => decide (x ≤ y)) (fun a b c h1 h2 => by simp only [decide_eq_true_eq] at *; omega) (fun a b => by rw [Bool.or_eq_true, decide_eq_true_eq, decide_eq_true_eq]; omega) T
    have hn : (isrt T).Nodup := hp.nodup_iff.2 hT
    refine (List.pairwise_and_iff.2 ⟨hs, hn⟩).imp ?_
    rintro a b ⟨h1, h2⟩
    have := of_decide_eq_true h1
    omega
  have h0 : (idxs n).Pairwise (fun x y => x < y) := by
    unfold idxs
    exact List.Pairwise.map Int.ofNat (fun a b h => by simpa using h) List.pairwise_lt_range
  have h2 : Ris [] ((idxs n).filter (fun i => decide (i ∈ T))) := ris_nil.2 (h0.filter _)
  refine ris_uniq ?_ h1 h2
  refine hp.trans ((List.perm_ext_iff_of_nodup hT ((idxs_nodup n).filter _)).2 fun a => ?_)
  rw [List.mem_filter, idxs_mem, decide_eq_true_eq]
  exact ⟨fun h => ⟨hm a h, h⟩, fun h => h.2⟩
/-- The search for the lightest link not seen, as far as it has come. -/
def MinI (L : List Lk) (sn : Nat → Bool) (k : Nat) (b : Int) : Prop :=
  (b = -1 ∧ ∀ i, i < k → sn i = true) ∨ ∃ m : Nat, b = (m : Int) ∧ m < k ∧ sn m = false ∧ ∀ i, i < k → sn i = false → i = m ∨ klt L (m : Int) (i : Int)
theorem MinI.start (L : List Lk) (sn : Nat → Bool) : MinI L sn 0 (-1) := .inl ⟨rfl, fun _i h => absurd h (Nat.not_lt_zero _)⟩
theorem MinI.seen {L : List Lk} {sn : Nat → Bool} {k : Nat} {b : Int} (h : MinI L sn k b) (hs : sn k = true) : MinI L sn (k + 1) b := by
  rcases h with ⟨h1, h2⟩ | ⟨m, h1, h2, h3, h4⟩
  · refine .inl ⟨h1, fun i hi => ?_⟩
    by_cases e : i = k
    · rw [e]; exact hs
    · exact h2 i (by omega)
  · refine .inr ⟨m, h1, by omega, h3, fun i hi hf => ?_⟩
    by_cases e : i = k
    · rw [e, hs] at hf; cases hf
    · exact h4 i (by omega) hf
theorem MinI.take {L : List Lk} {sn : Nat → Bool} {k : Nat} {b : Int} (h : MinI L sn k b) (hs : sn k = false) (hw : b < 0 ∨ lkW L k < lkW L b) : MinI L sn (k + 1) k := by
  refine .inr ⟨k, rfl, by omega, hs, fun i hi hf => ?_⟩
  by_cases e : i = k
  · exact .inl e
  · right
    rcases h with ⟨h1, h2⟩ | ⟨m, h1, h2, h3, h4⟩
    · rw [h2 i (by omega)] at hf; cases hf
    · subst h1
      have hlt : lkW L k < lkW L (m : Int) := hw.resolve_left (by omega)
      rcases h4 i (by omega) hf with rfl | k1
      · exact .inl hlt
      · unfold klt at k1 ⊢; omega
theorem MinI.keep {L : List Lk} {sn : Nat → Bool} {k : Nat} {b : Int} (h : MinI L sn k b) (hw : ¬ (b < 0 ∨ lkW L k < lkW L b)) : MinI L sn (k + 1) b := by
  rcases h with ⟨h1, h2⟩ | ⟨m, h1, h2, h3, h4⟩
  · exact absurd (.inl (by omega)) hw
  · subst h1
    refine .inr ⟨m, rfl, by omega, h3, fun i hi hf => ?_⟩
    by_cases e : i = k
    · subst e
      right
      have : ¬ lkW L (i : Int) < lkW L (m : Int) := fun k => hw (.inr k)
      unfold klt; omega
    · exact h4 i (by omega) hf
/-- The lightest link not seen is the next one of the order. -/
theorem MinI.next {L : List Lk} {sn : Nat → Bool} {D rest : List Int} {x b : Int} (h : MinI L sn L.length b) (hr : srt L (idxs L.length) = D ++ x :: rest) (hs : ∀ i, i < L.length → (sn i = true ↔ (i : Int) ∈ D)) : b = x := by
  have hp := srt_perm L (idxs L.length)
  have hnd : (D ++ x :: rest).Nodup := by rw [← hr]; exact hp.nodup_iff.2 (idxs_nodup _)
  have hris : Ris L (D ++ x :: rest) := by rw [← hr]; exact srt_ris (idxs_nodup _)
  have hxm : 0 ≤ x ∧ x < L.length := idxs_mem.1 (hp.subset (by rw [hr]; simp))
  obtain ⟨y, rfl⟩ : ∃ y : Nat, x = y := ⟨x.toNat, by omega⟩
  have hyD : (y : Int) ∉ D := fun hm => (List.nodup_append.1 hnd).2.2 _ hm _ (by simp) rfl
  have hyn : y < L.length := by omega
  have hsy : sn y = false := by
    cases e : sn y with
    | false => rfl
    | true => exact absurd ((hs y hyn).1 e) hyD
  rcases h with ⟨h1, h2⟩ | ⟨m, h1, h2, h3, h4⟩
  · rw [h2 y hyn] at hsy; cases hsy
  · subst h1
    have hmD : (m : Int) ∉ D := fun hm => by rw [(hs m h2).2 hm] at h3; cases h3
    have hmr : (m : Int) ∈ (y : Int) :: rest := by
      have : (m : Int) ∈ D ++ (y : Int) :: rest := by rw [← hr]; exact hp.symm.subset (idxs_mem.2 ⟨by omega, by omega⟩)
      rcases List.mem_append.1 this with k | k
      · exact absurd k hmD
      · exact k
    rcases h4 y hyn hsy with rfl | k1
    · rfl
    · rcases List.mem_cons.1 hmr with k2 | k2
      · exact k2
      · exact absurd k1 (klt_asymm ((List.pairwise_cons.1 (List.pairwise_append.1 hris).2.1).1 _ k2))
/-- The links of some numbers. -/
def lksL (L : List Lk) (T : List Int) : List Lk := T.filterMap fun i => L[i.toNat]?
theorem lksL_snoc {L : List Lk} {T : List Int} {i : Int} {l : Lk} (hl : L[i.toNat]? = some l) : lksL L (T ++ [i]) = lksL L T ++ [l] := by
  unfold lksL
  rw [List.filterMap_append]
  simp [hl]
theorem lksL_len {L : List Lk} : ∀ {T : List Int}, (∀ x ∈ T, 0 ≤ x ∧ x < L.length) → (lksL L T).length = T.length
  | [], _ => rfl
  | x :: T, h => by
    have h1 := h x (by simp)
    obtain ⟨l, hl⟩ : ∃ l, L[x.toNat]? = some l := ⟨_, List.getElem?_eq_getElem (by omega)⟩
    unfold lksL
    rw [List.filterMap_cons, hl]
    simp only [List.length_cons]
    have := lksL_len (T := T) fun y hy => h y (by simp [hy])
    unfold lksL at this
    omega
theorem conn_lks {L : List Lk} {T : List Int} {most : Int} {x y : Nat} (hw : ∀ l ∈ L, l.w ≤ most) : Conn (lksL L T) most x y ↔ ConnI L T x y := by
  constructor
  · intro h s hs
    refine h s fun l hl _ => ?_
    obtain ⟨i, hi, e⟩ := List.mem_filterMap.1 hl
    exact hs i hi l e
  · intro h s hs
    refine h s fun i hi l hl => hs l (List.mem_filterMap.2 ⟨i, hi, hl⟩) (hw l (List.mem_of_getElem? hl))
end
section
open Go.RowKit
set_option maxRecDepth 8000 in
set_option maxHeartbeats 4000000 in
theorem refPlan_any (notes : Int) (A : Option Addr) (n c : Nat) (L : List Lk) (w : World) (hS : SlE linkE 3 w A n L) (hn : n ≤ 9223372036854775807) :
    Calls Try.prog 27 #[.int .i64 notes, .slice A n c] w fun e w' => e = .returned (.bool (planB notes L)) ∧ w = w' := by
  refine calls_cps ?_
  intro R hR
  have HS := Lib.hid hS
  cases hn1 : inB notes 1 64
  · have Hf := Lib.hid (show R (.returned (.bool false)) w from hR.out _ _ ⟨by unfold planB; rw [hn1]; simp, rfl⟩)
    clear hR hS
    go_enter Try.func27, Try.ntmps27
    go_wp2_with (first | (go_at_call 45; refine (in_any _ _ _ _).mono ?_; rintro e w' ⟨rfl, rfl⟩; (try rw [hn1])))
    exact Hf.out
  · have hno : 1 ≤ notes ∧ notes ≤ 64 := inB_iff.1 hn1
    obtain ⟨hno1, hno2⟩ := hno
    have hw : IntKind.i64.wrap (notes - 1) = notes - 1 := IntWalk.i64_in _ (by omega)
    by_cases h5 : 512 < n
    · have Hf := Lib.hid (show R (.returned (.bool false)) w from hR.out _ _ ⟨by unfold planB; rw [hn1, decide_eq_false (show ¬ L.length ≤ 512 by rw [← HS.out.1]; omega)]; simp, rfl⟩)
      clear hR hS
      go_enter Try.func27, Try.ntmps27
      go_wp2_with (first | (go_at_call 45; refine (in_any _ _ _ _).mono ?_; rintro e w' ⟨rfl, rfl⟩; (try rw [hn1])))
      exact Hf.out
    · have HR := Lib.hid (show ∀ b : Bool, b = L.all (lnkB (notes - 1)) → R (.returned (.bool b)) w from fun b hb => hR.out _ _ ⟨by unfold planB; rw [hw, hn1, decide_eq_true (show L.length ≤ 512 by rw [← HS.out.1]; omega), hb]; simp, rfl⟩)
      clear hR
      go_enter Try.func27, Try.ntmps27
      go_wp2_with (first | (go_at_call 45; refine (in_any _ _ _ _).mono ?_; rintro e w' ⟨rfl, rfl⟩; (try rw [hn1])))
      go_loopw [5] (fun i wr => ∃ k : Nat, k ≤ n ∧ i = .int .i64 (k : Nat) ∧ wr = w ∧ Hid ((L.take k).all (lnkB (notes - 1)) = true)) (fun i _ => n - (intOf i).toNat)
      case atStart => exact ⟨0, Nat.zero_le _, rfl, rfl, Lib.hid (by simp)⟩
      case round =>
        obtain ⟨k, hk, rfl, rfl, Hall⟩ := hrel
        by_cases hlt : k < n
        · obtain ⟨b, o, l, rfl, hbl, hs, p0, p1, p2⟩ := hS.at3 hlt
          have Hs := Lib.hid hs
          have i1 : (k : Int) < (n : Int) := by omega
          clear hs
          go_wp2_with (first | (go_at_call 45; refine (in_any _ _ _ _).mono ?_; rintro e w' ⟨rfl, rfl⟩))
          case roundEnd => exact ⟨⟨k + 1, by omega, by go_num, by trivial, Lib.hid (allL_take Hall.out Hs.out (by simp_all [lnkB]))⟩, by simp [intOf]; omega⟩
          all_goals
            refine HR.out false ?_
            rw [allL_false Hs.out (by simp_all [lnkB])]
        · obtain rfl : k = n := by omega
          have h := Hall.out
          rw [List.take_of_length_le (by rw [HS.out.1]; exact Nat.le_refl _)] at h
          have Hf := Lib.hid (HR.out true h.symm)
          clear HR h Hall
          go_wp2_with fail
          exact Hf.out
end
section
open Go.RowKit
/-- A row of marks as a function. -/
def BlkF (W : World) (g n : Nat) (o : Nat → Bool) : Prop := W.heap[g]? = some (.cells ((List.range n).map fun i => Value.bool (o i)).toArray 4 (0, 0))
theorem BlkF.lt {W : World} {g n : Nat} {o : Nat → Bool} (h : BlkF W g n o) : g < W.heap.size := (Array.getElem?_eq_some_iff.1 h).1
theorem BlkF.cell {W : World} {g n i : Nat} {o : Nat → Bool} (h : BlkF W g n o) (hi : i < n) : W.cell? ⟨g, i, none⟩ = some (.bool (o i)) := by
  rw [cell_of_row _ _ i _ _ (0, 0) h]; simp [hi]
theorem BlkF.frozen {W : World} {g n : Nat} {o : Nat → Bool} (h : BlkF W g n o) (i : Nat) : W.frozen? ⟨g, i, none⟩ = false := by
  have h' : W.heap[g]? = some _ := h
  simp [World.frozen?, h']
theorem BlkF.congr {W : World} {g n : Nat} {o p : Nat → Bool} (h : BlkF W g n o) (e : ∀ i, i < n → o i = p i) : BlkF W g n p := by
  unfold BlkF at *
  rw [h]
  congr 3
  refine List.map_congr_left fun i hi => ?_
  rw [e i (List.mem_range.1 hi)]
theorem BlkF.set {W : World} {g n : Nat} {o : Nat → Bool} (h : BlkF W g n o) (k : Nat) : BlkF (W.setCell ⟨g, k, none⟩ (.bool true)) g n (fun i => o i || decide (i = k)) := by
  have h' : W.heap[g]? = some _ := h
  have e : (((List.range n).map fun i => Value.bool (o i))).set k (.bool true) = (List.range n).map fun i => Value.bool (o i || decide (i = k)) := by
    refine List.ext_getElem (by simp) fun i h1 h2 => ?_
    rw [List.getElem_set]
    split
    · rename_i e; subst e; simp
    · rename_i e
      simp [show ¬ i = k from fun h => e h.symm]
  unfold BlkF
  simp only [World.setCell, Array.getElem?_modify, h']
  simp [e]
theorem BlkF.made {W : World} {g k : Nat} (h : W.heap[g]? = some (.cells (madeCells #[Value.bool false] k) 4 (0, 0))) : BlkF W g k (fun _ => false) := by
  unfold BlkF
  rw [h]
  congr 2
  apply Array.toList_inj.1
  rw [toList_madeCells_one]
  exact List.ext_getElem (by simp) fun i _ _ => by simp
theorem BlkF.kx {S : Nat → Prop} {W W' : World} {g n : Nat} {o : Nat → Bool} (h : BlkF W g n o) (hk : Kx S W W') (hs : ¬ S g) : BlkF W' g n o := (hk.block g h.lt hs).trans h
theorem BlkF.drew {W : World} {g n : Nat} {o : Nat → Bool} (h : BlkF W g n o) : BlkF W.drew g n o := h
theorem infoBool1 : (Try.prog.info? 4).map (fun i => (i.zero, i.size, i.bytes)) = some (some (.bool false), 1, 1) := by kernel_rfl
theorem run_mkBool (m : Nat) (hm : m ≤ 1000) (w : World) : (Instr.makeSlice 80 (.int .i64 (m : Int)) (.int .i64 (m : Int))).run Try.prog w = .ok (.slice (some ⟨w.heap.size, 0, none⟩) m m) (w.alloc (.cells (madeCells #[Value.bool false] m) 4)) :=
  run_make_row' 80 4 (.bool false) 1 Try.underlying80 infoBool1 rfl .i64 .i64 m (by omega) (by omega) w
/-- The links' ends are notes. -/
def LkV (N : Nat) (K : List Lk) : Prop := ∀ l ∈ K, (0 ≤ l.a ∧ l.a < N) ∧ (0 ≤ l.b ∧ l.b < N)
theorem LkV.lkN {N : Nat} {K : List Lk} (h : LkV N K) : LkN N K := fun l hl => by have := h l hl; omega
theorem sweep_take {K : List Lk} {most : Int} {o : Nat → Bool} {i : Nat} {l : Lk} (hl : K[i]? = some l) : sweep (K.take (i + 1)) most o = rstep most (sweep (K.take i) most o) l := by
  obtain ⟨hi, rfl⟩ := List.getElem?_eq_some_iff.1 hl
  rw [List.take_succ_eq_append_getElem hi, sweep_app]; rfl
set_option maxRecDepth 8000 in
set_option maxHeartbeats 8000000 in
theorem reach_any (N x : Nat) (A : Option Addr) (n c : Nat) (K : List Lk) (most : Int) (w : World) (hS : SlE linkE 3 w A n K) (hn : n ≤ 9223372036854775807) (hK : LkV N K) (hN : N ≤ 64) (hx : x < N) :
    Calls Try.prog 56 #[.int .i64 (N : Nat), .slice A n c, .int .i64 (x : Nat), .int .i64 most] w
      fun e w' => ∃ g, e = .returned (.slice (some ⟨g, 0, none⟩) N N) ∧ w.heap.size ≤ g ∧ BlkF w' g N (reachF K most N x) ∧ Below w.heap.size w w' := by
  refine calls_cps ?_
  intro R hR
  have HS := Lib.hid hS
  have HK := Lib.hid hK
  have hmk := run_mkBool N (by omega)
  have hnew := heap_alloc_new w (.cells (madeCells #[Value.bool false] N) 4)
  have hbw := below_new w (.cells (madeCells #[Value.bool false] N) 4)
  obtain ⟨w1, hw1⟩ : ∃ w1, w.alloc (.cells (madeCells #[Value.bool false] N) 4) = w1 := ⟨_, rfl⟩
  obtain ⟨g, hg⟩ : ∃ g, w.heap.size = g := ⟨_, rfl⟩
  rw [hw1] at hnew hbw
  rw [hg] at hnew hbw hR
  have hb1 : BlkF w1 g N (fun _ => false) := BlkF.made hnew
  have c0 := hb1.cell hx
  have f0 := hb1.frozen
  have hb2 := (hb1.set x).congr (p := fun i => decide (i = x)) (fun i _ => by simp)
  have hk2 := kx_setg (Kx.refl (fun j => j = g) w1) x (.bool true)
  have hbz : Below g w (w1.setCell ⟨g, x, none⟩ (.bool true)) := Kx.low hbw hk2 (fun j hj => by omega) (by have := hbw.size; omega)
  have HB2 := Lib.hid hb2
  have HBz := Lib.hid hbz
  have hx0 : (0 : Int) ≤ (x : Int) := by omega
  have hxN : (x : Int) < (N : Int) := by omega
  have Hg := Lib.hid hg
  clear hS hK hnew hbw hb1 hb2 hk2 hbz hg
  go_enter Try.func56, Try.ntmps56
  go_upto_region 2 with fail
  rw [Hg.out]
  go_wp2_with fail
  clear c0 f0 hmk
  obtain ⟨W1, hW1⟩ : ∃ W1, w1.setCell ⟨g, x, none⟩ (.bool true) = W1 := ⟨_, rfl⟩
  rw [hW1] at HB2 HBz ⊢
  clear hW1 hw1
  go_loopw [10] (fun s10 wr => ∃ k : Nat, s10 = .int .i64 (k : Nat) ∧ k ≤ N ∧ Hid (BlkF wr g N (rounds K most k (fun i => decide (i = x)))) ∧ Below g w wr) (fun s10 _ => N - (intOf s10).toNat)
  case atStart => exact ⟨0, rfl, Nat.zero_le _, HB2, HBz.out⟩
  case round =>
    clear HB2 HBz
    obtain ⟨k, rfl, hk, HB, hbw⟩ := hrel
    obtain ⟨wi, rfl⟩ : ∃ wi : World, wi = wr := ⟨_, rfl⟩
    have HBw := Lib.hid hbw
    clear hbw
    obtain ⟨o, ho⟩ : ∃ o, rounds K most k (fun i => decide (i = x)) = o := ⟨_, rfl⟩
    rw [ho] at HB
    by_cases hlt : k < N
    · have i1 : (k : Int) < (N : Int) := by omega
      go_wp2_with fail
      go_loopw [11] (fun s11 wr => ∃ i : Nat, s11 = .int .i64 (i : Nat) ∧ i ≤ n ∧ Hid (BlkF wr g N (sweep (K.take i) most o)) ∧ Below g w wr) (fun s11 _ => n - (intOf s11).toNat)
      case atStart => exact ⟨0, rfl, Nat.zero_le _, HB, HBw.out⟩
      case round =>
        clear HB HBw
        obtain ⟨i, rfl, hi, HB, hbw⟩ := hrel
        obtain ⟨wo, rfl⟩ : ∃ wo : World, wo = wr := ⟨_, rfl⟩
        have HBw := Lib.hid hbw
        by_cases hin : i < n
        · have j1 : (i : Int) < (n : Int) := by omega
          obtain ⟨bb, oo, l, rfl, hbl, hs, p0, p1, p2⟩ := (HS.out.below (by rw [Hg.out]; exact hbw)).at3 hin
          have hlv := HK.out l (List.mem_of_getElem? hs)
          have Hst := Lib.hid (sweep_take (most := most) (o := o) hs)
          obtain ⟨na, hna⟩ : ∃ na : Nat, l.a = na := ⟨l.a.toNat, by omega⟩
          obtain ⟨nb, hnb⟩ : ∃ nb : Nat, l.b = nb := ⟨l.b.toNat, by omega⟩
          have hnaN : na < N := by omega
          have hnbN : nb < N := by omega
          have hta : l.a.toNat = na := by omega
          have htb : l.b.toNat = nb := by omega
          rw [hna] at p0
          rw [hnb] at p1
          have hlb := heap_alloc_new wo (.cells #[.int .i64 (na : Int), .int .i64 (nb : Int), .int .i64 l.w] 42)
          have hbo := below_new wo (.cells #[.int .i64 (na : Int), .int .i64 (nb : Int), .int .i64 l.w] 42)
          obtain ⟨bL, hbL⟩ : ∃ bL, wo.heap.size = bL := ⟨_, rfl⟩
          obtain ⟨w2, hw2⟩ : ∃ w2, wo.alloc (.cells #[.int .i64 (na : Int), .int .i64 (nb : Int), .int .i64 l.w] 42) = w2 := ⟨_, rfl⟩
          have hgl := HB.out.lt
          have hB2 : BlkF w2 g N (sweep (K.take i) most o) := by rw [← hw2]; exact (hbo.block g hgl).trans HB.out
          have hb2 : Below g w w2 := by rw [← hw2]; exact hbw.trans (hbo.mono (by omega))
          rw [hw2] at hlb hbo
          rw [hbL] at hlb hgl
          obtain ⟨e0, e1, e2, ef⟩ : w2.cell? ⟨bL, 0, none⟩ = some (.int .i64 (na : Int)) ∧ w2.cell? ⟨bL, 1, none⟩ = some (.int .i64 (nb : Int)) ∧ w2.cell? ⟨bL, 2, none⟩ = some (.int .i64 l.w) ∧ True :=
            ⟨by rw [cell_of_row _ _ 0 _ _ (0, 0) hlb]; rfl, by rw [cell_of_row _ _ 1 _ _ (0, 0) hlb]; rfl, by rw [cell_of_row _ _ 2 _ _ (0, 0) hlb]; rfl, trivial⟩
          obtain ⟨f, hf⟩ : ∃ f, sweep (K.take i) most o = f := ⟨_, rfl⟩
          rw [hf] at hB2 Hst
          have ca := hB2.cell hnaN
          have cb := hB2.cell hnbN
          have fz := hB2.frozen
          have k0 : (0 : Int) ≤ (na : Int) := by omega
          have k1 : (na : Int) < (N : Int) := by omega
          have k2 : (0 : Int) ≤ (nb : Int) := by omega
          have k3 : (nb : Int) < (N : Int) := by omega
          have HB2 := Lib.hid hB2
          have Hb2 := Lib.hid hb2
          have hgs := hb2.size
          have Htab := Lib.hid (And.intro hta htb)
          clear hbw hs hlv hna hnb hta htb hlb hbo hB2 hb2 hf HB
          obtain ⟨va, hva⟩ : ∃ v, f na = v := ⟨_, rfl⟩
          obtain ⟨vb, hvb⟩ : ∃ v, f nb = v := ⟨_, rfl⟩
          have Hno := Lib.hid (show ¬ (l.w ≤ most ∧ (va = true ∨ vb = true)) → sweep (K.take (i + 1)) most o = f from fun h => by
            rw [Hst.out]; unfold rstep
            rw [Htab.out.1, Htab.out.2, hva, hvb, if_neg h])
          have Hyes := Lib.hid (show l.w ≤ most ∧ (va = true ∨ vb = true) → sweep (K.take (i + 1)) most o = fun i => f i || decide (i = na) || decide (i = nb) from fun h => by
            rw [Hst.out]; unfold rstep
            rw [Htab.out.1, Htab.out.2, hva, hvb, if_pos h])
          rw [hva] at ca
          rw [hvb] at cb
          clear hva hvb Hst
          have Hset := Lib.hid (show BlkF (((w2.setCell ⟨g, na, none⟩ (.bool true)).setCell ⟨g, nb, none⟩ (.bool true)).drew) g N (fun i => f i || decide (i = na) || decide (i = nb)) ∧ BlkF (((w2.setCell ⟨g, nb, none⟩ (.bool true)).setCell ⟨g, na, none⟩ (.bool true)).drew) g N (fun i => f i || decide (i = na) || decide (i = nb)) from
            ⟨(((HB2.out.set na).set nb)).drew, (((HB2.out.set nb).set na)).drew.congr (fun i _ => by rw [Bool.or_assoc, Bool.or_assoc, Bool.or_comm (decide (i = nb))])⟩)
          have Hkk := Lib.hid (show Below g w (((w2.setCell ⟨g, na, none⟩ (.bool true)).setCell ⟨g, nb, none⟩ (.bool true)).drew) ∧ Below g w (((w2.setCell ⟨g, nb, none⟩ (.bool true)).setCell ⟨g, na, none⟩ (.bool true)).drew) from
            ⟨Kx.low Hb2.out (kx_setg (kx_setg (Kx.refl (fun j => j = g) w2) na (.bool true)) nb (.bool true)).drew (fun j hj => by omega) (by have := HB2.out.lt; omega), Kx.low Hb2.out (kx_setg (kx_setg (Kx.refl (fun j => j = g) w2) nb (.bool true)) na (.bool true)).drew (fun j hj => by omega) (by have := HB2.out.lt; omega)⟩)
          by_cases hwm : l.w ≤ most
          · by_cases hv : va = true ∨ vb = true
            · have hfin := Hyes.out ⟨hwm, hv⟩
              have Hfin := Lib.hid hfin
              clear hfin Hno Hyes
              cases va <;> cases vb
              · simp at hv
              all_goals
                clear hv
                have s1 := (HB2.out.set na).cell hnbN
                have s2 := (HB2.out.set nb).cell hnaN
                have fz1 := (HB2.out.set na).frozen
                have fz2 := (HB2.out.set nb).frozen
                go_wp2_with fail
                go_region
              all_goals
                clear s1 s2 fz1 fz2 ca cb fz
                obtain ⟨W9, hW9⟩ : ∃ W9, ((w2.setCell ⟨g, na, none⟩ (.bool true)).setCell ⟨g, nb, none⟩ (.bool true)).drew = W9 := ⟨_, rfl⟩
                have Hs9 := Lib.hid Hset.out.1
                have Hk9 := Lib.hid Hkk.out.1
                rw [hW9] at Hs9 Hk9 ⊢
                clear hW9 Hset Hkk
                go_wp2_with fail
                exact ⟨⟨i + 1, by go_num, by omega, Lib.hid (by rw [Hfin.out]; exact Hs9.out), Hk9.out⟩, by simp [intOf]; omega⟩
            · have hfin := Hno.out (fun h => hv h.2)
              have Hfin := Lib.hid hfin
              obtain rfl : va = false := by cases va <;> simp_all
              obtain rfl : vb = false := by cases vb <;> simp_all
              clear hfin Hno Hyes hv
              go_wp2_with fail
              exact ⟨⟨i + 1, by go_num, by omega, Lib.hid (by rw [Hfin.out]; exact HB2.out), Hb2.out⟩, by simp [intOf]; omega⟩
          · have hfin := Hno.out (fun h => hwm h.1)
            have Hfin := Lib.hid hfin
            clear hfin Hno Hyes
            go_wp2_with fail
            exact ⟨⟨i + 1, by go_num, by omega, Lib.hid (by rw [Hfin.out]; exact HB2.out), Hb2.out⟩, by simp [intOf]; omega⟩
        · obtain rfl : i = n := by omega
          have hr : sweep (K.take i) most o = rounds K most (k + 1) (fun i => decide (i = x)) := by
            rw [List.take_of_length_le (by rw [← HS.out.1]; exact Nat.le_refl _), ← ho]; rfl
          rw [hr] at HB
          clear hr ho
          go_wp2_with fail
          exact ⟨⟨k + 1, by go_num, by omega, HB, hbw⟩, by simp [intOf]; omega⟩
    · obtain rfl : k = N := by omega
      rw [← ho] at HB
      have Hf := Lib.hid (hR.out _ wi ⟨g, rfl, Nat.le_refl _, HB.out, HBw.out⟩)
      clear hR HB HBw
      go_wp2_with fail
      exact Hf.out
end
section
open Go.RowKit
theorem elemLink : ElemOk Try.prog 34 42 3 24 := ElemOk.of (z := .agg #[.int .i64 0, .int .i64 0, .int .i64 0]) Try.underlying34 (by kernel_rfl) rfl (by omega)
theorem refBear_bad (notes : Int) (A : Option Addr) (n c : Nat) (L : List Lk) (w : World) (hS : SlE linkE 3 w A n L) (hn : n ≤ 9223372036854775807) (hp : planB notes L = false) :
    Calls Try.prog 25 #[.int .i64 notes, .slice A n c] w fun e w' => e = .returned (.tuple #[.slice none 0 0, .int .i64 1]) ∧ Below w.heap.size w w' := by
  refine calls_cps ?_
  intro R hR
  have hpl := refPlan_any notes A n c L w hS hn
  rw [hp] at hpl
  have Hpl := Lib.hid hpl
  have Hf := Lib.hid (hR.out _ w ⟨rfl, Below.refl _ _⟩)
  clear hpl hS hp hR
  go_enter Try.func25, Try.ntmps25
  go_wp2_with (go_at_call 27; refine Hpl.out.mono ?_; rintro e w2 ⟨rfl, rfl⟩)
  exact Hf.out
structure RbI (L : List Lk) (W : World) (n gu gs base : Nat) (D rest T : List Int) (cc : Nat → Nat) (A8 : Option Addr) (c8 : Nat) : Prop where
  seen : BlkF W gs n (fun i => decide ((i : Int) ∈ D))
  used : BlkF W gu n (fun i => decide ((i : Int) ∈ T))
  row : W.ownsRow base 42 3 (.slice A8 T.length c8) T.length ((lksL L T).flatMap linkE)
  lab : Lab L D T cc
  ord : srt L (idxs L.length) = D ++ rest
  run : krun L stop0 rest cc T = kruL L stop0
  le : T.length ≤ D.length
theorem RbI.kx {L : List Lk} {W W' : World} {n gu gs base : Nat} {D rest T : List Int} {cc : Nat → Nat} {A8 : Option Addr} {c8 : Nat} (h : RbI L W n gu gs base D rest T cc A8 c8) (hb : Below W.heap.size W W') : RbI L W' n gu gs base D rest T cc A8 c8 :=
  ⟨(hb.block _ h.seen.lt).trans h.seen, (hb.block _ h.used.lt).trans h.used, own_of_kx h.row (S := fun _ => False) ((Kx.refl _ W).below hb) (fun _ _ h => h), h.lab, h.ord, h.run, h.le⟩
theorem lksL_mem {L : List Lk} {T : List Int} {l : Lk} (h : l ∈ lksL L T) : l ∈ L := by
  obtain ⟨i, _, e⟩ := List.mem_filterMap.1 h
  exact List.mem_of_getElem? e
theorem mem_snoc (D : List Int) (m : Nat) : (fun i : Nat => decide ((i : Int) ∈ D) || decide (i = m)) = fun i : Nat => decide ((i : Int) ∈ D ++ [(m : Int)]) := by
  funext i
  rw [Bool.eq_iff_iff]
  have e : i = m ↔ (i : Int) = (m : Int) := by omega
  simp only [List.mem_append, List.mem_singleton, Bool.or_eq_true, decide_eq_true_eq]
  rw [e]
set_option maxRecDepth 8000 in
set_option maxHeartbeats 8000000 in
theorem refBear_any (N : Nat) (A : Option Addr) (n c : Nat) (L : List Lk) (w : World) (hS : SlE linkE 3 w A n L) (hp : Pln (N : Nat) L) (T0 : List Int) (hT0 : (kruL L stop0).1 = T0) :
    Calls Try.prog 25 #[.int .i64 (N : Nat), .slice A n c] w fun e w' => Below w.heap.size w w' ∧ ((T0.length + 1 ≠ N ∧ e = .returned (.tuple #[.slice none 0 0, .int .i64 6])) ∨
      (T0.length + 1 = N ∧ ∃ A' c', e = .returned (.tuple #[.slice A' T0.length c', .int .i64 0]) ∧ SlE intE 1 w' A' T0.length (isrt T0))) := by
  refine calls_cps ?_
  intro R hR
  have hln : L.length = n := hS.1.symm
  have hn512 : n ≤ 512 := by rw [hS.1]; exact hp.len
  have hN1 : 1 ≤ N := by have := hp.lo; omega
  have hN2 : N ≤ 64 := by have := hp.hi; omega
  have hpl := refPlan_any (N : Nat) A n c L w hS (by omega)
  rw [(planB_iff _ _).2 hp] at hpl
  have Hpl := Lib.hid hpl
  have HS := Lib.hid hS
  have Hp := Lib.hid hp
  have HT0 := Lib.hid hT0
  have Hln := Lib.hid hln
  have hmk := run_mkBool n (by omega)
  clear hS hp hpl hT0 hln
  go_enter Try.func25, Try.ntmps25
  go_upto_region 6 with (go_at_call 27; refine Hpl.out.mono ?_; rintro e w2 ⟨rfl, rfl⟩)
  have hk1 := heap_alloc_new w (.cells (madeCells #[Value.bool false] n) 4)
  have hb1 := below_new w (.cells (madeCells #[Value.bool false] n) 4)
  obtain ⟨W1, hW1⟩ : ∃ W1, w.alloc (.cells (madeCells #[Value.bool false] n) 4) = W1 := ⟨_, rfl⟩
  have hz1 : W1.heap.size = w.heap.size + 1 := by rw [← hW1]; simp
  have hk2 := heap_alloc_new W1 (.cells (madeCells #[Value.bool false] n) 4)
  have hb2 := below_new W1 (.cells (madeCells #[Value.bool false] n) 4)
  obtain ⟨W2, hW2⟩ : ∃ W2, W1.alloc (.cells (madeCells #[Value.bool false] n) 4) = W2 := ⟨_, rfl⟩
  have hz2 : W2.heap.size = w.heap.size + 1 + 1 := by rw [← hW2]; simp; omega
  have hb3 := below_new W2 (.cells #[] 42)
  have ho3 := own_newAt W2 #[] 42 3 0 (w.heap.size + 1 + 1) rfl (by omega) (by unfold maxLen; omega) rfl
  rw [hW1, hW2]
  rw [hW1] at hk1 hb1
  rw [hW2] at hk2 hb2
  rw [hz1] at hk2
  rw [hz2] at ho3
  obtain ⟨gu, hgu⟩ : ∃ gu, w.heap.size = gu := ⟨_, rfl⟩
  rw [hgu] at hk1 hk2 hb1 hz1 hz2 ho3 hR ⊢
  obtain ⟨W3, hW3⟩ : ∃ W3, W2.alloc (.cells #[] 42) = W3 := ⟨_, rfl⟩
  rw [hW3] at hb3 ho3 ⊢
  have hI0 : RbI L W3 n gu (gu + 1) (gu + 1 + 1) [] (srt L (idxs L.length)) [] id (some ⟨gu + 1 + 1, 0, none⟩) 0 :=
    ⟨((hb3.block _ (by omega)).trans hk2 |> BlkF.made).congr (fun i _ => by simp), ((hb3.block _ (by omega)).trans ((hb2.block _ (by omega)).trans hk1) |> BlkF.made).congr (fun i _ => by simp), ho3, Lab.start L, rfl, rfl, Nat.le_refl _⟩
  have hB0 : Below gu w W3 := (hb1.trans (hb2.mono (by omega))).trans (hb3.mono (by omega))
  have HI0 := Lib.hid hI0
  have HB0 := Lib.hid hB0
  have Hgu := Lib.hid hgu
  clear hk1 hk2 hb1 hb2 hb3 ho3 hW1 hW2 hW3 hz1 hz2 hI0 hB0 hmk hgu
  go_wp2_with fail
  go_loopg [8, 9, 10, 11, 12] n (fun gk s8 s9 _ _ _ wr => ∃ (k : Nat) (D rest T : List Int) (cc : Nat → Nat) (A8 : Option Addr) (c8 : Nat), s9 = .int .i64 (k : Nat) ∧ k = D.length ∧ k + gk = n ∧ s8 = .slice A8 T.length c8 ∧ Hid (RbI L wr n gu (gu + 1) (gu + 1 + 1) D rest T cc A8 c8) ∧ Below gu w wr)
  case atStart => exact ⟨0, [], _, [], id, _, 0, rfl, rfl, by omega, rfl, HI0, HB0.out⟩
  case round =>
    clear HI0 HB0
    obtain ⟨k, D, rest, T, cc, A8, c8, rfl, hkD, hkn, rfl, HI, hbw⟩ := hrel
    obtain ⟨wi, rfl⟩ : ∃ wi : World, wi = wr := ⟨_, rfl⟩
    obtain ⟨go, hgo⟩ : ∃ go, gk = go := ⟨_, rfl⟩
    have hkg : k + go = n := by omega
    have Hgo := Lib.hid hgo
    clear hgo hkn
    have HBw := Lib.hid hbw
    have hgz : gu ≤ wi.heap.size := by have := HI.out.used.lt; omega
    have HSi := Lib.hid (HS.out.below (by rw [Hgu.out]; exact hbw))
    have hlr : D.length + rest.length = n := by
      have := (srt_perm L (idxs L.length)).length_eq
      rw [HI.out.ord, List.length_append, idxs_len] at this
      rw [this]; exact Hln.out
    have hDm : ∀ x ∈ D ++ rest, 0 ≤ x ∧ x < n := fun x hx => by
      have := idxs_mem.1 ((srt_perm L (idxs L.length)).subset (by rw [HI.out.ord]; exact hx))
      rw [Hln.out] at this; exact this
    have hTm : ∀ x ∈ T, 0 ≤ x ∧ x < L.length := fun x hx => by
      have := hDm x (List.mem_append_left _ (HI.out.lab.sub x hx))
      rw [Hln.out]; exact this
    have HTm := Lib.hid hTm
    have HkD := Lib.hid hkD
    have hlr2 : k + rest.length = n := by omega
    clear hbw hkD hTm hlr
    by_cases hlt : k < n
    · have i1 : (k : Int) < (n : Int) := by omega
      obtain ⟨x, rest2, hrx⟩ : ∃ x rest2, rest = x :: rest2 := by
        cases h : rest with
        | nil => exfalso; rw [h] at hlr2; simp at hlr2; omega
        | cons x r2 => exact ⟨x, r2, rfl⟩
      subst hrx
      have hxm := hDm x (by simp)
      obtain ⟨m, rfl⟩ : ∃ m : Nat, x = m := ⟨x.toNat, by omega⟩
      have hmn : m < n := by omega
      clear hDm hxm
      go_wp2_with fail
      go_loopg [10, 11] n (fun gk s10 s11 wr => ∃ (i : Nat) (b : Int), s11 = .int .i64 (i : Nat) ∧ s10 = .int .i64 b ∧ i + gk = n ∧ -1 ≤ b ∧ b < n ∧ Hid (MinI L (fun i => decide ((i : Int) ∈ D)) i b) ∧ Qt wi wr)
      case atStart => exact ⟨0, -1, rfl, rfl, by omega, by omega, by omega, Lib.hid (MinI.start _ _), Qt.refl _⟩
      case round =>
        obtain ⟨i, b, rfl, rfl, hin, hb1, hb2, HM, q, rfl⟩ := hrel
        by_cases hltn : i < n
        · have j1 : (i : Int) < (n : Int) := by omega
          have j0 : (0 : Int) ≤ (i : Int) := by omega
          have s0 : (wi.drewN q).cell? ⟨gu + 1, i, none⟩ = some (.bool (decide ((i : Int) ∈ D))) := HI.out.seen.cell hltn
          obtain ⟨sb, hsb⟩ : ∃ sb, decide ((i : Int) ∈ D) = sb := ⟨_, rfl⟩
          rw [hsb] at s0
          have Hsb := Lib.hid hsb
          obtain ⟨bb, oo, l, rfl, hbl, hs, p0, p1, p2⟩ := HSi.out.at3 hltn
          have p2' : (wi.drewN q).cell? ⟨bb, oo + i * 3 + 2, none⟩ = some (.int .i64 l.w) := p2
          have hwi : lkW L (i : Int) = l.w := by unfold lkW; rw [Int.toNat_natCast, hs]
          have Hwi := Lib.hid hwi
          obtain ⟨wq, hwq⟩ : ∃ wq, wi.drewN q = wq := ⟨_, rfl⟩
          rw [hwq] at s0 p2' ⊢
          have Hwq := Lib.hid hwq
          clear hsb hs p0 p1 p2 hwi
          cases sb
          · by_cases hb0 : b < 0
            · have HM2 := Lib.hid (HM.out.take Hsb.out (.inl hb0))
              clear hwq
              go_wp2_with fail
              go_quiet (fail)
              go_wp2_with fail
              go_roundg (gk - 1)
              case measure => omega
              case rel => exact ⟨i + 1, i, by go_num, rfl, by omega, by omega, by omega, HM2, q + nq, by rw [← Hwq.out]; exact World.drewN_drewN _ _ _⟩
            · obtain ⟨mb, rfl⟩ : ∃ mb : Nat, b = mb := ⟨b.toNat, by omega⟩
              obtain ⟨bb', oo', l', e', _, hs', _, _, p3⟩ := HSi.out.at3 (k := mb) (by omega)
              simp only [Option.some.injEq, Addr.mk.injEq, and_true] at e'
              obtain ⟨e1, e2⟩ := e'
              have p3' : wq.cell? ⟨bb, oo + mb * 3 + 2, none⟩ = some (.int .i64 l'.w) := by rw [← hwq, e1, e2]; exact p3
              have hwb : lkW L (mb : Int) = l'.w := by unfold lkW; rw [Int.toNat_natCast, hs']
              have m0 : (0 : Int) ≤ (mb : Int) := by omega
              by_cases hw : l.w < l'.w
              · have HM2 := Lib.hid (HM.out.take Hsb.out (.inr (by rw [Hwi.out, hwb]; exact hw)))
                clear hs' p3 hwb hwq e1 e2
                go_wp2_with fail
                go_quiet (fail)
                go_wp2_with fail
                go_roundg (gk - 1)
                case measure => omega
                case rel => exact ⟨i + 1, i, by go_num, rfl, by omega, by omega, by omega, HM2, q + nq, by rw [← Hwq.out]; exact World.drewN_drewN _ _ _⟩
              · have HM2 := Lib.hid (HM.out.keep (fun h => h.elim hb0 (fun h => hw (by rw [Hwi.out, hwb] at h; exact h))))
                clear hs' p3 hwb hwq e1 e2
                go_wp2_with fail
                go_quiet (fail)
                go_wp2_with fail
                go_roundg (gk - 1)
                case measure => omega
                case rel => exact ⟨i + 1, mb, by go_num, rfl, by omega, by omega, by omega, HM2, q + nq, by rw [← Hwq.out]; exact World.drewN_drewN _ _ _⟩
          · have HM2 := Lib.hid (HM.out.seen Hsb.out)
            clear hwq
            go_wp2_with fail
            go_quiet (fail)
            go_wp2_with fail
            go_roundg (gk - 1)
            case measure => omega
            case rel => exact ⟨i + 1, b, by go_num, rfl, by omega, by omega, by omega, HM2, q + nq, by rw [← Hwq.out]; exact World.drewN_drewN _ _ _⟩
        · obtain rfl : i = n := by omega
          have hbm : b = (m : Int) := by
            have := HM.out
            rw [← Hln.out] at this
            exact this.next HI.out.ord (fun i _ => by simp)
          subst hbm
          have hmD : m < i := hmn
          have hq := HI.out.seen.cell hmD
          have fz := HI.out.seen.frozen
          have hset := (HI.out.seen.set m)
          rw [mem_snoc] at hset
          obtain ⟨W5, hW5⟩ : ∃ W5, (wi.drewN q).setCell ⟨gu + 1, m, none⟩ (.bool true) = W5 := ⟨_, rfl⟩
          have hk5 : Kx (fun j => j = gu + 1) wi W5 := by rw [← hW5]; exact kx_setg ((Kx.refl (fun j => j = gu + 1) wi).drewN q) m (.bool true)
          have hset5 : BlkF W5 (gu + 1) i (fun i => decide ((i : Int) ∈ D ++ [(m : Int)])) := by rw [← hW5]; exact hset
          have hB5 : Below gu w W5 := Kx.low HBw.out hk5 (fun j hj => by omega) (by omega)
          have hS5 := HS.out.below (by rw [Hgu.out]; exact hB5)
          obtain ⟨bb, oo, l, rfl, hbl, hs, p0, p1, p2⟩ := hS5.at3 hmn
          have hlv := Hp.out.lk l (List.mem_of_getElem? hs)
          obtain ⟨na, hna⟩ : ∃ na : Nat, l.a = na := ⟨l.a.toNat, by omega⟩
          obtain ⟨nb, hnb⟩ : ∃ nb : Nat, l.b = nb := ⟨l.b.toNat, by omega⟩
          rw [hna] at p0
          rw [hnb] at p1
          have hta : l.a.toNat = na := by omega
          have htb : l.b.toNat = nb := by omega
          have hnaN : na < N := by omega
          have hnbN : nb < N := by omega
          have hrow5 := own_of_kx HI.out.row hk5 (fun j hj e => by omega)
          have hused5 := HI.out.used.kx hk5 (by omega)
          have hTl := lksL_len HTm.out
          have hre := reach_any N na A8 T.length c8 (lksL L T) 1000000 W5 (SlE.of_own hrow5 hTl.symm) (by have h1 := HkD.out; have h2 := HI.out.le; omega) (fun l' hl' => by have := Hp.out.lk l' (lksL_mem hl'); omega) hN2 hnaN
          have Hre := Lib.hid hre
          have Hb5 := Lib.hid hB5
          have Hin := Lib.hid (And.intro hset5 (And.intro hused5 hrow5))
          have Hs := Lib.hid hs
          have Hab := Lib.hid (And.intro hta htb)
          have HlM := Lib.hid (And.intro hna hnb)
          have m0 : (0 : Int) ≤ (m : Int) := by omega
          have m1 : (m : Int) < (i : Int) := by omega
          have hz5 : gu ≤ W5.heap.size := by have h1 := hB5.size; have h2 := Hgu.out; omega
          clear hset hset5 hk5 hB5 hS5 hs hlv hta htb hrow5 hused5 hre hTl
          obtain ⟨mv, hmv⟩ : ∃ mv, reachF (lksL L T) 1000000 N na nb = mv := ⟨_, rfl⟩
          have Hmv := Lib.hid (show mv = true ↔ cc na = cc nb from by
            rw [← hmv, reach_iff (fun l' hl' => by have := Hp.out.lk l' (lksL_mem hl'); omega) hnaN, conn_lks (fun l' hl' => (Hp.out.lk l' hl').2.2.2), HI.out.lab.iff])
          have Hmv2 := Lib.hid hmv
          clear hmv
          have b0 : (0 : Int) ≤ (nb : Int) := by omega
          have b1 : (nb : Int) < (N : Int) := by omega
          have HP0 := Lib.hid (And.intro p0 p1)
          go_upto_region 17 with (go_at_call 56; (try rw [hW5]); refine Hre.out.mono ?_; rintro e w6 ⟨g3, rfl, hg3, hF3, hb6⟩)
          clear hq fz p0 p1 p2
          have hz6 := hb6.size
          have hb6' : Below gu w w6 := Hb5.out.trans (hb6.mono (by omega))
          have hseen6 := (hb6.block _ Hin.out.1.lt).trans Hin.out.1
          have hused6 := (hb6.block _ Hin.out.2.1.lt).trans Hin.out.2.1
          have hrow6 := own_of_kx Hin.out.2.2 (S := fun _ => False) ((Kx.refl _ W5).below hb6) (fun _ _ h => h)
          have hS6 := HS.out.below (by rw [Hgu.out]; exact hb6')
          obtain ⟨bb', oo', l', e', _, hs', p0, p1, p2⟩ := hS6.at3 hmn
          simp only [Option.some.injEq, Addr.mk.injEq, and_true] at e'
          obtain ⟨e1, e2⟩ := e'
          have hll : l' = l := by have h := Hs.out; rw [hs'] at h; injection h
          subst hll
          rw [← e1, ← e2, HlM.out.1] at p0
          rw [← e1, ← e2, HlM.out.2] at p1
          rw [← e1, ← e2] at p2
          have g0 := hF3.cell hnbN
          rw [Hmv2.out] at g0
          have Hin6 := Lib.hid (And.intro hseen6 (And.intro hused6 hrow6))
          have Hb6 := Lib.hid hb6'
          have Hlk : Hid (L[(m : Int).toNat]? = some l') := Lib.hid (by rw [Int.toNat_natCast]; exact Hs.out)
          clear hseen6 hused6 hrow6 hS6 hs' e1 e2 hF3 hb6 hb6'
          cases mv
          · have hne : cc l'.a.toNat ≠ cc l'.b.toNat := fun h => by
              rw [Hab.out.1, Hab.out.2] at h
              have := Hmv.out.2 h
              cases this
            have hTl := lksL_len HTm.out
            have Hone := Lib.hid (show ∀ v ∈ ([.int .i64 (na : Int), .int .i64 (nb : Int), .int .i64 l'.w] : List Value), v.oneCell' = true from fun v hv => by simp at hv; rcases hv with rfl | rfl | rfl <;> rfl)
            have hTle : T.length ≤ 512 := by have h1 := HI.out.le; have h2 := HkD.out; omega
            have hz6b : gu + 1 + 1 ≤ w6.heap.size := by have := Hin6.out.1; have := (Array.getElem?_eq_some_iff.1 this).1; omega
            go_upto_region 19 with (at_builtin; refine wpList_app rfl (.tmp 81) (.tmp 86) _ rfl elemLink (gu + 1 + 1) _ _ _ rfl (Hin6.out.2.2.kept (World.grownBy_alloc w6 _ none) (by cases (Value.slice A8 T.length c8).ownBlock <;> simp)) _ _ _ _ rfl (Sl.new _ _ _ 3 1 rfl) Hone.out (by unfold maxLen; omega) (by omega) (by simp <;> omega) ?_; intro A9 c9 w9 ho9 hg9 _)
            have hk9 := own_kx Hin6.out.2.2 hg9
            have hseen9 : BlkF w9 (gu + 1) i (fun i => decide ((i : Int) ∈ D ++ [(m : Int)])) := BlkF.kx Hin6.out.1 hk9 (by omega)
            have hused9 : BlkF w9 gu i (fun i => decide ((i : Int) ∈ T)) := BlkF.kx Hin6.out.2.1 hk9 (by omega)
            have u0 := hused9.cell hmD
            have uf := hused9.frozen
            have hset := hused9.set m
            rw [mem_snoc] at hset
            obtain ⟨W10, hW10⟩ : ∃ W10, w9.setCell ⟨gu, m, none⟩ (.bool true) = W10 := ⟨_, rfl⟩
            have hk10 : Kx (fun j => j = gu) w9 W10 := by rw [← hW10]; exact kx_setg (Kx.refl (fun j => j = gu) w9) m (.bool true)
            rw [hW10] at hset
            have HI7 := Lib.hid (show RbI L W10 i gu (gu + 1) (gu + 1 + 1) (D ++ [(m : Int)]) rest2 (T ++ [(m : Int)]) (relab cc (cc l'.a.toNat) (cc l'.b.toNat)) A9 c9 from
              ⟨hseen9.kx hk10 (by omega), hset, by
                have := own_of_kx ho9 hk10 (fun j hj e => by omega)
                rw [List.length_append, lksL_snoc Hlk.out, List.flatMap_append]
                have e : linkE l' = [.int .i64 (na : Int), .int .i64 (nb : Int), .int .i64 l'.w] := by unfold linkE; rw [HlM.out.1, HlM.out.2]
                show W10.ownsRow (gu + 1 + 1) 42 3 (.slice A9 (T.length + 1) c9) (T.length + 1) (List.flatMap linkE (lksL L T) ++ (linkE l' ++ []))
                rw [List.append_nil, e]; exact this, HI.out.lab.take Hlk.out, by rw [HI.out.ord, List.append_assoc]; rfl, by rw [← HI.out.run, krun_go Hlk.out hne rfl], by rw [List.length_append, List.length_append]; have := HI.out.le; simp; omega⟩)
            have HkD2 := Lib.hid (show k + 1 = (D ++ [(m : Int)]).length from by rw [List.length_append, HkD.out]; rfl)
            have Hb10 := Lib.hid (show Below gu w W10 from Kx.low (Kx.low Hb6.out hk9 (fun j hj => by omega) (by omega)) hk10 (fun j hj => by omega) (by have := hused9.lt; omega))
            clear hne ho9 hg9 hk9 hseen9 hused9 hset hk10
            go_wp2_with fail
            (try rw [hW10])
            go_roundg (go - 1)
            case measure => have := Hgo.out; omega
            case rel => exact ⟨k + 1, D ++ [(m : Int)], rest2, T ++ [(m : Int)], _, A9, c9, by go_num, HkD2.out, by omega, by rw [List.length_append]; rfl, HI7, Hb10.out⟩
          · have heq : cc l'.a.toNat = cc l'.b.toNat := by rw [Hab.out.1, Hab.out.2]; exact Hmv.out.1 rfl
            have HI7 := Lib.hid (show RbI L w6 i gu (gu + 1) (gu + 1 + 1) (D ++ [(m : Int)]) rest2 T cc A8 c8 from
              ⟨Hin6.out.1, Hin6.out.2.1, Hin6.out.2.2, HI.out.lab.skip Hlk.out heq, by rw [HI.out.ord, List.append_assoc]; rfl, by rw [← HI.out.run, krun_skip Hlk.out heq], by rw [List.length_append]; have := HI.out.le; omega⟩)
            have HkD2 := Lib.hid (show k + 1 = (D ++ [(m : Int)]).length from by rw [List.length_append, HkD.out]; rfl)
            clear heq
            go_wp2_with fail
            go_roundg (go - 1)
            case measure => have := Hgo.out; omega
            case rel => exact ⟨k + 1, D ++ [(m : Int)], rest2, T, cc, A8, c8, by go_num, HkD2.out, by omega, rfl, HI7, Hb6.out⟩
    · have hrest : rest = [] := List.length_eq_zero_iff.1 (by omega)
      have hT : T = T0 := by
        have := HI.out.run
        rw [hrest] at this
        rw [← HT0.out, ← this]; rfl
      obtain rfl : k = n := by omega
      subst hT
      have Hused := Lib.hid HI.out.used
      have hTle : T.length ≤ k := by have h1 := HI.out.le; have h2 := HkD.out; omega
      have hTd := kruL_nodup L stop0
      rw [HT0.out] at hTd
      have Hisr := Lib.hid (isrt_filter (n := k) hTd.1 (fun x hx => by have := hTd.2 x hx; rw [Hln.out] at this; exact this))
      clear hrest HI hTd
      by_cases hTN : T.length + 1 = N
      · have b0 : ((T.length : Int) != (N : Int) - 1) = false := by simp; omega
        have ho0 := own_newAt wi #[] 3 1 0 wi.heap.size rfl (Nat.le_refl _) (by unfold maxLen; omega) rfl
        have hb0' := below_new wi (.cells #[] 3)
        have Ho0 := Lib.hid ho0
        have Hb0' := Lib.hid hb0'
        have HTl := Lib.hid (show ∀ i, i ≤ k → ((idxs i).filter (fun x => decide (x ∈ T))).length ≤ 512 from fun i hi => by
          have := List.length_filter_le (fun x => decide (x ∈ T)) (idxs i)
          rw [idxs_len] at this; omega)
        clear ho0 hb0'
        go_wp2_with fail
        go_loopg [13, 14] k (fun gk s13 s14 wr => ∃ (i : Nat) (A' : Option Addr) (c' : Nat) (o : List Int), s14 = .int .i64 (i : Nat) ∧ i + gk = k ∧ s13 = .slice A' o.length c' ∧ Hid (o = (idxs i).filter (fun x => decide (x ∈ T))) ∧ wr.ownsRow wi.heap.size 3 1 (.slice A' o.length c') o.length (o.flatMap intE) ∧ Below wi.heap.size wi wr)
        case atStart => exact ⟨0, _, 0, [], rfl, by omega, rfl, Lib.hid rfl, Ho0.out, Hb0'.out⟩
        case round =>
          clear Ho0 Hb0'
          obtain ⟨i, A', c', o, rfl, hik, rfl, Ho, hrow, hbo⟩ := hrel
          obtain ⟨wo, rfl⟩ : ∃ wo : World, wo = wr := ⟨_, rfl⟩
          have HO := Lib.hid hrow
          have HB := Lib.hid hbo
          have hzo := hbo.size
          have hol : o.length ≤ 512 := by have := HTl.out i (by omega); rw [← Ho.out] at this; exact this
          clear hrow
          by_cases hlt : i < k
          · have i1 : (i : Int) < (k : Int) := by omega
            have i0 : (0 : Int) ≤ (i : Int) := by omega
            have hu : BlkF wo gu k (fun i => decide ((i : Int) ∈ T)) := (hbo.block gu Hused.out.lt).trans Hused.out
            have u0 := hu.cell hlt
            have uf := hu.frozen
            obtain ⟨ub, hub⟩ : ∃ ub, decide ((i : Int) ∈ T) = ub := ⟨_, rfl⟩
            rw [hub] at u0
            have Hub := Lib.hid hub
            clear hub hu hbo
            cases ub
            · have Ho2 := Lib.hid (show o = (idxs (i + 1)).filter (fun x => decide (x ∈ T)) from by rw [idxs_succ, List.filter_append, ← Ho.out, List.filter_cons, Hub.out]; simp)
              go_wp2_with fail
              go_roundg (gk - 1)
              case measure => omega
              case rel => exact ⟨i + 1, A', c', o, by go_num, by omega, rfl, Ho2, HO.out, HB.out⟩
            · have Ho2 := Lib.hid (show o ++ [(i : Int)] = (idxs (i + 1)).filter (fun x => decide (x ∈ T)) from by rw [idxs_succ, List.filter_append, ← Ho.out, List.filter_cons, Hub.out]; simp)
              go_wp2_with (at_builtin; refine wpList_app rfl (.tmp 107) (.tmp 109) _ rfl elemInt wi.heap.size _ _ _ rfl (HO.out.kept (World.grownBy_alloc wo _ none) (by cases (Value.slice A' o.length c').ownBlock <;> simp)) _ _ _ _ rfl (Sl.new _ _ _ 1 1 rfl) (by simp [Value.oneCell']) (by unfold maxLen; omega) (by omega) (by simp <;> omega) ?_; intro A4 c4 w4 ho4 hg4 _; have HB4 := Lib.hid (below_own (HB.out.alloc HB.out.size _) (HO.out.kept (World.grownBy_alloc wo _ none) (by cases (Value.slice A' o.length c').ownBlock <;> simp)) (by simp) (by simp <;> omega) hg4); have HO4 := Lib.hid ho4; clear ho4 hg4)
              go_roundg (gk - 1)
              case measure => omega
              case rel => exact ⟨i + 1, A4, c4, o ++ [(i : Int)], by go_num, by omega, by rw [List.length_append]; rfl, Ho2, by rw [List.length_append, List.flatMap_append]; exact HO4.out, HB4.out⟩
          · obtain rfl : i = k := by omega
            have ho : o = isrt T := by rw [Ho.out, Hisr.out]
            have hol2 : o.length = T.length := by rw [ho, isrt_len]
            have Hf := Lib.hid (hR.out (.returned (.tuple #[.slice A' o.length c', .int .i64 0])) wo ⟨HBw.out.trans (hbo.mono (by omega)), .inr ⟨hTN, A', c', by rw [hol2], by rw [← hol2, ← ho]; exact SlE.of_own HO.out rfl⟩⟩)
            clear hR ho hol2
            go_wp2_with fail
            exact Hf.out
      · have b0 : ((T.length : Int) != (N : Int) - 1) = true := by simp; omega
        have Hf := Lib.hid (hR.out (.returned (.tuple #[.slice none 0 0, .int .i64 6])) wi ⟨HBw.out, .inl ⟨hTN, rfl⟩⟩)
        clear hR
        go_wp2_with fail
        exact Hf.out
end
end Go.Proofs.Ytgmphiklkllnlaa
