import Derived.Test.YtojbldoekalbnaaGreatTDa
/-
  Plain mathematics of all lists in a range, one after the other in lexicographical order. No program in sight.
-/
namespace Go.Proofs.YtojbldoekalbnaaGreat
def VL (lo hi : Int) (n : Nat) (l : List Int) : Prop := l.length = n ∧ ∀ x ∈ l, lo ≤ x ∧ x ≤ hi
theorem VL.tail {lo hi a : Int} {n : Nat} {l : List Int} (h : VL lo hi (n + 1) (a :: l)) : VL lo hi n l := ⟨by have := h.1; simpa using this, fun x hx => h.2 x (by simp [hx])⟩
theorem VL.cons {lo hi a : Int} {n : Nat} {l : List Int} (h : VL lo hi n l) (ha : lo ≤ a ∧ a ≤ hi) : VL lo hi (n + 1) (a :: l) := ⟨by simp [h.1], fun x hx => by
  rcases List.mem_cons.1 hx with rfl | hx
  · exact ha
  · exact h.2 x hx⟩
/-- The next list: the last element below hi is raised, those behind it begin anew. -/
def odo (lo hi : Int) : List Int → Option (List Int)
  | [] => none
  | a :: r => match odo lo hi r with
    | some r' => some (a :: r')
    | none => if a < hi then some ((a + 1) :: List.replicate r.length lo) else none
def slex (p q : List Int) : Prop := lexI p q ∧ p ≠ q
theorem lexI_total : ∀ {a b : List Int}, a.length = b.length → lexI a b ∨ lexI b a
  | [], _, _ => .inl trivial
  | _ :: _, [], h => by simp at h
  | x :: a, y :: b, h => by
    by_cases e : x = y
    · subst e
      rcases lexI_total (a := a) (b := b) (by simpa using h) with k | k
      · exact .inl (.inr ⟨rfl, k⟩)
      · exact .inr (.inr ⟨rfl, k⟩)
    · by_cases l : x < y
      · exact .inl (.inl l)
      · exact .inr (.inl (by omega))
theorem lexI_lows {lo hi : Int} : ∀ {n : Nat} {s : List Int}, VL lo hi n s → lexI s (List.replicate n lo) → s = List.replicate n lo
  | 0, s, h, _ => by rw [List.length_eq_zero_iff.1 h.1]; rfl
  | n + 1, [], h, _ => by have := h.1; simp at this
  | n + 1, b :: s, h, k => by
    rw [List.replicate_succ] at k ⊢
    have hb := (h.2 b (by simp)).1
    rcases k with k | ⟨k1, k2⟩
    · omega
    · rw [k1, lexI_lows h.tail k2]
theorem lows_lexI {lo hi : Int} : ∀ {n : Nat} {s : List Int}, VL lo hi n s → lexI (List.replicate n lo) s
  | 0, s, _ => by simp [lexI]
  | n + 1, [], h => by have := h.1; simp at this
  | n + 1, b :: s, h => by
    rw [List.replicate_succ]
    have hb := (h.2 b (by simp)).1
    by_cases e : lo = b
    · exact .inr ⟨e, lows_lexI h.tail⟩
    · exact .inl (by omega)
theorem odo_none {lo hi : Int} : ∀ {n : Nat} {l : List Int}, VL lo hi n l → odo lo hi l = none → ∀ p, VL lo hi n p → lexI p l
  | 0, _, _, _, p, hp => by rw [List.length_eq_zero_iff.1 hp.1]; trivial
  | n + 1, [], h, _, _, _ => by have := h.1; simp at this
  | n + 1, a :: r, h, ho, p, hp => by
    cases p with
    | nil => have := hp.1; simp at this
    | cons b s =>
      rw [odo] at ho
      cases hr : odo lo hi r with
      | some r' => rw [hr] at ho; cases ho
      | none =>
        rw [hr] at ho
        have ha := h.2 a (by simp)
        have hb := hp.2 b (by simp)
        by_cases c : a < hi
        · simp [c] at ho
        · by_cases e : b = a
          · exact .inr ⟨e, odo_none h.tail hr s hp.tail⟩
          · exact .inl (by omega)
theorem odo_some {lo hi : Int} : ∀ {n : Nat} {l l' : List Int}, VL lo hi n l → odo lo hi l = some l' → VL lo hi n l' ∧ slex l l' ∧ ∀ p, VL lo hi n p → slex p l' → lexI p l
  | 0, l, l', h, ho => by rw [List.length_eq_zero_iff.1 h.1] at ho; cases ho
  | n + 1, [], l', h, _ => by have := h.1; simp at this
  | n + 1, a :: r, l', h, ho => by
    have ha := h.2 a (by simp)
    rw [odo] at ho
    cases hr : odo lo hi r with
    | some r' =>
      rw [hr] at ho
      simp only [Option.some.injEq] at ho
      subst ho
      obtain ⟨k1, ⟨k2, k3⟩, k4⟩ := odo_some h.tail hr
      refine ⟨k1.cons ha, ⟨.inr ⟨rfl, k2⟩, fun e => k3 (by injection e)⟩, fun p hp ⟨h1, h2⟩ => ?_⟩
      cases p with
      | nil => trivial
      | cons b s =>
        rcases h1 with h1 | ⟨rfl, h1⟩
        · exact .inl h1
        · exact .inr ⟨rfl, k4 s hp.tail ⟨h1, fun e => h2 (by rw [e])⟩⟩
    | none =>
      rw [hr] at ho
      by_cases c : a < hi
      · simp only [c, if_true, Option.some.injEq] at ho
        subst ho
        have hl : r.length = n := by have := h.1; simpa using this
        rw [hl]
        refine ⟨VL.cons ⟨by simp, fun x hx => ?_⟩ (by omega), ⟨.inl (by omega), fun e => ?_⟩, fun p hp ⟨h1, h2⟩ => ?_⟩
        · rw [List.eq_of_mem_replicate hx]; omega
        · injection e with e1 e2; omega
        · cases p with
          | nil => trivial
          | cons b s =>
            rcases h1 with h1 | ⟨rfl, h1⟩
            · by_cases e : b = a
              · exact .inr ⟨e, odo_none h.tail hr s hp.tail⟩
              · exact .inl (by omega)
            · exact absurd (by rw [lexI_lows hp.tail h1]) h2
      · simp [c] at ho
/-- How many lists lie below, at least. -/
def rk (lo : Int) : List Int → Nat
  | [] => 0
  | a :: r => (a - lo).toNat * 4 ^ r.length + rk lo r
theorem rk_lt {lo hi : Int} (h3 : hi ≤ lo + 3) : ∀ {n : Nat} {l : List Int}, VL lo hi n l → rk lo l < 4 ^ n
  | 0, l, h => by rw [List.length_eq_zero_iff.1 h.1]; simp [rk]
  | n + 1, [], h => by have := h.1; simp at this
  | n + 1, a :: r, h => by
    have ha := h.2 a (by simp)
    have ih := rk_lt h3 h.tail
    have hl : r.length = n := by have := h.1; simpa using this
    rw [rk, hl, Nat.pow_succ]
    have h4 : (a - lo).toNat ≤ 3 := by omega
    have := Nat.mul_le_mul_right (4 ^ n) h4
    omega
theorem rk_odo {lo hi : Int} (h3 : hi ≤ lo + 3) : ∀ {n : Nat} {l l' : List Int}, VL lo hi n l → odo lo hi l = some l' → rk lo l < rk lo l'
  | 0, l, l', h, ho => by rw [List.length_eq_zero_iff.1 h.1] at ho; cases ho
  | n + 1, [], l', h, _ => by have := h.1; simp at this
  | n + 1, a :: r, l', h, ho => by
    have ha := h.2 a (by simp)
    have hl : r.length = n := by have := h.1; simpa using this
    rw [odo] at ho
    cases hr : odo lo hi r with
    | some r' =>
      rw [hr] at ho
      simp only [Option.some.injEq] at ho
      subst ho
      have ih := rk_odo h3 h.tail hr
      have h1 := (odo_some h.tail hr).1.1
      rw [rk, rk, hl, h1]
      omega
    | none =>
      rw [hr] at ho
      by_cases c : a < hi
      · simp only [c, if_true, Option.some.injEq] at ho
        subst ho
        have := rk_lt h3 h.tail
        rw [rk, rk, hl, List.length_replicate, show (a + 1 - lo).toNat = (a - lo).toNat + 1 by omega, Nat.add_mul, Nat.one_mul]
        omega
      · simp [c] at ho
/-- The lists from one on, in their order. -/
def seqO (lo hi : Int) : Nat → List Int → List (List Int)
  | 0, _ => []
  | f + 1, l => l :: match odo lo hi l with
    | none => []
    | some l' => seqO lo hi f l'
theorem seqO_all {lo hi : Int} (h3 : hi ≤ lo + 3) {n : Nat} : ∀ (f : Nat) {l : List Int}, VL lo hi n l → 4 ^ n ≤ rk lo l + f → ∀ p, VL lo hi n p → lexI l p → p ∈ seqO lo hi f l
  | 0, l, h, hf, p, _, _ => by have := rk_lt h3 h; omega
  | f + 1, l, h, hf, p, hp, hlp => by
    rw [seqO]
    by_cases e : p = l
    · rw [e]; simp
    · refine List.mem_cons_of_mem _ ?_
      cases ho : odo lo hi l with
      | none => exact absurd (lexI.antisymm (by rw [hp.1, h.1]) (odo_none h ho p hp) hlp) e
      | some l' =>
        obtain ⟨k1, k2, k3⟩ := odo_some h ho
        have hr := rk_odo h3 h ho
        refine seqO_all h3 f k1 (by omega) p hp ?_
        rcases lexI_total (a := l') (b := p) (by rw [k1.1, hp.1]) with t | t
        · exact t
        · by_cases e2 : p = l'
          · rw [e2]; exact lexI.refl _
          · exact absurd (lexI.antisymm (by rw [hp.1, h.1]) (k3 p hp ⟨t, e2⟩) hlp) e
theorem seqO_ge {lo hi : Int} {n : Nat} : ∀ (f : Nat) {l : List Int}, VL lo hi n l → ∀ p ∈ seqO lo hi f l, VL lo hi n p ∧ lexI l p
  | 0, _, _, p, hp => by simp [seqO] at hp
  | f + 1, l, h, p, hp => by
    rw [seqO] at hp
    rcases List.mem_cons.1 hp with rfl | hp
    · exact ⟨h, lexI.refl _⟩
    · cases ho : odo lo hi l with
      | none => rw [ho] at hp; simp at hp
      | some l' =>
        rw [ho] at hp
        obtain ⟨k1, k2, k3⟩ := odo_some h ho
        obtain ⟨m1, m2⟩ := seqO_ge f k1 p hp
        exact ⟨m1, lexI.trans k2.1 m2⟩
theorem seqO_lt {lo hi : Int} {n : Nat} : ∀ (f : Nat) {l : List Int} {pre rest : List (List Int)} {x : List Int}, VL lo hi n l → pre ++ x :: rest = seqO lo hi f l → ∀ p ∈ pre, slex p x
  | 0, _, pre, rest, x, _, he, p, hp => by simp [seqO] at he
  | f + 1, l, pre, rest, x, h, he, p, hp => by
    cases pre with
    | nil => simp at hp
    | cons y pre =>
      rw [seqO, List.cons_append] at he
      injection he with h1 h2
      subst h1
      cases ho : odo lo hi y with
      | none => rw [ho] at h2; simp at h2
      | some l' =>
        rw [ho] at h2
        dsimp only at h2
        obtain ⟨k1, k2, k3⟩ := odo_some h ho
        rcases List.mem_cons.1 hp with rfl | hp
        · obtain ⟨m1, m2⟩ := seqO_ge f k1 x (by rw [← h2]; simp)
          refine ⟨lexI.trans k2.1 m2, fun e => ?_⟩
          subst e
          exact k2.2 (lexI.antisymm (by rw [h.1, k1.1]) k2.1 m2)
        · exact seqO_lt f k1 h2 p hp
theorem odo_highs {lo hi : Int} {s : List Int} (h : ∀ x ∈ s, x = hi) : odo lo hi s = none := by
  induction s with
  | nil => rfl
  | cons a s ih =>
    rw [odo, ih (fun x hx => h x (by simp [hx])), h a (by simp)]
    simp
theorem odo_at {lo hi : Int} {pre s : List Int} {a : Int} (h : ∀ x ∈ s, x = hi) (ha : a < hi) : odo lo hi (pre ++ a :: s) = some (pre ++ (a + 1) :: List.replicate s.length lo) := by
  induction pre with
  | nil => rw [List.nil_append, odo, odo_highs h]; simp [ha]
  | cons b pre ih => rw [List.cons_append, odo, ih]; rfl
/-- The beginnings of a ring, in their order. -/
def Rg.begs (r : Rg) : List (List Int) := seqO r.low r.high 64 (List.replicate (r.S - 1) r.low)
theorem lows_VL {r : Rg} (hr : r.Ok) (n : Nat) : VL r.low r.high n (List.replicate n r.low) := ⟨by simp, fun x hx => by rw [List.eq_of_mem_replicate hx]; exact ⟨Int.le_refl _, hr.h1⟩⟩
theorem begs_all {r : Rg} (hr : r.Ok) {p : List Int} (hp : VL r.low r.high (r.S - 1) p) : p ∈ r.begs := by
  refine seqO_all hr.h2 64 (lows_VL hr _) ?_ p hp (lows_lexI hp)
  have := (4 : Nat).pow_le_pow_right (by omega) (show r.S - 1 ≤ 3 by have := hr.s2; omega)
  omega
theorem begs_lt {r : Rg} (hr : r.Ok) {pre rest : List (List Int)} {x : List Int} (h : pre ++ x :: rest = r.begs) : VL r.low r.high (r.S - 1) x ∧ ∀ p ∈ pre, lexI p x ∧ p ≠ x :=
  ⟨(seqO_ge 64 (lows_VL hr _) x (by rw [show seqO _ _ _ _ = r.begs from rfl, ← h]; simp)).1, seqO_lt 64 (lows_VL hr _) h⟩
end Go.Proofs.YtojbldoekalbnaaGreat
