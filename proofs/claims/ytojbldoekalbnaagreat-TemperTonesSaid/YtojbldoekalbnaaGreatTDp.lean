/-
  Plain mathematics of a search by layers: the least price of all ways on, and the lexicographically least way of that price. No program in sight.
-/
namespace Go.Proofs.YtojbldoekalbnaaGreat

/-- Lexicographically at most. -/
def lexI : List Int → List Int → Prop
  | [], _ => True
  | _ :: _, [] => False
  | a :: r, b :: s => a < b ∨ (a = b ∧ lexI r s)
theorem lexI.refl : ∀ l : List Int, lexI l l
  | [] => trivial
  | _ :: r => .inr ⟨rfl, lexI.refl r⟩
theorem lexI.trans : ∀ {a b c : List Int}, lexI a b → lexI b c → lexI a c
  | [], _, _, _, _ => trivial
  | _ :: _, [], _, h, _ => False.elim h
  | _ :: _, _ :: _, [], _, h => False.elim h
  | x :: a, y :: b, z :: c, h, k => by
    rcases h with h | ⟨rfl, h⟩
    · rcases k with k | ⟨rfl, _⟩
      · exact .inl (by omega)
      · exact .inl h
    · rcases k with k | ⟨rfl, k⟩
      · exact .inl k
      · exact .inr ⟨rfl, lexI.trans h k⟩
theorem lexI.antisymm : ∀ {a b : List Int}, a.length = b.length → lexI a b → lexI b a → a = b
  | [], [], _, _, _ => rfl
  | [], _ :: _, h, _, _ => by simp at h
  | _ :: _, [], h, _, _ => by simp at h
  | x :: a, y :: b, hl, h, k => by
    rcases h with h | ⟨rfl, h⟩
    · rcases k with k | ⟨rfl, _⟩ <;> omega
    · rcases k with k | ⟨_, k⟩
      · omega
      · rw [lexI.antisymm (by simpa using hl) h k]
theorem lexI.append {a b : List Int} (p : List Int) (h : lexI a b) : lexI (p ++ a) (p ++ b) := by
  induction p with
  | nil => exact h
  | cons x p ih => exact .inr ⟨rfl, ih⟩
/-- The layers: what a step makes of a state, and its price; where a way may end; the range of the steps. -/
structure Lay (σ : Type) where
  tr : Nat → σ → Int → Option (σ × Int)
  fin : σ → Bool
  lo : Nat → Int
  hi : Nat → Int
section
variable {σ : Type} (Y : Lay σ)
/-- What a way costs; none: it may not be gone. -/
def Lay.run (Y : Lay σ) : Nat → σ → List Int → Option Int
  | _, s, [] => if Y.fin s = true then some 0 else none
  | t, s, a :: r => match Y.tr t s a with
    | none => none
    | some (s', p) => match Y.run (t + 1) s' r with
      | none => none
      | some c => some (p + c)
def Lay.adm (Y : Lay σ) : Nat → List Int → Prop
  | _, [] => True
  | t, a :: r => (Y.lo t ≤ a ∧ a ≤ Y.hi t) ∧ Y.adm (t + 1) r
/-- The steps of a range, from the least one on: so many at most. -/
def Lay.pick (Y : Lay σ) (val : σ → Int) (t : Nat) (s : σ) : Nat → Int → Int × Int → Int × Int
  | 0, _, b => b
  | n + 1, a, b => Y.pick val t s n (a + 1) (match Y.tr t s a with
    | none => b
    | some (s', p) => if 0 ≤ val s' ∧ (b.1 < 0 ∨ p + val s' < b.1) then (p + val s', a) else b)
def Lay.cnt (Y : Lay σ) (t : Nat) : Nat := (Y.hi t - Y.lo t + 1).toNat
/-- The least price of all that is behind, for so many layers; -1: nothing. -/
def Lay.val (Y : Lay σ) : Nat → Nat → σ → Int
  | 0, _, s => if Y.fin s = true then 0 else -1
  | n + 1, t, s => (Y.pick (Y.val n (t + 1)) t s (Y.cnt t) (Y.lo t) (-1, 0)).1
def Lay.best (Y : Lay σ) (n t : Nat) (s : σ) : Int × Int := Y.pick (Y.val n (t + 1)) t s (Y.cnt t) (Y.lo t) (-1, 0)
/-- The way that takes the best step each time. -/
def Lay.follow (Y : Lay σ) : Nat → Nat → σ → List Int
  | 0, _, _ => []
  | n + 1, t, s => (Y.best n t s).2 :: match Y.tr t s (Y.best n t s).2 with
    | none => []
    | some (s', _) => Y.follow n (t + 1) s'
/-- No price is below 0. -/
def Lay.Pos (Y : Lay σ) : Prop := ∀ t s a s' p, Y.tr t s a = some (s', p) → 0 ≤ p
/-- What pick has found among the steps from lo to below a. -/
def PickOk (Y : Lay σ) (val : σ → Int) (t : Nat) (s : σ) (lo a : Int) (b : Int × Int) : Prop :=
  (b.1 = -1 ∧ ∀ x s' p, lo ≤ x → x < a → Y.tr t s x = some (s', p) → val s' < 0) ∨
  (0 ≤ b.1 ∧ ∃ s' p, lo ≤ b.2 ∧ b.2 < a ∧ Y.tr t s b.2 = some (s', p) ∧ 0 ≤ val s' ∧ b.1 = p + val s' ∧ ∀ x s2 q, lo ≤ x → x < a → Y.tr t s x = some (s2, q) → 0 ≤ val s2 → b.1 < q + val s2 ∨ (b.1 = q + val s2 ∧ b.2 ≤ x))
variable {Y}
theorem pick_ok (hp : Y.Pos) {val : σ → Int} {t : Nat} {s : σ} {lo : Int} : ∀ (n : Nat) (a : Int) (b : Int × Int), lo ≤ a → PickOk Y val t s lo a b → PickOk Y val t s lo (a + n) (Y.pick val t s n a b)
  | 0, a, b, _, h => by simpa [Lay.pick] using h
  | n + 1, a, b, ha, h => by
    rw [Lay.pick, show a + ((n + 1 : Nat) : Int) = (a + 1) + (n : Int) by omega]
    refine pick_ok hp n (a + 1) _ (by omega) ?_
    cases htr : Y.tr t s a with
    | none =>
      show PickOk Y val t s lo (a + 1) b
      rcases h with ⟨h1, h2⟩ | ⟨h1, s', p, h2, h3, h4, h5, h6, h7⟩
      · refine .inl ⟨h1, fun x s' p hx1 hx2 hx => ?_⟩
        by_cases e : x = a
        · subst e; rw [htr] at hx; cases hx
        · exact h2 x s' p hx1 (by omega) hx
      · refine .inr ⟨h1, s', p, h2, by omega, h4, h5, h6, fun x s2 q hx1 hx2 hx hv => ?_⟩
        by_cases e : x = a
        · subst e; rw [htr] at hx; cases hx
        · exact h7 x s2 q hx1 (by omega) hx hv
    | some z =>
      obtain ⟨s1, p1⟩ := z
      have hp1 := hp t s a s1 p1 htr
      show PickOk Y val t s lo (a + 1) (if 0 ≤ val s1 ∧ (b.1 < 0 ∨ p1 + val s1 < b.1) then (p1 + val s1, a) else b)
      by_cases c : 0 ≤ val s1 ∧ (b.1 < 0 ∨ p1 + val s1 < b.1)
      · rw [if_pos c]
        refine .inr ⟨by show 0 ≤ p1 + val s1; omega, s1, p1, ha, by show a < a + 1; omega, htr, c.1, rfl, fun x s2 q hx1 hx2 hx hv => ?_⟩
        show p1 + val s1 < q + val s2 ∨ (p1 + val s1 = q + val s2 ∧ a ≤ x)
        by_cases e : x = a
        · subst e
          rw [htr] at hx
          simp only [Option.some.injEq, Prod.mk.injEq] at hx
          obtain ⟨rfl, rfl⟩ := hx
          exact .inr ⟨rfl, Int.le_refl _⟩
        · rcases h with ⟨_, h2⟩ | ⟨h1, s', p, _, _, _, _, _, h7⟩
          · have := h2 x s2 q hx1 (by omega) hx; omega
          · have := h7 x s2 q hx1 (by omega) hx hv
            rcases c.2 with c2 | c2 <;> omega
      · rw [if_neg c]
        rcases h with ⟨h1, h2⟩ | ⟨h1, s', p, h2, h3, h4, h5, h6, h7⟩
        · refine .inl ⟨h1, fun x s2 q hx1 hx2 hx => ?_⟩
          by_cases e : x = a
          · subst e
            rw [htr] at hx
            simp only [Option.some.injEq, Prod.mk.injEq] at hx
            obtain ⟨rfl, rfl⟩ := hx
            by_cases h0 : 0 ≤ val s1
            · exact absurd ⟨h0, .inl (by omega)⟩ c
            · omega
          · exact h2 x s2 q hx1 (by omega) hx
        · refine .inr ⟨h1, s', p, h2, by omega, h4, h5, h6, fun x s2 q hx1 hx2 hx hv => ?_⟩
          by_cases e : x = a
          · subst e
            rw [htr] at hx
            simp only [Option.some.injEq, Prod.mk.injEq] at hx
            obtain ⟨rfl, rfl⟩ := hx
            by_cases h8 : p1 + val s1 < b.1
            · exact absurd ⟨hv, .inr h8⟩ c
            · by_cases h9 : b.1 = p1 + val s1
              · exact .inr ⟨h9, by omega⟩
              · exact .inl (by omega)
          · exact h7 x s2 q hx1 (by omega) hx hv
/-- What val and follow are: the least price, and the lexicographically least way of it. -/
def ValOk (Y : Lay σ) (n t : Nat) (s : σ) : Prop :=
  (Y.val n t s = -1 ∧ ∀ l c, l.length = n → Y.adm t l → Y.run t s l = some c → False) ∨
  (0 ≤ Y.val n t s ∧ (Y.follow n t s).length = n ∧ Y.adm t (Y.follow n t s) ∧ Y.run t s (Y.follow n t s) = some (Y.val n t s) ∧
    ∀ l c, l.length = n → Y.adm t l → Y.run t s l = some c → Y.val n t s < c ∨ (Y.val n t s = c ∧ lexI (Y.follow n t s) l))
theorem val_ok (hp : Y.Pos) : ∀ (n t : Nat) (s : σ), ValOk Y n t s
  | 0, t, s => by
    unfold ValOk
    by_cases h : Y.fin s = true
    · refine .inr ⟨by simp [Lay.val, h], rfl, trivial, by simp [Lay.follow, Lay.run, Lay.val, h], fun l c hl _ hr => .inr ?_⟩
      obtain rfl : l = [] := List.length_eq_zero_iff.1 hl
      simp [Lay.run, h] at hr
      exact ⟨by simp [Lay.val, h, ← hr], trivial⟩
    · refine .inl ⟨by simp [Lay.val, h], fun l c hl _ hr => ?_⟩
      obtain rfl : l = [] := List.length_eq_zero_iff.1 hl
      simp [Lay.run, h] at hr
  | n + 1, t, s => by
    have hpk := pick_ok (Y := Y) hp (val := Y.val n (t + 1)) (t := t) (s := s) (lo := Y.lo t) (Y.cnt t) (Y.lo t) (-1, 0) (Int.le_refl _) (.inl ⟨rfl, fun x s' p h1 h2 _ => by omega⟩)
    have hv : Y.val (n + 1) t s = (Y.best n t s).1 := rfl
    have hbd : ∀ x, Y.lo t ≤ x → (x ≤ Y.hi t ↔ x < Y.lo t + (Y.cnt t : Int)) := fun x hx => by unfold Lay.cnt; omega
    rw [show Y.pick (Y.val n (t + 1)) t s (Y.cnt t) (Y.lo t) (-1, 0) = Y.best n t s from rfl] at hpk
    unfold ValOk
    rcases hpk with ⟨h1, h2⟩ | ⟨h1, s', p, h2, h3, h4, h5, h6, h7⟩
    · refine .inl ⟨by rw [hv, h1], fun l c hl ha hr => ?_⟩
      cases l with
      | nil => simp at hl
      | cons a r =>
        obtain ⟨⟨ha1, ha2⟩, ha3⟩ := ha
        rw [Lay.run] at hr
        cases htr : Y.tr t s a with
        | none => rw [htr] at hr; cases hr
        | some z =>
          obtain ⟨s2, q⟩ := z
          rw [htr] at hr
          dsimp only at hr
          cases hru : Y.run (t + 1) s2 r with
          | none => rw [hru] at hr; cases hr
          | some d =>
            have hneg := h2 a s2 q ha1 ((hbd a ha1).1 ha2) htr
            rcases val_ok hp n (t + 1) s2 with ⟨_, k2⟩ | ⟨k1, _⟩
            · exact k2 r d (by simpa using hl) ha3 hru
            · omega
    · have hfo : Y.follow (n + 1) t s = (Y.best n t s).2 :: Y.follow n (t + 1) s' := by
        rw [Lay.follow, h4]
      rcases val_ok hp n (t + 1) s' with ⟨k1, _⟩ | ⟨k1, k2, k3, k4, k5⟩
      · omega
      · refine .inr ⟨by rw [hv]; exact h1, by rw [hfo]; simp [k2], by rw [hfo]; exact ⟨⟨h2, (hbd _ h2).2 h3⟩, k3⟩, ?_, fun l c hl ha hr => ?_⟩
        · rw [hfo, Lay.run, h4]
          dsimp only
          rw [k4, hv, h6]
        · cases l with
          | nil => simp at hl
          | cons a r =>
            obtain ⟨⟨ha1, ha2⟩, ha3⟩ := ha
            rw [Lay.run] at hr
            cases htr : Y.tr t s a with
            | none => rw [htr] at hr; cases hr
            | some z =>
              obtain ⟨s2, q⟩ := z
              rw [htr] at hr
              dsimp only at hr
              cases hru : Y.run (t + 1) s2 r with
              | none => rw [hru] at hr; cases hr
              | some d =>
                rw [hru] at hr
                simp only [Option.some.injEq] at hr
                rw [hv, hfo]
                rcases val_ok hp n (t + 1) s2 with ⟨_, m2⟩ | ⟨m1, m2, m3, m4, m5⟩
                · exact absurd (m2 r d (by simpa using hl) ha3 hru) id
                · have h8 := h7 a s2 q ha1 ((hbd a ha1).1 ha2) htr m1
                  have h9 := m5 r d (by simpa using hl) ha3 hru
                  rcases h8 with h8 | ⟨h8, h10⟩
                  · left
                    rcases h9 with h9 | ⟨h9, _⟩ <;> omega
                  · rcases h9 with h9 | ⟨h9, h11⟩
                    · left; omega
                    · right
                      refine ⟨by omega, ?_⟩
                      by_cases e : (Y.best n t s).2 = a
                      · subst e
                        rw [h4] at htr
                        simp only [Option.some.injEq, Prod.mk.injEq] at htr
                        obtain ⟨rfl, rfl⟩ := htr
                        exact .inr ⟨rfl, h11⟩
                      · exact .inl (by omega)
end
end Go.Proofs.YtojbldoekalbnaaGreat
