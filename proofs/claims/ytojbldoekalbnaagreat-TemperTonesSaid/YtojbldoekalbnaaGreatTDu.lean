import Derived.Test.YtojbldoekalbnaaGreatTDt
/-
  Plain mathematics of a ring: the cheapest steps over all beginnings in their order; they are the only ones. No program in sight.
-/
namespace Go.Proofs.YtojbldoekalbnaaGreat
def Rg.stepB (r : Rg) (acc : List Int × Int) (first : List Int) : List Int × Int :=
  if 0 ≤ r.valB first ∧ (acc.2 < 0 ∨ r.costB first + r.valB first < acc.2) then (r.wayB first, r.costB first + r.valB first) else acc
/-- The cheapest of all good steps whose beginnings are among some, of several the least. -/
def Rg.Amid (r : Rg) (ps : List Int → Prop) (acc : List Int × Int) : Prop :=
  (acc = ([], -1) ∧ ∀ st, r.Good st → ps (st.take (r.S - 1)) → False) ∨
  (0 ≤ acc.2 ∧ r.Good acc.1 ∧ ps (acc.1.take (r.S - 1)) ∧ r.cost acc.1 = acc.2 ∧ ∀ st, r.Good st → ps (st.take (r.S - 1)) → acc.2 < r.cost st ∨ (acc.2 = r.cost st ∧ lexI acc.1 st))
theorem lexI_of_take : ∀ {a b : List Int} (n : Nat), a.length = b.length → lexI (a.take n) (b.take n) → a.take n ≠ b.take n → lexI a b
  | _, _, 0, _, _, h => absurd (by simp) h
  | [], _, n + 1, _, _, _ => trivial
  | _ :: _, [], n + 1, h, _, _ => by simp at h
  | x :: a, y :: b, n + 1, hl, h, hn => by
    rcases h with h | ⟨rfl, h⟩
    · exact .inl h
    · exact .inr ⟨rfl, lexI_of_take n (by simpa using hl) h (fun e => hn (by simp [e]))⟩
theorem costB_pos {r : Rg} (hr : r.Ok) (first : List Int) : 0 ≤ r.costB first := by
  have key : ∀ (n t : Nat), 0 ≤ totF (fun i => r.fi.getD i 0 * first.getD i 0 * first.getD i 0) t n := by
    intro n
    induction n with
    | zero => intro t; exact Int.le_refl _
    | succ n ih => intro t; exact Int.add_nonneg (sq_pos _ (wt_pos _ hr.fw)) (ih (t + 1))
  exact key _ _
theorem stepB_ok {r : Rg} (hr : r.Ok) {ps : List Int → Prop} {acc : List Int × Int} {first : List Int} (h : r.Amid ps acc)
    (hf : first.length = r.S - 1) (hg : ∀ x ∈ first, r.low ≤ x ∧ x ≤ r.high) (hlt : ∀ p, ps p → lexI p first ∧ p ≠ first) :
    r.Amid (fun p => ps p ∨ p = first) (r.stepB acc first) := by
  have hc := costB_pos hr first
  have hb := begin_ok hr hf hg
  unfold Rg.stepB
  by_cases c : 0 ≤ r.valB first ∧ (acc.2 < 0 ∨ r.costB first + r.valB first < acc.2)
  · rw [if_pos c]
    rcases hb with ⟨b1, _⟩ | ⟨b1, b2, b3, b4, b5⟩
    · omega
    · refine .inr ⟨by show 0 ≤ r.costB first + r.valB first; omega, b2, .inr b3, b4, fun st hst hp => ?_⟩
      show r.costB first + r.valB first < r.cost st ∨ (r.costB first + r.valB first = r.cost st ∧ lexI (r.wayB first) st)
      rw [← b4]
      rcases hp with hp | hp
      · rcases h with ⟨_, h2⟩ | ⟨h1, _, _, _, h5⟩
        · exact absurd (h2 st hst hp) id
        · have := h5 st hst hp
          left
          rcases c.2 with c2 | c2
          · omega
          · rcases this with t | ⟨t, _⟩ <;> omega
      · exact b5 st hst hp
  · rw [if_neg c]
    rcases h with ⟨h1, h2⟩ | ⟨h1, h2, h3, h4, h5⟩
    · refine .inl ⟨h1, fun st hst hp => ?_⟩
      rcases hp with hp | hp
      · exact h2 st hst hp
      · rcases hb with ⟨_, b2⟩ | ⟨b1, _⟩
        · exact b2 st hst hp
        · exact c ⟨b1, .inl (by rw [h1]; decide)⟩
    · refine .inr ⟨h1, h2, .inl h3, h4, fun st hst hp => ?_⟩
      rcases hp with hp | hp
      · exact h5 st hst hp
      · rcases hb with ⟨_, b2⟩ | ⟨b1, b2, b3, b4, b5⟩
        · exact absurd (b2 st hst hp) id
        · have hle : acc.2 ≤ r.costB first + r.valB first := by
            by_cases d : r.costB first + r.valB first < acc.2
            · exact absurd ⟨b1, .inr d⟩ c
            · omega
          have hlx : lexI acc.1 st := by
            obtain ⟨l1, l2⟩ := hlt _ h3
            exact lexI_of_take (r.S - 1) (by rw [h2.len, hst.len]) (by rw [hp]; exact l1) (by rw [hp]; exact l2)
          by_cases e : acc.2 = r.cost st
          · exact .inr ⟨e, hlx⟩
          · left
            rcases b5 st hst hp with t | ⟨t, _⟩ <;> omega
/-- The cheapest steps of all, of several the least: there are no other ones. -/
structure Rg.Best (r : Rg) (st : List Int) (c : Int) : Prop where
  good : r.Good st
  cost : r.cost st = c
  least : ∀ q, r.Good q → c < r.cost q ∨ (c = r.cost q ∧ lexI st q)
theorem Rg.Best.uniq {r : Rg} {a b : List Int} {c d : Int} (h : r.Best a c) (k : r.Best b d) : a = b ∧ c = d := by
  have h1 := h.least b k.good
  have k1 := k.least a h.good
  rw [k.cost] at h1
  rw [h.cost] at k1
  rcases h1 with h1 | ⟨h1, h2⟩
  · rcases k1 with k1 | ⟨k1, _⟩ <;> omega
  · rcases k1 with k1 | ⟨_, k2⟩
    · omega
    · exact ⟨lexI.antisymm (by rw [h.good.len, k.good.len]) h2 k2, h1⟩
theorem amid_best {r : Rg} {ps : List Int → Prop} {acc : List Int × Int} (h : r.Amid ps acc) (hall : ∀ st, r.Good st → ps (st.take (r.S - 1))) :
    (acc = ([], -1) ∧ ∀ st, ¬ r.Good st) ∨ (0 ≤ acc.2 ∧ r.Best acc.1 acc.2) := by
  rcases h with ⟨h1, h2⟩ | ⟨h1, h2, _, h4, h5⟩
  · exact .inl ⟨h1, fun st hst => h2 st hst (hall st hst)⟩
  · exact .inr ⟨h1, h2, h4, fun q hq => h5 q hq (hall q hq)⟩
end Go.Proofs.YtojbldoekalbnaaGreat
