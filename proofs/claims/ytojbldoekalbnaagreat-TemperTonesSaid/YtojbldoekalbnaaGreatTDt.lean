import Derived.Test.YtojbldoekalbnaaGreatTDs
/-
  Plain mathematics of a ring: the cheapest steps that begin in some way, and the cheapest ones of all. No program in sight.
-/
namespace Go.Proofs.YtojbldoekalbnaaGreat
/-- The code and the sum of a beginning. -/
def Rg.code0 (r : Rg) (first : List Int) : Nat := first.foldl (fun c s => c * 4 + (s - r.low).toNat) 0
def Rg.sum0 (r : Rg) (first : List Int) : Nat := first.foldl (fun c s => c + (s - r.low).toNat) 0
theorem code0_eq {r : Rg} (hr : r.Ok) {st : List Int} (hl : st.length = r.N) :
    r.code0 (st.take (r.S - 1)) = r.codeF (roundF r st) (r.S - 1) (r.S - 1) ∧ r.sum0 (st.take (r.S - 1)) = r.sumF (roundF r st) (r.S - 1) := by
  have h1 := hr.s1
  have h2 := hr.s2
  have h3 := hr.n1
  have h4 := hr.s3
  obtain ⟨a, b, c, m, rfl⟩ : ∃ a b c m, st = a :: b :: c :: m := by
    rcases st with _ | ⟨a, _ | ⟨b, _ | ⟨c, m⟩⟩⟩
    · simp at hl; omega
    · simp at hl; omega
    · simp at hl; omega
    · exact ⟨a, b, c, m, rfl⟩
  have r0 : roundF r (a :: b :: c :: m) 0 = a := by simp [roundF]
  have r1 : roundF r (a :: b :: c :: m) 1 = b := by simp [roundF, Nat.mod_eq_of_lt (show 1 < r.N by omega)]
  have r2 : roundF r (a :: b :: c :: m) 2 = c := by simp [roundF, Nat.mod_eq_of_lt (show 2 < r.N by omega)]
  obtain e | e | e : r.S = 2 ∨ r.S = 3 ∨ r.S = 4 := by omega
  all_goals
    simp only [e, Rg.code0, Rg.sum0, Rg.codeF, Rg.sumF, Nat.reduceSub, List.take, List.foldl, r0, r1, r2, show 0 < r.N by omega, show 1 < r.N by omega, show 2 < r.N by omega, if_true, Nat.reducePow, Nat.zero_mul, Nat.zero_add, Nat.mul_one, Nat.pow_zero]
    refine ⟨?_, trivial⟩
    first | trivial | omega
/-- What the search behind a beginning finds. -/
def Rg.valB (r : Rg) (first : List Int) : Int := (r.lay first).val r.N (r.S - 1) (r.code0 first, r.sum0 first)
def Rg.wayB (r : Rg) (first : List Int) : List Int := first ++ ((r.lay first).follow r.N (r.S - 1) (r.code0 first, r.sum0 first)).take (r.N - (r.S - 1))
def Rg.costB (r : Rg) (first : List Int) : Int := totF (fun i => r.fi.getD i 0 * first.getD i 0 * first.getD i 0) 0 (r.S - 1)
theorem adm_rest {r : Rg} {first : List Int} : ∀ (l : List Int) (t : Nat), (r.lay first).adm t l → ∀ i, i < l.length → (r.lay first).lo (t + i) ≤ l.getD i 0 ∧ l.getD i 0 ≤ (r.lay first).hi (t + i)
  | [], _, _, i, h => by simp at h
  | a :: l, t, h, 0, _ => by simpa using h.1
  | a :: l, t, h, i + 1, hi => by
    have := adm_rest l (t + 1) h.2 i (by simpa using hi)
    rw [show t + 1 + i = t + (i + 1) by omega] at this
    simpa using this
/-- A way that is admitted behind a beginning is the tail of steps that begin so. -/
theorem tail_of {r : Rg} (hr : r.Ok) {first l : List Int} (hf : first.length = r.S - 1) (hg : ∀ x ∈ first, r.low ≤ x ∧ x ≤ r.high)
    (hl : l.length = r.N) (ha : (r.lay first).adm (r.S - 1) l) :
    (first ++ l.take (r.N - (r.S - 1))).length = r.N ∧ (∀ x ∈ first ++ l.take (r.N - (r.S - 1)), r.low ≤ x ∧ x ≤ r.high) ∧
    (first ++ l.take (r.N - (r.S - 1))).take (r.S - 1) = first ∧ r.tail (first ++ l.take (r.N - (r.S - 1))) = l := by
  have h1 := hr.s1
  have h3 := hr.s3
  have hrest := adm_rest l (r.S - 1) ha
  have hlen : (first ++ l.take (r.N - (r.S - 1))).length = r.N := by simp [hf, hl]; omega
  refine ⟨hlen, ?_, by rw [List.take_append_of_le_length (by omega), ← hf, List.take_length], ?_⟩
  · intro x hx
    rcases List.mem_append.1 hx with hx | hx
    · exact hg x hx
    · obtain ⟨i, hi, rfl⟩ := List.getElem_of_mem hx
      simp only [List.length_take, hl] at hi
      have := hrest i (by omega)
      simp only [Rg.lay] at this
      rw [if_pos (by omega), if_pos (by omega), List.getD_eq_getElem?_getD, List.getElem?_eq_getElem (by omega)] at this
      simpa using this
  · refine List.ext_getElem? (fun i => ?_)
    by_cases hi : i < r.N
    · rw [Rg.tail, listF_get _ _ _ _ hi]
      by_cases c : i < r.N - (r.S - 1)
      · unfold roundF
        rw [Nat.mod_eq_of_lt (by omega), List.getD_eq_getElem?_getD, List.getElem?_append_right (by omega), hf, Nat.add_sub_cancel_left, List.getElem?_take_of_lt c,
          List.getElem?_eq_getElem (show i < l.length by omega)]
        rfl
      · have := hrest i (by omega)
        simp only [Rg.lay] at this
        rw [if_neg (by omega), if_neg (by omega)] at this
        have e : l.getD i 0 = first.getD (r.S - 1 + i - r.N) 0 := by omega
        unfold roundF
        rw [Nat.mod_eq_sub_mod (by omega), Nat.mod_eq_of_lt (by omega), List.getD_eq_getElem?_getD, List.getElem?_append_left (by omega), ← List.getD_eq_getElem?_getD, ← e,
          List.getD_eq_getElem?_getD, List.getElem?_eq_getElem (show i < l.length by omega)]
        rfl
    · rw [List.getElem?_eq_none (by rw [Rg.tail, listF_len]; omega), List.getElem?_eq_none (by omega)]
theorem costB_eq {r : Rg} {st : List Int} : r.costB (st.take (r.S - 1)) = r.beginC st := by
  refine totF_congr (fun i _ hi => ?_)
  have e : (st.take (r.S - 1)).getD i 0 = st.getD i 0 := by
    rw [List.getD_eq_getElem?_getD, List.getElem?_take_of_lt (by omega), List.getD_eq_getElem?_getD]
  rw [e]
theorem lexI_take : ∀ {a b : List Int} (n : Nat), lexI a b → lexI (a.take n) (b.take n)
  | _, _, 0, _ => by simp [lexI]
  | [], _, n + 1, _ => by simp [lexI]
  | _ :: _, [], n + 1, h => False.elim h
  | x :: a, y :: b, n + 1, h => by
    rcases h with h | ⟨rfl, h⟩
    · exact .inl h
    · exact .inr ⟨rfl, lexI_take n h⟩
/-- Steps are their beginning and what their tail begins with. -/
theorem st_tail {r : Rg} (hr : r.Ok) {st : List Int} (hl : st.length = r.N) : st = st.take (r.S - 1) ++ (r.tail st).take (r.N - (r.S - 1)) := by
  have h1 := hr.s1
  have h3 := hr.s3
  refine List.ext_getElem? (fun i => ?_)
  by_cases c : i < r.S - 1
  · rw [List.getElem?_append_left (by simp; omega), List.getElem?_take_of_lt c]
  · rw [List.getElem?_append_right (by simp; omega), List.length_take, Nat.min_eq_left (by omega)]
    by_cases d : i < r.N
    · rw [List.getElem?_take_of_lt (by omega), Rg.tail, listF_get _ _ _ _ (by omega), List.getElem?_eq_getElem (by omega)]
      unfold roundF
      rw [show r.S - 1 + (i - (r.S - 1)) = i by omega, Nat.mod_eq_of_lt d, List.getD_eq_getElem?_getD, List.getElem?_eq_getElem (by omega)]
      rfl
    · rw [List.getElem?_eq_none (by omega), List.getElem?_eq_none (by simp; omega)]
/-- What the search behind a beginning finds: nothing, or the cheapest steps that begin so, of several the least. -/
theorem begin_ok {r : Rg} (hr : r.Ok) {first : List Int} (hf : first.length = r.S - 1) (hg : ∀ x ∈ first, r.low ≤ x ∧ x ≤ r.high) :
    (r.valB first = -1 ∧ ∀ st, r.Good st → st.take (r.S - 1) = first → False) ∨
    (0 ≤ r.valB first ∧ r.Good (r.wayB first) ∧ (r.wayB first).take (r.S - 1) = first ∧ r.cost (r.wayB first) = r.costB first + r.valB first ∧
      ∀ st, r.Good st → st.take (r.S - 1) = first → r.cost (r.wayB first) < r.cost st ∨ (r.cost (r.wayB first) = r.cost st ∧ lexI (r.wayB first) st)) := by
  have run_of : ∀ st, r.Good st → st.take (r.S - 1) = first → (r.tail st).length = r.N ∧ (r.lay first).adm (r.S - 1) (r.tail st) ∧
      (r.lay first).run (r.S - 1) (r.code0 first, r.sum0 first) (r.tail st) = some (r.cost st - r.costB first) := by
    rintro st hst rfl
    obtain ⟨e1, e2⟩ := code0_eq hr hst.len
    refine ⟨listF_len _ _ _, adm_tail hr hst.len hst.rng, ?_⟩
    rw [e1, e2]
    exact (run_good hr hst.len hst.rng _ _).2 ⟨hst, by rw [costB_eq]; omega⟩
  rcases val_ok (lay_pos hr first) r.N (r.S - 1) (r.code0 first, r.sum0 first) with ⟨h1, h2⟩ | ⟨h1, h2, h3, h4, h5⟩
  · refine .inl ⟨h1, fun st hst he => ?_⟩
    obtain ⟨k1, k2, k3⟩ := run_of st hst he
    exact h2 _ _ k1 k2 k3
  · obtain ⟨t1, t2, t3, t4⟩ := tail_of hr hf hg h2 h3
    have hw : r.Good (r.wayB first) ∧ r.beginC (r.wayB first) + r.valB first = r.cost (r.wayB first) := by
      refine (run_good hr t1 t2 first (r.valB first)).1 ?_
      obtain ⟨e1, e2⟩ := code0_eq hr t1
      rw [t3] at e1 e2
      rw [← e1, ← e2, t4]
      exact h4
    have hb : r.costB first = r.beginC (r.wayB first) := by
      rw [← costB_eq]; exact congrArg r.costB t3.symm
    refine .inr ⟨h1, hw.1, t3, by rw [hb]; exact hw.2.symm, fun st hst he => ?_⟩
    obtain ⟨k1, k2, k3⟩ := run_of st hst he
    have hval : (r.lay first).val r.N (r.S - 1) (r.code0 first, r.sum0 first) = r.valB first := rfl
    rcases h5 _ _ k1 k2 k3 with h6 | ⟨h6, h7⟩
    · rw [hval] at h6
      exact .inl (by omega)
    · rw [hval] at h6
      refine .inr ⟨by omega, ?_⟩
      rw [st_tail hr hst.len, he]
      exact lexI.append first (lexI_take _ h7)
end Go.Proofs.YtojbldoekalbnaaGreat
