/-
  Plain mathematics: Hall's theorem and König's, by the search's cover. No program in sight.
-/
import Derived.Test.YtjdhcdoekfikpaaMCert
namespace Go.Proofs.Ytjdhcdoekfikpaa

/-- The columns that at least one of some rows may have. -/
def nearC (g : Nat → Nat → Bool) (m : Nat) (S : List Nat) : List Nat := (List.range m).filter fun k => S.any fun r => g r k
def near (g : Nat → Nat → Bool) (m : Nat) (S : List Nat) : Nat := (nearC g m S).length
theorem mem_nearC {g : Nat → Nat → Bool} {m k : Nat} {S : List Nat} : k ∈ nearC g m S ↔ k < m ∧ ∃ r ∈ S, g r k = true := by simp [nearC]
theorem nodup_nearC (g : Nat → Nat → Bool) (m : Nat) (S : List Nat) : (nearC g m S).Nodup := (nodup_range m).filter _
theorem mat_near {g : Nat → Nat → Bool} {m : Nat} {S T : List Nat} {f : Nat → Nat} (hT : T.Nodup) (hs : ∀ r ∈ T, r ∈ S) (hf : Mat g m T f) : T.length ≤ near g m S :=
  map_le (f := f) hT (fun x hx y hy e => (hf y hy).2.2 x hx e) (fun r hr => mem_nearC.2 ⟨(hf r hr).1, r, hs r hr, (hf r hr).2.1⟩)
theorem filter_split {α : Type} (p : α → Bool) (l : List α) : (l.filter p).length + (l.filter fun x => !p x).length = l.length := by
  induction l with
  | nil => rfl
  | cons a r ih =>
    rw [List.filter_cons, List.filter_cons]
    cases p a <;> simp <;> omega
theorem erase_nodup {S : List Nat} (h : S.Nodup) (r : Nat) : (S.erase r).Nodup := h.erase r
theorem mem_erase {S : List Nat} (h : S.Nodup) {r x : Nat} : x ∈ S.erase r ↔ x ≠ r ∧ x ∈ S := h.mem_erase_iff
/-- A set of rows that has no matching while each set with a row less has one: it has one column too few. -/
theorem hall_near (g : Nat → Nat → Bool) (m : Nat) (S : List Nat) (hS : S.Nodup) (hlt : kuhn g m S < S.length) (hone : ∀ r ∈ S, ∃ f, Mat g m (S.erase r) f) : near g m S + 1 = S.length := by
  classical
  obtain ⟨of, C, hc⟩ := kuhn_cert g m S hS
  have hhl := hc.hadR_len hS
  have hx : ∃ r ∈ S, ¬ 0 < cn r of := Classical.byContradiction fun hno => by
    have hall : ∀ r ∈ S, 0 < cn r of := fun r hr => Classical.byContradiction fun h => hno ⟨r, hr, h⟩
    have : S.length ≤ (hadR S of).length := length_le_of_nodup S _ hS fun r hr => mem_hadR.2 ⟨hr, hall r hr⟩
    omega
  obtain ⟨r0, hr0, hn0⟩ := hx
  have hN0 : ∀ k, k < m → g r0 k = true → C k := by
    rcases hc.all r0 hr0 with h | h
    · exact absurd h hn0
    · exact h
  let Cl := (List.range m).filter fun k => decide (C k)
  have memCl : ∀ k, k ∈ Cl ↔ k < m ∧ C k := fun k => by simp [Cl]
  let Rl := S.filter fun r => decide (∀ k, k < m → g r k = true → C k)
  have memRl : ∀ r, r ∈ Rl ↔ r ∈ S ∧ ∀ k, k < m → g r k = true → C k := fun r => by simp [Rl]
  have hRn : Rl.Nodup := hS.filter _
  have hCn : Cl.Nodup := (nodup_range m).filter _
  have h1 : Cl.length ≤ (Rl.erase r0).length := by
    refine map_le (f := fun k => (of.getD k (-1)).toNat) hCn (fun x hx y hy e => ?_) (fun k hk => ?_)
    · have hx := (hc.clo x ((memCl x).1 hx).2)
      have hy := (hc.clo y ((memCl y).1 hy).2)
      exact hc.inj (r := (of.getD x (-1)).toNat) hx.1 hy.1 (by omega) (by omega)
    · have hk := hc.clo k ((memCl k).1 hk).2
      have hp : 0 < cn (of.getD k (-1)).toNat of := cn_pos.2 ⟨k, by rw [hc.len]; exact hk.1, by omega⟩
      refine (mem_erase hRn).2 ⟨fun e => hn0 (e ▸ hp), (memRl _).2 ⟨hc.mem _ hp, hk.2.2⟩⟩
  have h2 : (Rl.erase r0).length = Rl.length - 1 := List.length_erase_of_mem ((memRl r0).2 ⟨hr0, hN0⟩)
  have h3 : 0 < Rl.length := List.length_pos_of_mem ((memRl r0).2 ⟨hr0, hN0⟩)
  have hall : ∀ r ∈ S, ∀ k, k < m → g r k = true → C k := fun r hr => Classical.byContradiction fun hno => by
    obtain ⟨f, hf⟩ := hone r hr
    have hsub : ∀ x ∈ Rl, x ∈ S.erase r := fun x hx => (mem_erase hS).2 ⟨fun e => hno (e ▸ ((memRl x).1 hx).2), ((memRl x).1 hx).1⟩
    have : Rl.length ≤ Cl.length := map_le (f := f) hRn (fun x hx y hy e => (hf y (hsub y hy)).2.2 x (hsub x hx) e) (fun x hx => (memCl _).2 ⟨(hf x (hsub x hx)).1, ((memRl x).1 hx).2 _ (hf x (hsub x hx)).1 (hf x (hsub x hx)).2.1⟩)
    omega
  have h4 : near g m S ≤ Cl.length := length_le_of_nodup _ _ (nodup_nearC g m S) (fun k hk => by
    obtain ⟨hk, r, hr, hg⟩ := mem_nearC.1 hk
    exact (memCl k).2 ⟨hk, hall r hr k hk hg⟩)
  have h5 : Rl.length ≤ S.length := List.length_filter_le _ _
  obtain ⟨f, hf⟩ := hone r0 hr0
  have h6 := mat_near (S := S) (erase_nodup hS r0) (fun x hx => ((mem_erase hS).1 hx).2) hf
  rw [List.length_erase_of_mem hr0] at h6
  omega
/-- The rows that the program leaves: each row without which the others still have too few columns is struck. -/
def hallF (g : Nat → Nat → Bool) (m : Nat) : List Nat → List Nat → List Nat
  | [], S => S
  | r :: rs, S => if kuhn g m (S.erase r) < (S.erase r).length then hallF g m rs (S.erase r) else hallF g m rs S
theorem hallF_ok (g : Nat → Nat → Bool) (m n : Nat) : ∀ (rs : List Nat) (S : List Nat), rs.Nodup → S.Sublist (List.range n) → (∀ r ∈ rs, r ∈ S) → kuhn g m S < S.length → (∀ r ∈ S, r ∈ rs ∨ ∃ f, Mat g m (S.erase r) f) →
    (hallF g m rs S).Sublist (List.range n) ∧ kuhn g m (hallF g m rs S) < (hallF g m rs S).length ∧ ∀ r ∈ hallF g m rs S, ∃ f, Mat g m ((hallF g m rs S).erase r) f := by
  intro rs
  induction rs with
  | nil => intro S _ hs _ hk ho; exact ⟨hs, hk, fun r hr => (ho r hr).elim (fun h => by simp at h) id⟩
  | cons a rs ih =>
    intro S hrs hs hm hk ho
    have hS : S.Nodup := (nodup_range n).sublist hs
    have ha := List.nodup_cons.1 hrs
    rw [hallF]
    split
    · rename_i hlt
      refine ih _ ha.2 ((List.erase_sublist).trans hs) (fun r hr => (mem_erase hS).2 ⟨fun e => ha.1 (e ▸ hr), hm r (by simp [hr])⟩) hlt (fun r hr => ?_)
      have hr' := (mem_erase hS).1 hr
      rcases ho r hr'.2 with h | ⟨f, hf⟩
      · rcases List.mem_cons.1 h with h | h
        · exact absurd h hr'.1
        · exact .inl h
      · exact .inr ⟨f, hf.sub fun x hx => by
          have hx := (mem_erase (erase_nodup hS a)).1 hx
          exact (mem_erase hS).2 ⟨hx.1, ((mem_erase hS).1 hx.2).2⟩⟩
    · rename_i hge
      refine ih _ ha.2 hs (fun r hr => hm r (by simp [hr])) hk (fun r hr => ?_)
      rcases ho r hr with h | h
      · rcases List.mem_cons.1 h with h | h
        · subst h
          have hle := kuhn_le g m _ (erase_nodup hS r)
          exact .inr ((kuhn_full g m _ (erase_nodup hS r)).1 (by omega))
        · exact .inl h
      · exact .inr h
/-- THE HALL SET: rows that rise, one column too few, none of it can be spared. -/
theorem hall_all (g : Nat → Nat → Bool) (m n : Nat) (h : kuhn g m (List.range n) ≠ n) : (hallF g m (List.range n) (List.range n)).Sublist (List.range n) ∧
    near g m (hallF g m (List.range n) (List.range n)) + 1 = (hallF g m (List.range n) (List.range n)).length ∧
    ∀ r ∈ hallF g m (List.range n) (List.range n), kuhn g m ((hallF g m (List.range n) (List.range n)).erase r) = ((hallF g m (List.range n) (List.range n)).erase r).length := by
  have hle := kuhn_le g m _ (nodup_range n)
  rw [List.length_range] at hle
  obtain ⟨h1, h2, h3⟩ := hallF_ok g m n (List.range n) (List.range n) (nodup_range n) (List.Sublist.refl _) (fun _ h => h) (by rw [List.length_range]; omega) (fun r hr => .inl hr)
  have hn := (nodup_range n).sublist h1
  exact ⟨h1, hall_near g m _ hn h2 h3, fun r hr => (kuhn_full g m _ (erase_nodup hn r)).2 (h3 r hr)⟩
/-! ### König -/
theorem cover_ge (g : Nat → Nat → Bool) (m : Nat) (rows A S : List Nat) (hr : rows.Nodup) (hAS : ∀ r ∈ rows, r ∈ A ∨ r ∈ S) : kuhn g m rows ≤ A.length + near g m S := by
  obtain ⟨T, f, h1, h2, h3, h4⟩ := kuhn_mat g m rows hr
  rw [← h3, ← filter_split (fun r => decide (r ∈ A)) T]
  have a1 : (T.filter fun r => decide (r ∈ A)).length ≤ A.length := length_le_of_nodup _ _ (h1.filter _) (fun x hx => by simpa using (List.mem_filter.1 hx).2)
  have a2 : (T.filter fun r => !decide (r ∈ A)).length ≤ near g m S := mat_near (f := f) (h1.filter _) (fun x hx => by
    have hx := List.mem_filter.1 hx
    rcases hAS x (h2 x hx.1) with h | h
    · simp [h] at hx
    · exact h) (h4.sub fun x hx => (List.mem_filter.1 hx).1)
  omega
theorem cover_eq (g : Nat → Nat → Bool) (m : Nat) (rows : List Nat) (hr : rows.Nodup) : ∃ p : Nat → Bool, (rows.filter p).length + near g m (rows.filter fun r => !p r) ≤ kuhn g m rows := by
  classical
  obtain ⟨of, C, hc⟩ := kuhn_cert g m rows hr
  refine ⟨fun r => decide (¬ ∀ k, k < m → g r k = true → C k), ?_⟩
  have e : kuhn g m rows = (hadC m of).length := by rw [hadC_len hc.len, hc.num]
  rw [e, ← filter_split (fun k => decide (C k)) (hadC m of)]
  have a1 : (rows.filter fun r => decide (¬ ∀ k, k < m → g r k = true → C k)).length ≤ ((hadC m of).filter fun k => !decide (C k)).length := by
    have key : ∀ r, r ∈ rows.filter (fun r => decide (¬ ∀ k, k < m → g r k = true → C k)) → r ∈ rows ∧ 0 < cn r of ∧ ¬ C (colOf m of r) := fun r hx => by
      obtain ⟨h1, h2⟩ := List.mem_filter.1 hx
      have h2 : ¬ ∀ k, k < m → g r k = true → C k := by simpa using h2
      have h3 : 0 < cn r of := (hc.all r h1).resolve_right h2
      have hs := colOf_spec hc h3
      refine ⟨h1, h3, fun hC => h2 fun k hk hg => ?_⟩
      have := (hc.clo _ hC).2.2 k hk
      rw [hs.2, Int.toNat_natCast] at this
      exact this hg
    refine map_le (f := colOf m of) (hr.filter _) (fun x hx y hy e => ?_) (fun r hx => ?_)
    · have hx := key x hx
      have hy := key y hy
      exact (hc.mat y (mem_hadR.2 ⟨hy.1, hy.2.1⟩)).2.2 x (mem_hadR.2 ⟨hx.1, hx.2.1⟩) e
    · obtain ⟨h1, h2, h3⟩ := key r hx
      have hs := colOf_spec hc h2
      exact List.mem_filter.2 ⟨mem_hadC.2 ⟨hs.1, by rw [hs.2]; omega⟩, by simp [h3]⟩
  have a2 : near g m (rows.filter fun r => !decide (¬ ∀ k, k < m → g r k = true → C k)) ≤ ((hadC m of).filter fun k => decide (C k)).length := by
    refine length_le_of_nodup _ _ (nodup_nearC g m _) (fun k hk => ?_)
    obtain ⟨hk, r, hr, hg⟩ := mem_nearC.1 hk
    obtain ⟨h1, h2⟩ := List.mem_filter.1 hr
    have h2 : ∀ k, k < m → g r k = true → C k := by simpa using h2
    have hC := h2 k hk hg
    exact List.mem_filter.2 ⟨mem_hadC.2 ⟨hk, (hc.clo k hC).2.1⟩, by simp [hC]⟩
  exact Nat.le_trans (Nat.add_le_add a1 a2) (by omega)
end Go.Proofs.Ytjdhcdoekfikpaa
