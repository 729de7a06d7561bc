/-
  The contract of clavecinlaw05.MatchColumns: true at every input.
-/
import Derived.Test.YtjdhcdoekfikpaaMShifts
namespace Go.Proofs.Ytjdhcdoekfikpaa
open Go.RowKit

section
variable {W W1 W2 : World} {P Q : Nat → Prop} {A : Option Addr} {L c : Nat} {rows : List (List Int)} {hd : List Value}
theorem TM.mono (t : TM W P A L c rows hd) (h : ∀ j, P j → Q j) : TM W Q A L c rows hd := ⟨t.o, t.d, fun a ha => h _ (t.oP a ha), fun i Ai li ci hi a ha => h _ (t.rP i Ai li ci hi a ha)⟩
/-- A row gets one cell more, in its block or in a new one; its header is put into the table. -/
theorem TM.app (t : TM W P A L c rows hd) {i b ci : Nat} {r : List Int} {Ai : Option Addr} (hA : A = some ⟨b, 0, none⟩) (hr : rows[i]? = some r) (hh : hd[i]? = some (Value.slice Ai r.length ci)) {A2 : Option Addr} {c2 : Nat} (v : Int) (hb1 : Below W.heap.size W W1)
    (ho : W2.ownsRow 0 3 1 (.slice A2 (r.length + 1) c2) (r.length + 1) (r.flatMap intE ++ [.int .i64 v])) (hg : W1.grownBy W2 (Value.slice Ai r.length ci).ownBlock) (hor : (Value.slice A2 (r.length + 1) c2).ownBlock = (Value.slice Ai r.length ci).ownBlock ∨ (Value.slice A2 (r.length + 1) c2).ownBlock = some W1.heap.size)
    (hP : ∀ j, W.heap.size ≤ j → P j) :
    TM (W2.setCell ⟨b, i, none⟩ (.slice A2 (r.length + 1) c2)) P A L c (rows.set i (r ++ [v])) (hd.set i (.slice A2 (r.length + 1) c2)) ∧ Kx P W (W2.setCell ⟨b, i, none⟩ (.slice A2 (r.length + 1) c2)) := by
  subst hA
  have t1 := t.below hb1
  have hil : i < rows.length := (List.getElem?_eq_some_iff.1 hr).1
  have hhl : i < hd.length := (List.getElem?_eq_some_iff.1 hh).1
  obtain ⟨r', hr', _, hoi⟩ := t1.o.hd hh
  rw [hr] at hr'
  injection hr' with hr'
  subst hr'
  have hout := t1.o.2.1.kept hg (own_ne t1.o.2.1 hoi (by decide))
  obtain ⟨s1, s2⟩ := hout.stored i (.slice A2 (r.length + 1) c2)
  have hgi : ∀ a, Ai = some a → a.block < W.heap.size := fun a ha => t.o.lt i Ai _ ci hh a ha
  have hA2 : ∀ a, A2 = some a → (∃ a', Ai = some a' ∧ a'.block = a.block) ∨ a.block = W1.heap.size := fun a ha => by
    subst ha
    rcases hor with h | h
    · left
      cases Ai with
      | none => simp [Value.ownBlock] at h
      | some a' => exact ⟨a', rfl, by simpa [Value.ownBlock] using h.symm⟩
    · right; simpa [Value.ownBlock] using h
  refine ⟨⟨⟨by rw [List.length_set]; exact t.o.1, s1, fun j r2 hr2 => ?_⟩, ?_, t.oP, fun j Aj lj cj hj a ha => ?_⟩, ?_⟩
  · by_cases hji : j = i
    · subst hji
      rw [List.getElem?_set_self hil] at hr2
      injection hr2 with hr2
      subst hr2
      rw [List.length_append, List.flatMap_append]
      refine ⟨A2, c2, List.getElem?_set_self hhl, (own_lo ho).2.1, ho.kept s2 (own_ne ho hout (by decide))⟩
    · rw [List.getElem?_set_ne (fun e => hji e.symm)] at hr2
      obtain ⟨Aj, cj, a, bq, o⟩ := t1.o.2.2 j r2 hr2
      have o2 := o.kept hg (by
        cases Aj with
        | none => exact .inl rfl
        | some aj =>
          cases Ai with
          | none => exact .inr (by simp [Value.ownBlock])
          | some ai =>
            refine .inr ?_
            have := t.d j i _ _ _ _ _ _ hji a hh _ _ rfl rfl
            simpa [Value.ownBlock] using this)
      exact ⟨Aj, cj, by rw [List.getElem?_set_ne (fun e => hji e.symm)]; exact a, bq, o2.kept s2 (own_ne o2 hout (by decide))⟩
  · have key : ∀ (j : Nat) (Aj : Option Addr) (lj cj : Nat), (hd.set i (Value.slice A2 (r.length + 1) c2))[j]? = some (Value.slice Aj lj cj) → (j ≠ i ∧ hd[j]? = some (Value.slice Aj lj cj)) ∨ (j = i ∧ Aj = A2) := fun j Aj lj cj hj => by
      by_cases e : j = i
      · subst e
        rw [List.getElem?_set_self hhl] at hj
        simp only [Option.some.injEq, Value.slice.injEq] at hj
        exact .inr ⟨rfl, hj.1.symm⟩
      · rw [List.getElem?_set_ne (fun h => e h.symm)] at hj
        exact .inl ⟨e, hj⟩
    have far : ∀ (j : Nat) (Aj : Option Addr) (lj cj : Nat), j ≠ i → hd[j]? = some (Value.slice Aj lj cj) → ∀ x y, Aj = some x → A2 = some y → x.block ≠ y.block := fun j Aj lj cj hj h1 x y hx hy e => by
      rcases hA2 y hy with ⟨a', h2, h3⟩ | h2
      · exact t.d j i _ _ _ _ _ _ hj h1 hh x a' hx h2 (by rw [e, h3])
      · have := t.o.lt j Aj lj cj h1 x hx
        have := hb1.size
        omega
    intro j1 j2 X Y lx ly cx cy hne hx hy x y ex ey
    rcases key j1 X lx cx hx with ⟨n1, h1⟩ | ⟨rfl, rfl⟩ <;> rcases key j2 Y ly cy hy with ⟨n2, h2⟩ | ⟨e2, rfl⟩
    · exact t.d j1 j2 _ _ _ _ _ _ hne h1 h2 x y ex ey
    · exact far j1 X lx cx n1 h1 x y ex ey
    · exact fun e => far j2 Y ly cy n2 h2 y x ey ex e.symm
    · exact absurd e2.symm hne
  · by_cases e : j = i
    · subst e
      rw [List.getElem?_set_self hhl] at hj
      simp only [Option.some.injEq, Value.slice.injEq] at hj
      obtain ⟨rfl, _⟩ := hj
      rcases hA2 a ha with ⟨a', h2, h3⟩ | h2
      · rw [← h3]; exact t.rP j _ _ _ hh a' h2
      · rw [h2]; exact hP _ hb1.size
    · rw [List.getElem?_set_ne (fun h => e h.symm)] at hj
      exact t.rP j Aj lj cj hj a ha
  · refine (((Kx.refl P W).below hb1).grown hg (fun j hj => ?_)).grown s2 (fun j hj => .inl (by injection hj with hj; subst hj; exact t.oP _ rfl))
    cases Ai with
    | none => simp [Value.ownBlock] at hj
    | some a =>
      left
      have : a.block = j := by simpa [Value.ownBlock] using hj
      rw [← this]
      exact t.rP i _ _ _ hh a rfl
theorem TM.cellKept (t : TM W P A L c rows hd) {i b ci : Nat} {r : List Int} {Ai : Option Addr} (hA : A = some ⟨b, 0, none⟩) (hr : rows[i]? = some r) (hh : hd[i]? = some (Value.slice Ai r.length ci)) (hb1 : Below W.heap.size W W1)
    (hg : W1.grownBy W2 (Value.slice Ai r.length ci).ownBlock) : W2.cell? ⟨b, i, none⟩ = some (.slice Ai r.length ci) ∧ W2.frozen? ⟨b, i, none⟩ = false := by
  subst hA
  have t1 := t.below hb1
  obtain ⟨r', hr', _, hoi⟩ := t1.o.hd hh
  rw [hr] at hr'
  injection hr' with hr'
  subst hr'
  have hout := t1.o.2.1.kept hg (own_ne t1.o.2.1 hoi (by decide))
  have hhl : i < hd.length := (List.getElem?_eq_some_iff.1 hh).1
  have hl := hout.1
  rw [Nat.mul_one] at hl
  exact ⟨by rw [hout.cellAt i (by omega)]; exact hh, hout.frozenAt i⟩
end
/-- The new column's costs. -/
def newV (l : List Int) (i : Nat) : Int := match l[i]? with
  | some x => bits BinOp.and IntKind.i64 x 1023 - 1
  | none => -1
theorem newV_bd (l : List Int) (i : Nat) : -1 ≤ newV l i ∧ newV l i ≤ 1022 := by
  unfold newV
  split
  · rename_i x _
    have := and1023 x
    omega
  · omega
def wdL (T : List (List Int)) (L : Nat) (v : Nat → Int) (i : Nat) : List (List Int) := (List.range L).map fun a => if a < i then T.getD a [] ++ [v a] else T.getD a []
theorem wdL_len (T : List (List Int)) (L : Nat) (v : Nat → Int) (i : Nat) : (wdL T L v i).length = L := by simp [wdL]
theorem wdL_zero {T : List (List Int)} {L : Nat} (h : T.length = L) (v : Nat → Int) : wdL T L v 0 = T := by
  apply List.ext_getElem?
  intro i
  by_cases hi : i < L
  · rw [wdL, List.getElem?_map, List.getElem?_range hi, List.getElem?_eq_getElem (by omega)]
    simp only [Option.map_some, Nat.not_lt_zero, if_false, getD_get _ _ _ (show i < T.length by omega)]
  · rw [List.getElem?_eq_none (by rw [wdL_len]; omega), List.getElem?_eq_none (by omega)]
theorem wdL_at {T : List (List Int)} {L i : Nat} (v : Nat → Int) (hi : i < L) : (wdL T L v i)[i]? = some (T.getD i []) := by
  rw [wdL, List.getElem?_map, List.getElem?_range hi]; simp
theorem wdL_set {T : List (List Int)} {L i : Nat} (v : Nat → Int) (hi : i < L) : (wdL T L v i).set i (T.getD i [] ++ [v i]) = wdL T L v (i + 1) := by
  apply List.ext_getElem?
  intro a
  by_cases ha : a < L
  · rw [wdL, wdL, List.getElem?_map, List.getElem?_range ha]
    by_cases e : a = i
    · subst e
      rw [List.getElem?_set_self (by simpa using hi)]
      simp
    · rw [List.getElem?_set_ne (fun h => e h.symm), List.getElem?_map, List.getElem?_range ha]
      simp only [Option.map_some, Option.some.injEq]
      by_cases h : a < i
      · rw [if_pos h, if_pos (by omega)]
      · rw [if_neg h, if_neg (by omega)]
  · rw [List.getElem?_eq_none (by rw [List.length_set, wdL_len]; omega), List.getElem?_eq_none (by rw [wdL_len]; omega)]
theorem wdL_row {T : List (List Int)} {L a : Nat} (v : Nat → Int) (ha : a < L) : (wdL T L v L)[a]? = some (T.getD a [] ++ [v a]) := by
  rw [wdL, List.getElem?_map, List.getElem?_range ha]; simp [ha]
theorem wdL_ct {T : List (List Int)} {L m a b : Nat} (v : Nat → Int) (hl : T.length = L) (hm : ∀ x ∈ T, x.length = m) (ha : a < L) (hb : b < m) : ct (wdL T L v L) a b = ct T a b := by
  have hla : (T.getD a []).length = m := by rw [getD_get _ _ _ (by omega)]; exact hm _ (List.getElem_mem _)
  unfold ct
  rw [List.getD_eq_getElem?_getD (l := wdL T L v L), wdL_row v ha, Option.getD_some, List.getD_eq_getElem?_getD, List.getElem?_append_left (by omega), ← List.getD_eq_getElem?_getD]
theorem wdL_ok {T : List (List Int)} {L m : Nat} (v : Nat → Int) (hl : T.length = L) (h : TOk T m) (hm : m ≤ 63) (hv : ∀ i, -1 ≤ v i ∧ v i ≤ 1022) : TOk (wdL T L v L) (m + 1) := by
  have h1 := h.n1
  have h2 := h.nm
  refine ⟨by rw [wdL_len]; omega, by rw [wdL_len]; omega, by omega, fun x hx => ?_, fun x hx y hy => ?_⟩
  · obtain ⟨a, ha, rfl⟩ := List.mem_map.1 hx
    have ha := List.mem_range.1 ha
    rw [if_pos ha, List.length_append, getD_get _ _ _ (by omega), h.rect _ (List.getElem_mem _)]; rfl
  · obtain ⟨a, ha, rfl⟩ := List.mem_map.1 hx
    have ha := List.mem_range.1 ha
    rw [if_pos ha, getD_get _ _ _ (by omega)] at hy
    rcases List.mem_append.1 hy with h3 | h3
    · exact h.cell _ (List.getElem_mem _) y h3
    · simp only [List.mem_cons, List.not_mem_nil, or_false] at h3
      subst h3
      have := hv a
      omega
theorem kuhn_of_best {T : List (List Int)} {m L : Nat} (hl : T.length = L) {x : List Nat × Int} (h : bestO T m = some x) : kuhn (gT T) m (List.range L) = L := by
  by_cases hk : kuhn (gT T) m (List.range L) = L
  · exact hk
  · rw [(bestO_iff T m).2 (by rw [hl]; exact hk)] at h; cases h
end Go.Proofs.Ytjdhcdoekfikpaa
