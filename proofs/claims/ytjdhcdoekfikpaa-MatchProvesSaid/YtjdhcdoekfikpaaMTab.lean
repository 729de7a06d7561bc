/-
  The contract of the law's table: a copy of the first rows and columns; condition: the table reads.
-/
import Derived.Test.YtjdhcdoekfikpaaMLives
namespace Go.Proofs.Ytjdhcdoekfikpaa
open Go.RowKit

theorem elemRow : ElemOk Try.prog 22 26 1 24 := ElemOk.of (z := .slice none 0 0) Try.underlying22 (by kernel_rfl) rfl (by omega)
theorem one1s (a : Option Addr) (n c : Nat) : ∀ u ∈ (#[Value.slice a n c] : Array Value).toList, u.oneCell' = true := by simp [Value.oneCell']
theorem own_base' {W : World} {b b' e s n : Nat} {v : Value} {xs : List Value} (h : W.ownsRow b e s v n xs) (hb : b' ≤ b) : W.ownsRow b' e s v n xs := by
  refine ⟨h.1, ?_⟩
  rcases h.2 with h | ⟨g, c, cur, h1, h2, h3⟩
  · exact .inl h
  · exact .inr ⟨g, c, cur, h1, Nat.le_trans hb h2, h3⟩
theorem slE_cut {w : World} {A : Option Addr} {n k : Nat} {l : List Int} (h : SlE intE 1 w A n l) (hk : k ≤ n) : SlE intE 1 w A k (l.take k) := by
  refine ⟨by rw [List.length_take, ← h.1]; omega, by rw [flat_length intE_len, List.length_take, ← h.1, Nat.min_eq_left hk], fun h0 => ?_⟩
  obtain ⟨b, o, hA, hb, hc⟩ := h.2.2 (by omega)
  refine ⟨b, o, hA, hb, fun j u hu => hc j u ?_⟩
  rw [← List.take_append_drop k l, List.flatMap_append, List.getElem?_append_left (List.getElem?_eq_some_iff.1 hu).1]
  exact hu
/-- A table in memory, with its rows' capacities. -/
def SlRc (w : World) (A : Option Addr) (n : Nat) (rows : List (List Int)) : Prop :=
  n = rows.length ∧ (0 < n → ∃ b o, A = some ⟨b, o, none⟩ ∧ b < w.heap.size ∧ ∀ i r, rows[i]? = some r → ∃ Ai ci, w.cell? ⟨b, o + i, none⟩ = some (.slice Ai r.length ci) ∧ r.length ≤ ci ∧ ci ≤ 9223372036854775807 ∧ SlE intE 1 w Ai r.length r)
section
variable {w w' : World} {A : Option Addr} {n k : Nat} {rows : List (List Int)}
theorem SlRc.slr (h : SlRc w A n rows) : SlR w A n rows := ⟨h.1, fun hn => by
  obtain ⟨b, o, e, hb, hc⟩ := h.2 hn
  exact ⟨b, o, e, hb, fun i r hr => by
    obtain ⟨Ai, ci, h1, _, _, h4⟩ := hc i r hr
    exact ⟨Ai, ci, h1, h4⟩⟩⟩
theorem SlRc.at_ (h : SlRc w A n rows) (hk : k < n) : ∃ b o r Ai ci, A = some ⟨b, o, none⟩ ∧ b < w.heap.size ∧ rows[k]? = some r ∧ w.cell? ⟨b, o + k, none⟩ = some (.slice Ai r.length ci) ∧ r.length ≤ ci ∧ ci ≤ 9223372036854775807 ∧ SlE intE 1 w Ai r.length r := by
  obtain ⟨h1, h2⟩ := h
  obtain ⟨b, o, hA, hb, hc⟩ := h2 (by omega)
  have hr : rows[k]? = some (rows[k]'(by omega)) := List.getElem?_eq_getElem (by omega)
  obtain ⟨Ai, ci, a1, a2, a3, a4⟩ := hc k _ hr
  exact ⟨b, o, _, Ai, ci, hA, hb, hr, a1, a2, a3, a4⟩
theorem SlRc.below (h : SlRc w A n rows) (hb : Below w.heap.size w w') : SlRc w' A n rows := ⟨h.1, fun hn => by
  obtain ⟨b, o, e, hl, hc⟩ := h.2 hn
  exact ⟨b, o, e, Nat.lt_of_lt_of_le hl hb.size, fun i r hr => by
    obtain ⟨Ai, ci, h1, h2, h3, h4⟩ := hc i r hr
    exact ⟨Ai, ci, (hb.cell (p := ⟨b, o + i, none⟩) hl).trans h1, h2, h3, h4.below hb⟩⟩⟩
theorem SlRc.rowle (h : SlRc w A n rows) : ∀ r ∈ rows, r.length ≤ 9223372036854775807 := fun r hr => by
  obtain ⟨i, hi, rfl⟩ := List.getElem_of_mem hr
  have hn : 0 < n := by rw [h.1]; omega
  obtain ⟨b, o, e, hl, hc⟩ := h.2 hn
  obtain ⟨Ai, ci, _, h2, h3, _⟩ := hc i _ (List.getElem?_eq_getElem hi)
  omega
theorem TblR.slrc {base c : Nat} {eo ei : TypeId} (t : TblR w base eo ei (.slice A n c) n rows) : SlRc w A n rows := by
  obtain ⟨outer, h1, h2, h3⟩ := t
  refine ⟨h1, fun hn => ?_⟩
  obtain ⟨b, c', hv, _, hb⟩ := h2.form hn
  have hA : A = some ⟨b, 0, none⟩ := by injection hv
  subst hA
  refine ⟨b, 0, rfl, hb, fun i r hr => ?_⟩
  obtain ⟨Ai, ci, a, a2, cc⟩ := h3 i r hr
  refine ⟨Ai, ci, ?_, a2, (own_lo cc).2.2, SlE.of_own cc rfl⟩
  rw [Nat.zero_add, h2.cellAt i (by rw [Nat.mul_one]; have := (List.getElem?_eq_some_iff.1 hr).1; omega)]
  exact a
end
def tabL (R C : Nat) (T : List (List Int)) : List (List Int) := (T.take R).map fun r => r.take C
theorem tabL_len (R C : Nat) (T : List (List Int)) : (tabL R C T).length = min R T.length := by simp [tabL]
theorem tabL_take {R C k : Nat} {T : List (List Int)} {r : List Int} (_hk : k < R) (hr : T[k]? = some r) : tabL (k + 1) C T = tabL k C T ++ [r.take C] := by
  obtain ⟨h, rfl⟩ := List.getElem?_eq_some_iff.1 hr
  unfold tabL
  rw [List.take_succ_eq_append_getElem h, List.map_append]
  rfl
set_option maxRecDepth 100000 in
set_option maxHeartbeats 4000000 in
theorem table_any (A : Option Addr) (n c : Nat) (T : List (List Int)) (R C : Nat) (hR66 : R ≤ 66) (hC66 : C ≤ 66) (w : World) (hT : SlRc w A n T) (_hn : n ≤ 9223372036854775807) :
    Calls Try.prog 20 #[.slice A n c, .int .i64 (R : Int), .int .i64 (C : Int)] w fun e w' => ∃ A' c', e = .returned (.slice A' (min R n) c') ∧ TblR w' w.heap.size 26 3 (.slice A' (min R n) c') (min R n) (tabL R C T) ∧ Below w.heap.size w w' := by
  refine calls_cps ?_
  intro K hK
  have HT := Lib.hid hT
  have Hl := Lib.hid hT.1
  clear hT
  go_enter Try.func20, Try.ntmps20
  go_wp2_with fail
  go_loopg [7, 8] (min R n) (fun gk s7 s8 wr => ∃ (k : Nat) (A' : Option Addr) (c' : Nat), k + gk = min R n ∧ s8 = .int .i64 ((k : Nat) : Int) ∧ s7 = .slice A' k c' ∧ TblR wr w.heap.size 26 3 (.slice A' k c') k (tabL k C T) ∧ Below w.heap.size w wr)
  case atStart => exact ⟨0, _, _, by omega, rfl, rfl, ⟨[], by simp [tabL]; exact TblO.start (own_new w #[] 26 1 0 w.heap.size rfl (Nat.le_refl _) (by unfold maxLen; omega))⟩, below_new w _⟩
  case round =>
    obtain ⟨k, A', c', hgk, rfl, rfl, ht, hb⟩ := hrel
    obtain ⟨wi, rfl⟩ : ∃ wi : World, wi = wr := ⟨_, rfl⟩
    by_cases hlt : k < n
    · by_cases hltR : k < R
      · obtain ⟨b, o, r, Ai, ci, rfl, hbl, hr, hcell, hc1, hc2, hsl⟩ := (HT.out.below hb).at_ hlt
        have i1 : (k : Int) < (n : Int) := by omega
        have i2 : (k : Int) < (R : Int) := by omega
        have Hst := Lib.hid (tabL_take (C := C) hltR hr)
        obtain ⟨l, hl⟩ : ∃ l, r.length = l := ⟨_, rfl⟩
        rw [hl] at hcell hsl hc1
        have Hsl := Lib.hid hsl
        have HL := Lib.hid hl
        have hsz := hb.size
        obtain ⟨outer, ht⟩ := ht
        have Ht := Lib.hid ht
        have Hb := Lib.hid hb
        clear hr hl hsl ht hb
        by_cases hlC : C < l
        · have hcut := slE_cut Hsl.out (k := C) (by omega)
          have HC := Lib.hid hcut
          have HtC := Lib.hid (show (r.take C).length = C by rw [List.length_take, HL.out]; omega)
          have i3 : (C : Int) ≤ (ci : Int) := by omega
          have i4 : (C : Int) < (l : Int) := by omega
          clear hcut
          go_wp2_with (first
            | (at_builtin; refine wpList_app rfl (.tmp 34) (.tmp 35) _ rfl elemInt wi.heap.size _ _ _ rfl (own_new wi _ _ 1 0 wi.heap.size rfl (Nat.le_refl _) (by unfold maxLen; omega)) _ _ _ _ rfl (HC.out.2.alloc _) (int_one _) (by unfold maxLen; omega) (by omega) (by simp) ?_; intro A1 c1 w1 ho1 hg1 _; rw [Nat.zero_add, List.nil_append] at ho1; have hb1 : Below wi.heap.size wi w1 := app_below1 rfl hg1)
            | (at_builtin; refine wpList_app rfl (.tmp 33) (.tmp 37) _ rfl elemRow w.heap.size _ _ _ rfl ((Ht.out.below hb1).own.kept (World.grownBy_alloc w1 _ none) (by cases (Value.slice A' k c').ownBlock <;> simp)) _ _ _ _ rfl (Sl.new _ _ _ 1 1 rfl) (one1s _ _ _) (by unfold maxLen; omega) (by omega) (by have := hb1.size; simp; omega) ?_; intro A2 c2 w2 ho2 hg2 _))
          have ht2 := (Ht.out.below (hb1.trans ((below_new w1 (.cells #[.slice A1 C c1] 26)).mono hb1.size))).snoc (by decide) HtC.out ((own_base' ho1 hsz).kept (World.grownBy_alloc w1 _ none) (by cases (Value.slice A1 C c1).ownBlock <;> simp)) (own_lo ho1).2.1 ho2 hg2
          have hb2 : Below w.heap.size w w2 := below_own ((Hb.out.trans (hb1.mono hsz)).alloc (Nat.le_trans hsz hb1.size) (.cells #[.slice A1 C c1] 26)) ((Ht.out.below hb1).own.kept (World.grownBy_alloc w1 _ none) (by cases (Value.slice A' k c').ownBlock <;> simp)) (Nat.le_refl _) (by have := hb1.size; simp <;> omega) hg2
          rw [← Hst.out] at ht2
          have HT2 := Lib.hid ht2
          have HB2 := Lib.hid hb2
          clear ho1 hg1 hb1 ho2 hg2 ht2 hb2
          go_roundg (gk - 1)
          case measure => omega
          case rel => exact ⟨k + 1, A2, c2, by omega, by go_num, rfl, ⟨_, HT2.out⟩, HB2.out⟩
        · have hlC' : l ≤ C := by omega
          have HtC := Lib.hid (show (r.take C).length = l by rw [List.length_take, HL.out]; omega)
          have Hrr := Lib.hid (show r.take C = r from List.take_of_length_le (by rw [HL.out]; exact hlC'))
          have HC := Lib.hid (show SlE intE 1 wi Ai l (r.take C) by rw [Hrr.out]; exact Hsl.out)
          go_wp2_with (first
            | (at_builtin; refine wpList_app rfl (.tmp 34) (.tmp 35) _ rfl elemInt wi.heap.size _ _ _ rfl (own_new wi _ _ 1 0 wi.heap.size rfl (Nat.le_refl _) (by unfold maxLen; omega)) _ _ _ _ rfl (HC.out.2.alloc _) (int_one _) (by unfold maxLen; omega) (by omega) (by simp) ?_; intro A1 c1 w1 ho1 hg1 _; rw [Nat.zero_add, List.nil_append] at ho1; have hb1 : Below wi.heap.size wi w1 := app_below1 rfl hg1)
            | (at_builtin; refine wpList_app rfl (.tmp 33) (.tmp 37) _ rfl elemRow w.heap.size _ _ _ rfl ((Ht.out.below hb1).own.kept (World.grownBy_alloc w1 _ none) (by cases (Value.slice A' k c').ownBlock <;> simp)) _ _ _ _ rfl (Sl.new _ _ _ 1 1 rfl) (one1s _ _ _) (by unfold maxLen; omega) (by omega) (by have := hb1.size; simp; omega) ?_; intro A2 c2 w2 ho2 hg2 _))
          have ht2 := (Ht.out.below (hb1.trans ((below_new w1 (.cells #[.slice A1 l c1] 26)).mono hb1.size))).snoc (by decide) HtC.out ((own_base' ho1 hsz).kept (World.grownBy_alloc w1 _ none) (by cases (Value.slice A1 l c1).ownBlock <;> simp)) (own_lo ho1).2.1 ho2 hg2
          have hb2 : Below w.heap.size w w2 := below_own ((Hb.out.trans (hb1.mono hsz)).alloc (Nat.le_trans hsz hb1.size) (.cells #[.slice A1 l c1] 26)) ((Ht.out.below hb1).own.kept (World.grownBy_alloc w1 _ none) (by cases (Value.slice A' k c').ownBlock <;> simp)) (Nat.le_refl _) (by have := hb1.size; simp <;> omega) hg2
          rw [← Hst.out] at ht2
          have HT2 := Lib.hid ht2
          have HB2 := Lib.hid hb2
          clear ho1 hg1 hb1 ho2 hg2 ht2 hb2
          go_roundg (gk - 1)
          case measure => omega
          case rel => exact ⟨k + 1, A2, c2, by omega, by go_num, rfl, ⟨_, HT2.out⟩, HB2.out⟩
      · have hkR : k = R := by omega
        have hmin : min R n = k := by omega
        have Hf := Lib.hid (hK.out (.returned (.slice A' k c')) wi (by rw [hmin, ← hkR]; exact ⟨A', c', rfl, ht, hb⟩))
        have i1 : (k : Int) < (n : Int) := by omega
        clear ht hb hmin hkR
        go_wp2
        exact Hf.out
    · have hkn : k = n := by omega
      have hmin : min R n = k := by omega
      have htl : tabL R C T = tabL k C T := by unfold tabL; rw [hkn, List.take_of_length_le (by rw [← Hl.out]; omega), List.take_of_length_le (by rw [← Hl.out]; exact Nat.le_refl _)]
      have Hf := Lib.hid (hK.out (.returned (.slice A' k c')) wi (by rw [hmin, htl]; exact ⟨A', c', rfl, ht, hb⟩))
      clear ht hb hmin hkn htl
      go_wp2
      exact Hf.out
end Go.Proofs.Ytjdhcdoekfikpaa
