/-
  The contracts of match.Check, of the document's Check and of in: whether a table is valid; condition: the table reads.
-/
import Derived.Test.YtjdhcdoekfikpaaMMatched
import Derived.Test.YtjdhcdoekfikpaaMHung3
namespace Go.Proofs.Ytjdhcdoekfikpaa
open Go.RowKit

def cellB (c : Int) : Bool := decide (-1 ≤ c) && decide (c ≤ 1000000000)
def rowB (n m : Nat) (r : List Int) : Bool := decide (r.length = m) && decide (n ≤ r.length) && decide (r.length ≤ 64) && r.all cellB
def wid (T : List (List Int)) : Nat := (T.headD []).length
/-- The table is valid. -/
def tabB (T : List (List Int)) : Bool := decide (1 ≤ T.length) && decide (T.length ≤ 64) && T.all (rowB T.length (wid T))
structure TOk (T : List (List Int)) (m : Nat) : Prop where
  n1 : 1 ≤ T.length
  nm : T.length ≤ m
  m64 : m ≤ 64
  rect : ∀ x ∈ T, x.length = m
  cell : ∀ x ∈ T, ∀ c ∈ x, -1 ≤ c ∧ c ≤ 1000000000
theorem cellB_iff {c : Int} : cellB c = true ↔ -1 ≤ c ∧ c ≤ 1000000000 := by simp [cellB]
theorem rowB_iff {n m : Nat} {r : List Int} : rowB n m r = true ↔ r.length = m ∧ n ≤ r.length ∧ r.length ≤ 64 ∧ ∀ c ∈ r, -1 ≤ c ∧ c ≤ 1000000000 := by
  simp [rowB, cellB_iff, and_assoc]
theorem tabB_iff {T : List (List Int)} : tabB T = true ↔ TOk T (wid T) := by
  constructor
  · intro h
    simp only [tabB, Bool.and_eq_true, decide_eq_true_eq, List.all_eq_true] at h
    obtain ⟨⟨h1, h2⟩, h3⟩ := h
    have h4 := fun x hx => rowB_iff.1 (h3 x hx)
    obtain ⟨a, r, rfl⟩ : ∃ a r, T = a :: r := by
      cases T with
      | nil => simp at h1
      | cons a r => exact ⟨a, r, rfl⟩
    have h5 := h4 a (by simp)
    exact ⟨h1, by rw [← h5.1]; exact h5.2.1, by rw [← h5.1]; exact h5.2.2.1, fun x hx => (h4 x hx).1, fun x hx => (h4 x hx).2.2.2⟩
  · intro h
    simp only [tabB, Bool.and_eq_true, decide_eq_true_eq, List.all_eq_true]
    exact ⟨⟨h.n1, Nat.le_trans h.nm h.m64⟩, fun x hx => rowB_iff.2 ⟨h.rect x hx, by rw [h.rect x hx]; exact h.nm, by rw [h.rect x hx]; exact h.m64, h.cell x hx⟩⟩
theorem TOk.wid {T : List (List Int)} {m : Nat} (h : TOk T m) : wid T = m := by
  cases T with
  | nil => have := h.n1; simp at this
  | cons a r => exact h.rect a (by simp)
theorem TOk.ct_mem {T : List (List Int)} {m : Nat} (h : TOk T m) {i j : Nat} (hi : i < T.length) (hj : j < m) : ∃ r ∈ T, r.length = m ∧ ct T i j ∈ r := by
  refine ⟨T[i], List.getElem_mem hi, h.rect _ (List.getElem_mem hi), ?_⟩
  have hl : j < (T[i]).length := by rw [h.rect _ (List.getElem_mem hi)]; exact hj
  have e : ct T i j = (T[i])[j] := by
    unfold ct
    rw [getD_get _ _ _ hi, getD_get _ _ _ hl]
  rw [e]
  exact List.getElem_mem hl
theorem TOk.costOk {T : List (List Int)} {m : Nat} (h : TOk T m) : CostOk T m := fun i j hi hj => by
  obtain ⟨r, hr, _, hc⟩ := h.ct_mem hi hj
  exact h.cell r hr _ hc
theorem tab_no_row {T : List (List Int)} {i : Nat} {r : List Int} (hr : T[i]? = some r) (h : rowB T.length (wid T) r = false) : tabB T = false := by
  unfold tabB
  have : T.all (rowB T.length (wid T)) = false := by
    rw [List.all_eq_false]
    exact ⟨r, List.mem_of_getElem? hr, by rw [h]; simp⟩
  rw [this]; simp
theorem row_no_cell {n m : Nat} {r : List Int} {j : Nat} {c : Int} (hc : r[j]? = some c) (h : cellB c = false) : rowB n m r = false := by
  unfold rowB
  have : r.all cellB = false := by
    rw [List.all_eq_false]
    exact ⟨c, List.mem_of_getElem? hc, by rw [h]; simp⟩
  rw [this]; simp
theorem all_snoc {α : Type} {P : α → Bool} {l : List α} {k : Nat} {x : α} (h : (l.take k).all P = true) (hx : l[k]? = some x) (hp : P x = true) : (l.take (k + 1)).all P = true := by
  obtain ⟨hk, rfl⟩ := List.getElem?_eq_some_iff.1 hx
  rw [List.take_succ_eq_append_getElem hk, List.all_append, h]
  simp [hp]
theorem head_wid {T : List (List Int)} {r : List Int} (h : T[0]? = some r) : r.length = wid T := by
  cases T with
  | nil => simp at h
  | cons a t => simp at h; subst h; rfl
theorem SlR.head {w : World} {A : Option Addr} {n : Nat} {T : List (List Int)} (h : SlR w A n T) (h0 : 0 < n) : ∃ b o A0 c0, A = some ⟨b, o, none⟩ ∧ w.cell? ⟨b, o, none⟩ = some (.slice A0 (wid T) c0) := by
  obtain ⟨b, o, r, Ai, ci, hA, _, hr, hc, _⟩ := h.at_ h0
  exact ⟨b, o, Ai, ci, hA, by rw [← head_wid hr]; simpa using hc⟩
set_option maxRecDepth 100000 in
set_option maxHeartbeats 2000000 in
theorem check_any (A : Option Addr) (n c : Nat) (T : List (List Int)) (w : World) (hT : SlR w A n T) (hn : n ≤ 9223372036854775807) (hrow : ∀ r ∈ T, r.length ≤ 9223372036854775807) :
    Calls Try.prog 36 #[.slice A n c] w fun e w' => e = .returned (.int .i64 (if tabB T = true then 0 else 1)) ∧ w = w' := by
  refine calls_cps ?_
  intro R hR
  have Hyes := Lib.hid (show tabB T = true → R (.returned (.int .i64 0)) w from fun h => hR.out _ _ ⟨by rw [if_pos h], rfl⟩)
  have Hno := Lib.hid (show tabB T = false → R (.returned (.int .i64 1)) w from fun h => hR.out _ _ ⟨by rw [if_neg (by rw [h]; simp)], rfl⟩)
  have HT := Lib.hid hT
  have Hrow := Lib.hid hrow
  have Hl := Lib.hid hT.1
  clear hR hT hrow
  by_cases h1 : n < 1
  · have Hf := Lib.hid (Hno.out (by unfold tabB; rw [decide_eq_false (by rw [← Hl.out]; omega)]; rfl))
    go_enter Try.func36, Try.ntmps36
    go_wp2
    exact Hf.out
  by_cases h2 : 64 < n
  · have Hf := Lib.hid (Hno.out (by unfold tabB; rw [decide_eq_false (p := T.length ≤ 64) (by rw [← Hl.out]; omega)]; simp))
    go_enter Try.func36, Try.ntmps36
    go_wp2
    exact Hf.out
  obtain ⟨b, o, A0, c0, rfl, hhead⟩ := HT.out.head (by omega)
  obtain ⟨m, hm⟩ : ∃ m, wid T = m := ⟨_, rfl⟩
  rw [hm] at hhead
  have Hm := Lib.hid hm
  have Hhead := Lib.hid hhead
  clear hm hhead
  have i5 : (n : Int) ≤ 64 := by omega
  have i6 : (1 : Int) ≤ (n : Int) := by omega
  go_enter Try.func36, Try.ntmps36
  go_wp2_with fail
  go_loop [17] (fun s17 => ∃ k : Nat, k ≤ n ∧ s17 = .int .i64 ((k : Nat) : Int) ∧ Hid ((T.take k).all (rowB n m) = true)) (fun s17 => n - (intOf s17).toNat)
  case atStart => exact ⟨0, by omega, rfl, Lib.hid (by simp)⟩
  case round =>
    obtain ⟨k, hk, rfl, Ha⟩ := hrel
    by_cases hlt : k < n
    · obtain ⟨b', o', r, Ai, ci, e, hbl, hr, hcell, hrow⟩ := HT.out.at_ hlt
      simp only [Option.some.injEq, Addr.mk.injEq, and_true] at e
      obtain ⟨rfl, rfl⟩ := e
      obtain ⟨l, hl⟩ : ∃ l, r.length = l := ⟨_, rfl⟩
      rw [hl] at hcell hrow
      have i1 : (k : Int) < (n : Int) := by omega
      have hl64 : l ≤ 9223372036854775807 := by rw [← hl]; exact Hrow.out r (List.mem_of_getElem? hr)
      have Hr := Lib.hid hr
      have HL := Lib.hid hl
      have Hrw := Lib.hid hrow
      have hhead := Hhead.out
      clear hr hl hrow
      by_cases h3 : l = m
      · by_cases h4 : n ≤ l
        · by_cases h5 : l ≤ 64
          · have g3 : ((l : Int) != m) = false := by simp [h3]
            have g4 : decide ((l : Int) < (n : Int)) = false := by simp; omega
            have g5 : decide ((64 : Int) < (l : Int)) = false := by simp; omega
            have H3 := Lib.hid h3
            have H4 := Lib.hid h4
            have H5 := Lib.hid h5
            clear h3
            go_wp2_with fail
            go_loop [42] (fun s42 => ∃ j : Nat, j ≤ l ∧ s42 = .int .i64 ((j : Nat) : Int) ∧ Hid ((r.take j).all cellB = true)) (fun s42 => l - (intOf s42).toNat)
            case atStart => exact ⟨0, by omega, rfl, Lib.hid (by simp)⟩
            case round =>
              obtain ⟨j, hj, rfl, Hj⟩ := hrel
              by_cases hltj : j < l
              · obtain ⟨b2, o2, x, rfl, _, hx, q0⟩ := Hrw.out.at1 hltj
                have i2 : (j : Int) < (l : Int) := by omega
                have Hx := Lib.hid hx
                clear hx
                by_cases hx1 : x < -1
                · have Hf := Lib.hid (Hno.out (tab_no_row Hr.out (row_no_cell Hx.out (by unfold cellB; rw [decide_eq_false (by omega)]; rfl))))
                  go_wp2
                  exact Hf.out
                · by_cases hx2 : 1000000000 < x
                  · have Hf := Lib.hid (Hno.out (tab_no_row Hr.out (row_no_cell Hx.out (by unfold cellB; rw [decide_eq_false (p := x ≤ 1000000000) (by omega)]; simp))))
                    go_wp2
                    exact Hf.out
                  · have HJ := Lib.hid (all_snoc Hj.out Hx.out (cellB_iff.2 (by omega)))
                    go_wp2
                    exact ⟨⟨j + 1, by omega, by go_num, HJ⟩, by simp [intOf]; omega⟩
              · obtain rfl : l = j := by omega
                have hc := Hj.out
                rw [List.take_of_length_le (by rw [HL.out]; exact Nat.le_refl _)] at hc
                have HA := Lib.hid (all_snoc Ha.out Hr.out (by unfold rowB; rw [HL.out, decide_eq_true H3.out, decide_eq_true H4.out, decide_eq_true H5.out, hc]; rfl))
                clear hc
                go_wp2
                exact ⟨⟨k + 1, by omega, by go_num, HA⟩, by simp [intOf]; omega⟩
          · have g3 : ((l : Int) != m) = false := by simp [h3]
            have Hf := Lib.hid (Hno.out (tab_no_row Hr.out (by unfold rowB; rw [HL.out, decide_eq_false h5]; simp)))
            clear h3
            go_wp2
            exact Hf.out
        · have g3 : ((l : Int) != m) = false := by simp [h3]
          have Hf := Lib.hid (Hno.out (tab_no_row Hr.out (by unfold rowB; rw [HL.out, ← Hl.out, decide_eq_false h4]; simp)))
          clear h3
          go_wp2
          exact Hf.out
      · have g3 : ((l : Int) != m) = true := by simp; omega
        have Hf := Lib.hid (Hno.out (tab_no_row Hr.out (by unfold rowB; rw [HL.out, Hm.out, decide_eq_false h3]; rfl)))
        clear h3
        go_wp2
        exact Hf.out
    · obtain rfl : n = k := by omega
      have h := Ha.out
      rw [List.take_of_length_le (by rw [Hl.out]; exact Nat.le_refl _)] at h
      have Hf := Lib.hid (Hyes.out (by unfold tabB; rw [← Hl.out, Hm.out, h, decide_eq_true (by omega), decide_eq_true (by omega)]; rfl))
      clear h
      go_wp2
      exact Hf.out
end Go.Proofs.Ytjdhcdoekfikpaa
