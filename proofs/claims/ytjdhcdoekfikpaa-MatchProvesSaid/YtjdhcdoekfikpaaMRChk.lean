/-
  The contracts of the document's Check and of in: whether a table is valid; condition: the table reads.
-/
import Derived.Test.YtjdhcdoekfikpaaMChk
namespace Go.Proofs.Ytjdhcdoekfikpaa
open Go.RowKit

def inB (v lo hi : Int) : Bool := decide (lo ≤ v) && decide (v ≤ hi)
theorem inB_iff {v lo hi : Int} : inB v lo hi = true ↔ lo ≤ v ∧ v ≤ hi := by simp [inB]
theorem inB_no {v lo hi : Int} (h : ¬ (lo ≤ v ∧ v ≤ hi)) : inB v lo hi = false := by
  cases hb : inB v lo hi with
  | false => rfl
  | true => exact absurd (inB_iff.1 hb) h
set_option maxHeartbeats 1000000 in
theorem refIn_any (v lo hi : Int) (w : World) : Calls Try.prog 46 #[.int .i64 v, .int .i64 lo, .int .i64 hi] w fun e w' => e = .returned (.bool (inB v lo hi)) ∧ w = w' := by
  refine calls_cps ?_
  intro R hR
  by_cases h1 : lo ≤ v
  · by_cases h2 : v ≤ hi
    · have Hf := Lib.hid (hR.out (.returned (.bool true)) w ⟨by rw [inB_iff.2 ⟨h1, h2⟩], rfl⟩)
      go_enter Try.func46, Try.ntmps46
      go_wp2
      exact Hf.out
    · have Hf := Lib.hid (hR.out (.returned (.bool false)) w ⟨by rw [inB_no (by omega)], rfl⟩)
      go_enter Try.func46, Try.ntmps46
      go_wp2
      exact Hf.out
  · have Hf := Lib.hid (hR.out (.returned (.bool false)) w ⟨by rw [inB_no (by omega)], rfl⟩)
    go_enter Try.func46, Try.ntmps46
    go_wp2
    exact Hf.out
theorem refIn_yes (v lo hi : Int) (w : World) (h : lo ≤ v ∧ v ≤ hi) : Calls Try.prog 46 #[.int .i64 v, .int .i64 lo, .int .i64 hi] w fun e w' => e = .returned (.bool true) ∧ w = w' :=
  (refIn_any v lo hi w).mono fun _ _ hh => by rw [inB_iff.2 h] at hh; exact hh
theorem refIn_no (v lo hi : Int) (w : World) (h : ¬ (lo ≤ v ∧ v ≤ hi)) : Calls Try.prog 46 #[.int .i64 v, .int .i64 lo, .int .i64 hi] w fun e w' => e = .returned (.bool false) ∧ w = w' :=
  (refIn_any v lo hi w).mono fun _ _ hh => by rw [inB_no h] at hh; exact hh
set_option maxRecDepth 100000 in
set_option maxHeartbeats 4000000 in
theorem refCheck_any (A : Option Addr) (n c : Nat) (T : List (List Int)) (w : World) (hT : SlR w A n T) (hn : n ≤ 9223372036854775807) (hrow : ∀ r ∈ T, r.length ≤ 9223372036854775807) :
    Calls Try.prog 21 #[.slice A n c] w fun e w' => e = .returned (.int .i64 (if tabB T = true then 0 else 1)) ∧ Qt w w' := by
  refine calls_cps ?_
  intro R hR
  have Hyes := Lib.hid (show ∀ W, Qt w W → tabB T = true → R (.returned (.int .i64 0)) W from fun W hq h => hR.out _ _ ⟨by rw [if_pos h], hq⟩)
  have Hno := Lib.hid (show ∀ W, Qt w W → tabB T = false → R (.returned (.int .i64 1)) W from fun W hq h => hR.out _ _ ⟨by rw [if_neg (by rw [h]; simp)], hq⟩)
  have HT := Lib.hid hT
  have Hrow := Lib.hid hrow
  have Hl := Lib.hid hT.1
  clear hR hT hrow
  by_cases h1 : n < 1
  · have Hf := Lib.hid (Hno.out w (Qt.refl _) (by unfold tabB; rw [decide_eq_false (by rw [← Hl.out]; omega)]; rfl))
    go_enter Try.func21, Try.ntmps21
    go_wp2_with (go_at_call 46; refine (refIn_no _ _ _ _ (by omega)).mono ?_; rintro e w1 ⟨rfl, rfl⟩)
    exact Hf.out
  by_cases h2 : 64 < n
  · have Hf := Lib.hid (Hno.out w (Qt.refl _) (by unfold tabB; rw [decide_eq_false (p := T.length ≤ 64) (by rw [← Hl.out]; omega)]; simp))
    go_enter Try.func21, Try.ntmps21
    go_wp2_with (go_at_call 46; refine (refIn_no _ _ _ _ (by omega)).mono ?_; rintro e w1 ⟨rfl, rfl⟩)
    exact Hf.out
  obtain ⟨b, o, A0, c0, rfl, hhead⟩ := HT.out.head (by omega)
  obtain ⟨m, hm⟩ : ∃ m, wid T = m := ⟨_, rfl⟩
  rw [hm] at hhead
  have Hm := Lib.hid hm
  have Hhead := Lib.hid hhead
  obtain ⟨r0, hr0⟩ : ∃ r0, T[0]? = some r0 := ⟨_, List.getElem?_eq_getElem (by rw [← Hl.out]; omega)⟩
  have Hr0 := Lib.hid hr0
  have Hm0 := Lib.hid ((head_wid hr0).trans hm)
  have i5 : (n : Int) ≤ 64 := by omega
  have i6 : (1 : Int) ≤ (n : Int) := by omega
  have hm63 : m ≤ 9223372036854775807 := by rw [← Hm0.out]; exact Hrow.out r0 (List.mem_of_getElem? hr0)
  clear hm hr0
  by_cases h3 : n ≤ m ∧ m ≤ 64
  · obtain ⟨h4, h5⟩ := h3
    go_enter Try.func21, Try.ntmps21
    go_wp2_with (go_at_call 46; refine (refIn_yes _ _ _ _ (by omega)).mono ?_; rintro e w1 ⟨rfl, rfl⟩)
    clear hhead
    go_loopw [3] (fun s3 wr => ∃ k : Nat, k ≤ n ∧ s3 = .int .i64 ((k : Nat) : Int) ∧ Hid ((T.take k).all (rowB n m) = true) ∧ Qt w wr) (fun s3 _ => n - (intOf s3).toNat)
    case atStart => exact ⟨0, by omega, rfl, Lib.hid (by simp), Qt.refl _⟩
    case round =>
      obtain ⟨k, hk, rfl, Ha, hq⟩ := hrel
      obtain ⟨wi, rfl⟩ : ∃ wi : World, wi = wr := ⟨_, rfl⟩
      by_cases hlt : k < n
      · obtain ⟨b', o', r, Ai, ci, e, hbl, hr, hcell, hrow⟩ := (hq.slr HT.out).at_ hlt
        simp only [Option.some.injEq, Addr.mk.injEq, and_true] at e
        obtain ⟨rfl, rfl⟩ := e
        obtain ⟨l, hl⟩ : ∃ l, r.length = l := ⟨_, rfl⟩
        rw [hl] at hcell hrow
        have i1 : (k : Int) < (n : Int) := by omega
        have hl64 : l ≤ 9223372036854775807 := by rw [← hl]; exact Hrow.out r (List.mem_of_getElem? hr)
        have Hr := Lib.hid hr
        have HL := Lib.hid hl
        have Hrw := Lib.hid hrow
        have hhead : wi.cell? ⟨b, o, none⟩ = some (.slice A0 m c0) := by obtain ⟨q, rfl⟩ := hq; exact Hhead.out
        clear hr hl hrow
        by_cases h3 : l = m
        · have g3 : ((l : Int) != m) = false := by simp [h3]
          have H3 := Lib.hid h3
          clear h3
          go_wp2_with fail
          go_quiet (fail)
          go_wp2_with fail
          go_loopw [4] (fun s4 wr => ∃ j : Nat, j ≤ l ∧ s4 = .int .i64 ((j : Nat) : Int) ∧ Hid ((r.take j).all cellB = true) ∧ Qt w wr) (fun s4 _ => l - (intOf s4).toNat)
          case atStart => exact ⟨0, by omega, rfl, Lib.hid (by simp), hq.step _⟩
          case round =>
            clear hcell hhead
            obtain ⟨j, hj, rfl, Hj, hqj⟩ := hrel
            obtain ⟨wj, rfl⟩ : ∃ wj : World, wj = wr := ⟨_, rfl⟩
            obtain ⟨b', o', r', Aj, cj, e, _, hr', hcell, hrow⟩ := (hqj.slr HT.out).at_ hlt
            simp only [Option.some.injEq, Addr.mk.injEq, and_true] at e
            obtain ⟨rfl, rfl⟩ := e
            have he := Hr.out
            rw [hr'] at he
            injection he with he
            subst he
            rw [HL.out] at hcell hrow
            have Hrj := Lib.hid hrow
            clear hr' hrow
            by_cases hltj : j < l
            · obtain ⟨b2, o2, x, rfl, _, hx, q0⟩ := Hrj.out.at1 hltj
              have i2 : (j : Int) < (l : Int) := by omega
              have Hx := Lib.hid hx
              clear hx
              by_cases hx1 : -1 ≤ x ∧ x ≤ 1000000000
              · have HJ := Lib.hid (all_snoc Hj.out Hx.out (cellB_iff.2 hx1))
                go_wp2_with (go_at_call 46; refine (refIn_yes _ _ _ _ (by omega)).mono ?_; rintro e w1 ⟨rfl, rfl⟩)
                exact ⟨⟨j + 1, by omega, by go_num, HJ, hqj⟩, by simp [intOf]; omega⟩
              · have Hf := Lib.hid (Hno.out _ hqj (tab_no_row Hr.out (row_no_cell Hx.out (by cases hb : cellB x with | false => rfl | true => exact absurd (cellB_iff.1 hb) hx1))))
                go_wp2_with (go_at_call 46; refine (refIn_no _ _ _ _ (by omega)).mono ?_; rintro e w1 ⟨rfl, rfl⟩)
                exact Hf.out
            · obtain rfl : l = j := by omega
              have hc := Hj.out
              rw [List.take_of_length_le (by rw [HL.out]; exact Nat.le_refl _)] at hc
              have HA := Lib.hid (all_snoc Ha.out Hr.out (by unfold rowB; rw [HL.out, decide_eq_true H3.out, decide_eq_true (by rw [H3.out]; exact h4), decide_eq_true (by rw [H3.out]; exact h5), hc]; rfl))
              clear hc
              go_wp2
              exact ⟨⟨k + 1, by omega, by go_num, HA, hqj⟩, by simp [intOf]; omega⟩
        · have g3 : ((l : Int) != m) = true := by simp; omega
          have Hf := Lib.hid (show ∀ W, Qt w W → R (.returned (.int .i64 1)) W from fun W hq => Hno.out W hq (tab_no_row Hr.out (by unfold rowB; rw [HL.out, Hm.out, decide_eq_false h3]; rfl)))
          clear h3
          go_wp2_with fail
          go_quiet (fail)
          go_wp2
          exact Hf.out _ (hq.step _)
      · obtain rfl : n = k := by omega
        have h := Ha.out
        rw [List.take_of_length_le (by rw [Hl.out]; exact Nat.le_refl _)] at h
        have Hf := Lib.hid (Hyes.out wi hq (by unfold tabB; rw [← Hl.out, Hm.out, h, decide_eq_true (by omega), decide_eq_true (by omega)]; rfl))
        clear h
        go_wp2
        exact Hf.out
  · have Hf := Lib.hid (Hno.out w (Qt.refl _) (tab_no_row Hr0.out (by unfold rowB; rw [Hm0.out, ← Hl.out]; simp; omega)))
    go_enter Try.func21, Try.ntmps21
    go_wp2_with (first | (go_at_call 46; refine (refIn_yes _ _ _ _ (by omega)).mono ?_; rintro e w1 ⟨rfl, rfl⟩) | (go_at_call 46; refine (refIn_no _ _ _ _ (by omega)).mono ?_; rintro e w1 ⟨rfl, rfl⟩))
    exact Hf.out
end Go.Proofs.Ytjdhcdoekfikpaa
