/-
  The contract of clavecinlaw05.MatchFewer: true at every input.
-/
import Derived.Test.YtjdhcdoekfikpaaMLWth
import Derived.Test.YtjdhcdoekfikpaaMLDual
namespace Go.Proofs.Ytjdhcdoekfikpaa
open Go.RowKit

/-- What a law makes of any number: a row's number. -/
theorem row_mod (row : Int) {L : Nat} (hL : 1 ≤ L) : ∃ (r : Int) (k : Nat), Int.tmod row (L : Int) = r ∧ -(L : Int) < r ∧ r < (L : Int) ∧ 0 ≤ r + (L : Int) ∧ (r + (L : Int)) % (L : Int) = (k : Int) ∧ k < L := by
  have h0 : (0 : Int) < (L : Int) := by omega
  have h1 := Int.tmod_lt_of_pos row h0
  have h2 : -(L : Int) < Int.tmod row (L : Int) := by
    have := Int.lt_tmod_of_pos row h0
    omega
  have h3 := Int.emod_nonneg (Int.tmod row (L : Int) + (L : Int)) (show (L : Int) ≠ 0 by omega)
  have h4 := Int.emod_lt_of_pos (Int.tmod row (L : Int) + (L : Int)) h0
  exact ⟨_, ((Int.tmod row (L : Int) + (L : Int)) % (L : Int)).toNat, rfl, h2, h1, by omega, by omega, by omega⟩
theorem cast_at2 {w : World} {A : Option Addr} {n i : Nat} {l : List Nat} (h : SlE intE 1 w A n (castL l)) (hi : i < n) : ∃ b o, A = some ⟨b, o, none⟩ ∧ w.cell? ⟨b, o + i, none⟩ = some (.int .i64 ((l.getD i 0 : Nat) : Int)) := by
  obtain ⟨b, o, x, hA, _, hx, hc⟩ := h.at1 hi
  refine ⟨b, o, hA, ?_⟩
  rw [hc, ← castL_getD, List.getD_eq_getElem?_getD, hx]
  rfl
set_option maxRecDepth 100000 in
set_option maxHeartbeats 8000000 in
theorem fewer_any (A : Option Addr) (n c : Nat) (T : List (List Int)) (row : Int) (w : World) (hT : SlRc w A n T) (hn : n ≤ 9223372036854775807) :
    Calls Try.prog 16 #[.slice A n c, .int .i64 row] w fun e w' => e = .returned (.bool true) ∧ Below w.heap.size w w' := by
  refine calls_cps ?_
  intro R hR
  obtain ⟨T1, hT1⟩ : ∃ T1, tabL 30 33 T = T1 := ⟨_, rfl⟩
  obtain ⟨L, hL⟩ : ∃ L, T1.length = L := ⟨_, rfl⟩
  have HT1 := Lib.hid hT1
  have HL := Lib.hid hL
  have HT := Lib.hid hT
  clear hT1 hL hT
  go_enter Try.func16, Try.ntmps16
  go_wp2_with fail
  refine (table_tc2 A n c T _ _ 30 33 rfl rfl (by omega) (by omega) _ HT.out hn).mono ?_
  rw [HT1.out, HL.out]
  rintro e w1 ⟨A1, c1, rfl, hc1, h1⟩
  have H1 := Lib.hid h1
  clear h1
  by_cases hb : tabB T1 = true
  · obtain ⟨m, hok⟩ := tok_of hb
    have Hok := Lib.hid hok
    have Hb := Lib.hid hb
    have hL64 : L ≤ 64 := by rw [← HL.out]; exact Nat.le_trans hok.nm hok.m64
    have hL1 : 1 ≤ L := by rw [← HL.out]; exact hok.n1
    have hm64 := hok.m64
    clear hok hb
    go_wp2_with fail
    refine (refCheck_any A1 L c1 T1 _ H1.out.rc.slr (by omega) H1.out.rc.rowle).mono ?_
    rw [if_pos Hb.out]
    rintro e w2 ⟨rfl, hq2⟩
    have H2 := Lib.hid (H1.out.qt hq2)
    clear hq2
    obtain ⟨r, k, hr1, hr2, hr3, hr4, hr5, hk⟩ := row_mod row hL1
    have hL0 : (0 : Int) < (L : Int) := by omega
    have hL00 : ¬ (L : Int) = 0 := by omega
    have Hwth := Lib.hid (show ∀ W, Tc w W A1 L c1 T1 → Calls Try.prog 41 #[.slice A1 L c1, .int .i64 (k : Int)] W fun e w' => ((L = 1 ∧ e = .returned (.tuple #[.int .i64 0, .int .i64 0])) ∨ (2 ≤ L ∧ (bestO (T1.eraseIdx k) m = none ∧ e = .returned (.tuple #[.int .i64 0, .int .i64 6]) ∨ ∃ l s, bestO (T1.eraseIdx k) m = some (l, s) ∧ e = .returned (.tuple #[.int .i64 s, .int .i64 0])))) ∧ Below W.heap.size W w' from fun W h => by
      by_cases hL1' : L = 1
      · subst hL1'
        obtain rfl : k = 0 := by omega
        refine (mWithout_one A1 c1 m T1 W h.rc.slr Hok.out).mono ?_
        rintro e w' ⟨he, rfl⟩
        exact ⟨.inl ⟨rfl, he⟩, Below.refl _ _⟩
      · exact (mWithout_any A1 L c1 m k T1 W h.rc.slr Hok.out (by omega) hk hc1.1 hc1.2).mono fun e w' hh => ⟨.inr ⟨by omega, hh.1⟩, hh.2⟩)
    by_cases hKL : kuhn (gT T1) m (List.range L) = L
    · have Hyes := Lib.hid hKL
      clear hKL
      go_wp2_with fail
      refine (best_yesT w A1 L c1 m T1 _ H2.out Hok.out Hyes.out).mono ?_
      rintro e w3 ⟨B1, B2, B3, d1, d2, d3, l, s, lu, lv, rfl, hB, hM, h3⟩
      have P3 := Lib.hid (Bx.new (s := s) h3 hM)
      have HB := Lib.hid hB
      clear h3 hM hB
      go_wp2_with fail
      refine (Hwth.out _ P3.out.tc).mono ?_
      rintro e w4 ⟨hcase, hb4⟩
      have P4 := Lib.hid (P3.out.below hb4)
      -- the law: the other rows have an assignment, and it costs no more
      obtain ⟨s2, rfl, hs2⟩ : ∃ s2, e = .returned (.tuple #[.int .i64 s2, .int .i64 0]) ∧ 0 ≤ s2 ∧ s2 ≤ s - ct T1 k (l.getD k 0) := by
        rcases hcase with ⟨h1, h2⟩ | ⟨h1, h2⟩
        · subst h1
          obtain rfl : k = 0 := by omega
          refine ⟨0, h2, by omega, ?_⟩
          have h5 := HB.out.best.cost
          have h6 : costA T1 l = 0 + ct T1 0 (l.getD 0 0) := by unfold costA; rw [HL.out]; rfl
          omega
        · obtain ⟨to', c', hb', hc', h0⟩ := fewer_law (r := k) (by rw [HL.out]; exact hk) HB.out.best
          rcases h2 with ⟨h3, _⟩ | ⟨l', s', h3, h4⟩
          · rw [hb'] at h3; cases h3
          · rw [hb'] at h3
            simp only [Option.some.injEq, Prod.mk.injEq] at h3
            rw [← h3.2] at h4
            exact ⟨c', h4, h0, hc'⟩
      clear hb4 hcase
      obtain ⟨r0, r1, r2, r3, r4⟩ := cells4 P4.out.x
      go_wp2_with fail
      refine (refTotal_any A1 L c1 m T1 B1 L d1 (castL l) _ P4.out.tc.rc.slr Hok.out P4.out.mm.s1 (by omega)).mono ?_
      rintro e w5 ⟨⟨_, rfl⟩ | ⟨hno, _⟩, hq5⟩
      rotate_left
      · exact absurd (prOk_bst HB.out).1 hno
      have P5 := Lib.hid (P4.out.below hq5.below)
      clear hq5 r0 r1 r2 r3 r4
      obtain ⟨tt, htt⟩ : ∃ tt, totS T1 (castL l) L = tt := ⟨_, rfl⟩
      rw [htt]
      have hsb : 0 ≤ s ∧ s ≤ 64000000000 := by
        have h5 := totS_bd Hok.out (Nat.le_refl _) (prOk_bst HB.out).1.2
        rw [totS_asg HB.out.best.asg, HB.out.best.cost, HL.out] at h5
        omega
      have hasg := HB.out.best.asg.ok k (by rw [HL.out]; exact hk)
      obtain ⟨j, hj⟩ : ∃ j, l.getD k 0 = j := ⟨_, rfl⟩
      obtain ⟨bt, ot, rfl, t0⟩ := cast_at2 P5.out.mm.s1 hk
      rw [hj] at t0 hasg hs2
      obtain ⟨b, o, Ai, ci, bi, oi, rfl, _, _, t1, rfl, t2⟩ := table_at P5.out.tc.rc.slr Hok.out.rect (Below.refl _ _) hk hasg.1
      have hvb := Hok.out.costOk k j (by rw [HL.out]; exact hk) hasg.1
      obtain ⟨v, hv⟩ : ∃ v, ct T1 k j = v := ⟨_, rfl⟩
      rw [hv] at t2 hvb hs2 hasg
      have z1 : IntKind.i64.wrap (s - v) = s - v := IntWalk.i64_in _ (by omega)
      have i1 : (k : Int) < (L : Int) := by omega
      have i2 : (j : Int) < (m : Int) := by omega
      have i3 : decide (s2 ≤ s - v) = true := decide_eq_true hs2.2
      have i4 : (0 : Int) ≤ s2 := hs2.1
      have i5 : decide ((0 : Int) ≤ s2) = true := decide_eq_true hs2.1
      have Hend := Lib.hid (show ∀ q, Calls Try.prog 24 #[] (w5.drewN q) fun e w' => e = .returned (.bool true) ∧ R (.returned (.bool true)) w' from fun q =>
          (lives_T w _ L c1 T1 _ (P5.out.below (Qt.below ⟨q, rfl⟩)).tc).mono fun e w' hh => ⟨hh.1, hR.out _ _ ⟨rfl, hh.2.bel⟩⟩)
      obtain ⟨r0, r1, r2, r3, r4⟩ := cells4 P5.out.x
      clear htt hj hv hvb hs2 hasg hsb
      go_wp2_with fail
      go_still_tail 25, (by kernel_rfl)
      go_wp2_with fail
      refine (Hend.out 1).mono ?_
      rintro e w8 ⟨rfl, h8⟩
      go_wp2
      exact h8
    · have Hno := Lib.hid hKL
      clear hKL
      go_wp2_with fail
      refine (best_noneT w A1 L c1 m T1 _ H2.out Hok.out Hno.out).mono ?_
      rintro e w4 ⟨rfl, h4⟩
      have hbx := below_new w4 (.cells #[.slice none 0 0, .slice none 0 0, .slice none 0 0, .int .i64 0] 28)
      have H4 := Lib.hid (h4.below hbx)
      clear h4 hbx
      go_wp2_with fail
      refine (Hwth.out _ H4.out).mono ?_
      rintro e w5 ⟨hcase, hb5⟩
      have H5 := Lib.hid (H4.out.below hb5)
      have Hend := Lib.hid ((lives_T w A1 L c1 T1 w5 H5.out).mono fun e w' hh => (⟨hh.1, hR.out _ _ ⟨rfl, hh.2.bel⟩⟩ : e = .returned (.bool true) ∧ R (.returned (.bool true)) w'))
      clear hb5
      obtain ⟨s, e0, rfl, he0⟩ : ∃ s e0, e = .returned (.tuple #[.int .i64 s, .int .i64 e0]) ∧ (e0 = 0 ∨ e0 = 6) := by
        rcases hcase with ⟨_, h2⟩ | ⟨_, ⟨_, h2⟩ | ⟨l', s', _, h2⟩⟩
        · exact ⟨_, _, h2, .inl rfl⟩
        · exact ⟨_, _, h2, .inr rfl⟩
        · exact ⟨_, _, h2, .inl rfl⟩
      clear hcase
      rcases he0 with rfl | rfl
      all_goals
        go_wp2_with fail
        refine Hend.out.mono ?_
        rintro e w8 ⟨rfl, h8⟩
        go_wp2
        exact h8
  · have hb' : tabB T1 = false := by simpa using hb
    have Hb := Lib.hid hb'
    clear hb hb'
    go_wp2_with fail
    refine (refCheck_noT w A1 L c1 T1 _ H1.out Hb.out).mono ?_
    rintro e w3 ⟨rfl, h3⟩
    go_wp2_with fail
    refine (lives_T w A1 L c1 T1 _ h3).mono ?_
    rintro e w8 ⟨rfl, h8⟩
    have Hf := Lib.hid (hR.out (.returned (.bool true)) w8 ⟨rfl, h8.bel⟩)
    clear h8 h3
    go_wp2
    exact Hf.out
end Go.Proofs.Ytjdhcdoekfikpaa
