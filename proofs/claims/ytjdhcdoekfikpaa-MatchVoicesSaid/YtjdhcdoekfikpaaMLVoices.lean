/-
  The contract of clavecinlaw05.MatchVoices: true at every input.
-/
import Derived.Test.YtjdhcdoekfikpaaMVoiceW
import Derived.Test.YtjdhcdoekfikpaaMLTables
namespace Go.Proofs.Ytjdhcdoekfikpaa
open Go.RowKit

set_option maxRecDepth 100000 in
set_option maxHeartbeats 8000000 in
theorem voices_any (A1 A2 : Option Addr) (n1 n2 c1 c2 : Nat) (js qs : List (Int × Int)) (be tr : Int) (w : World) (h1 : SlE prE 2 w A1 n1 js) (h2 : SlE prE 2 w A2 n2 qs) (hn1 : n1 ≤ c1) (hn2 : n2 ≤ c2) (hc1 : c1 ≤ 9223372036854775807) (hc2 : c2 ≤ 9223372036854775807) :
    Calls Try.prog 17 #[.agg #[.slice A1 n1 c1, .slice A2 n2 c2, .int .i64 be, .int .i64 tr]] w fun e w' => e = .returned (.bool true) ∧ Below w.heap.size w w' := by
  refine calls_cps ?_
  intro R hR
  obtain ⟨j1, hj1⟩ : ∃ l, js.take 66 = l := ⟨_, rfl⟩
  obtain ⟨q1, hq1⟩ : ∃ l, qs.take 66 = l := ⟨_, rfl⟩
  obtain ⟨k1, hk1⟩ : ∃ k, j1.length = k := ⟨_, rfl⟩
  obtain ⟨k2, hk2⟩ : ∃ k, q1.length = k := ⟨_, rfl⟩
  have hb1 : k1 ≤ 66 := by rw [← hk1, ← hj1, List.length_take]; omega
  have hb2 : k2 ≤ 66 := by rw [← hk2, ← hq1, List.length_take]; omega
  have hbl := below_new w (.cells #[.slice A1 n1 c1, .slice A2 n2 c2, .int .i64 be, .int .i64 tr] 56)
  obtain ⟨r0, r1, r2, r3, r4⟩ := cells4 (heap_alloc_new w (.cells #[.slice A1 n1 c1, .slice A2 n2 c2, .int .i64 be, .int .i64 tr] 56))
  have H1 := Lib.hid (h1.below hbl)
  have H2 := Lib.hid (h2.below hbl)
  have Hbl := Lib.hid hbl
  have Hj1 := Lib.hid hj1
  have Hq1 := Lib.hid hq1
  have Hk1 := Lib.hid hk1
  have Hk2 := Lib.hid hk2
  clear h1 h2 hbl hj1 hq1 hk1 hk2
  go_enter Try.func17, Try.ntmps17
  go_wp2_with fail
  refine (shop_any A1 A2 n1 n2 c1 c2 js qs be tr _ H1.out H2.out hn1 hn2 hc1 hc2).mono ?_
  rw [Hj1.out, Hq1.out, Hk1.out, Hk2.out]
  rintro e w1 ⟨B1, B2, d1, d2, rfl, ⟨s1, g1, u1⟩, ⟨s2, g2, u2⟩, hb⟩
  have hba := hb.trans ((below_new w1 (.cells #[.slice B1 k1 d1, .slice B2 k2 d2, .int .i64 be, .int .i64 tr] 56)).mono hb.size)
  have P1 := Lib.hid (show Sx w (w1.alloc (.cells #[.slice B1 k1 d1, .slice B2 k2 d2, .int .i64 be, .int .i64 tr] 56)) w1.heap.size B1 B2 k1 k2 d1 d2 j1 q1 be tr from
    ⟨heap_alloc_new w1 _, s1.below (below_new w1 _), s2.below (below_new w1 _), hb1, hb2, Hbl.out.trans (hba.mono Hbl.out.size)⟩)
  clear hb hba s1 s2 r0 r1 r2 r3 r4
  obtain ⟨r0, r1, r2, r3, r4⟩ := cells4 P1.out.x
  go_wp2_with fail
  refine (mVoice_any B1 B2 k1 k2 d1 d2 j1 q1 be tr _ P1.out.s1 P1.out.s2 (by omega) (by omega)).mono ?_
  rintro e w2 ⟨hcase, hb2'⟩
  have P2 := Lib.hid (P1.out.below hb2')
  clear r0 r1 r2 r3 r4 hb2'
  obtain ⟨r0, r1, r2, r3, r4⟩ := cells4 P2.out.x
  rcases hcase with ⟨hno, rfl⟩ | ⟨hyes, hbo, rfl⟩ | ⟨hyes, l, s, hbo, C1, e1, C2, e2, rfl, hsl, hso⟩
  · have Hno := Lib.hid hno
    clear hno
    go_wp2_with fail
    refine (refTable_any B1 B2 k1 k2 d1 d2 j1 q1 be tr _ P2.out.s1 P2.out.s2 (by omega) (by omega)).mono ?_
    rintro e w3 ⟨⟨_, rfl⟩ | ⟨hy, _⟩, hb3⟩
    rotate_left
    · rw [Hno.out] at hy; cases hy
    have P3 := Lib.hid (P2.out.below hb3)
    clear hb3 r0 r1 r2 r3 r4
    go_wp2_with fail
    refine (lives_any _).mono ?_
    rintro e w5 ⟨rfl, hb5⟩
    have Hf := Lib.hid (hR.out (.returned (.bool true)) w5 ⟨rfl, (P3.out.below hb5).bel⟩)
    clear hb5
    go_wp2
    exact Hf.out
  · have Hyes := Lib.hid hyes
    have hok := tbl_ok hyes
    obtain ⟨T, hT⟩ : ∃ T, tbl be tr j1 q1 = T := ⟨_, rfl⟩
    have hTl : T.length = k1 := by rw [← hT, tbl_len, Hk1.out]
    rw [hT, Hk2.out] at hok hbo
    have HKn := Lib.hid (show kuhn (gT T) k2 (List.range k1) ≠ k1 by have := (bestO_iff T k2).1 hbo; rwa [hTl] at this)
    have Hok := Lib.hid hok
    have HT := Lib.hid hT
    clear hyes hok hbo hT hTl
    go_wp2_with fail
    refine (refTable_any B1 B2 k1 k2 d1 d2 j1 q1 be tr _ P2.out.s1 P2.out.s2 (by omega) (by omega)).mono ?_
    rintro e w3 ⟨⟨hno, _⟩ | ⟨_, A', c', rfl, hs'⟩, hb3⟩
    · rw [Hyes.out] at hno; cases hno
    rw [HT.out] at hs'
    have P3 := Lib.hid (P2.out.below hb3)
    have Hs' := Lib.hid hs'
    clear hb3 hs' r0 r1 r2 r3 r4
    go_wp2_with fail
    refine (best_none A' k1 c' k2 T w3 Hs'.out Hok.out HKn.out).mono ?_
    rintro e w4 ⟨rfl, hb4⟩
    have P4 := Lib.hid (P3.out.below (hb4.trans ((below_new w4 (.cells #[.slice none 0 0, .slice none 0 0, .slice none 0 0, .int .i64 0] 28)).mono hb4.size)))
    clear hb4
    go_wp2_with fail
    refine (lives_any _).mono ?_
    rintro e w5 ⟨rfl, hb5⟩
    have Hf := Lib.hid (hR.out (.returned (.bool true)) w5 ⟨rfl, (P4.out.below hb5).bel⟩)
    clear hb5
    go_wp2
    exact Hf.out
  · have Hyes := Lib.hid hyes
    have hok := tbl_ok hyes
    obtain ⟨T, hT⟩ : ∃ T, tbl be tr j1 q1 = T := ⟨_, rfl⟩
    have hTl : T.length = k1 := by rw [← hT, tbl_len, Hk1.out]
    have Hoff := Lib.hid (show ∀ i, i < k1 → l.getD i 0 < k2 ∧ 0 ≤ offV j1 q1 l i from fun i hi => by
      rw [← Hk2.out]
      exact off_ok (bestO_some hbo).asg (by rw [Hk1.out]; exact hi))
    rw [hT, Hk2.out] at hok hbo
    have HK := Lib.hid (kuhn_of_best' hTl hbo)
    have Hok := Lib.hid hok
    have HT := Lib.hid hT
    have Hbo := Lib.hid hbo
    have Hsl := Lib.hid hsl
    have Hso := Lib.hid hso
    have Hq := Lib.hid (by
      have h := Hyes.out
      unfold tbOkB at h
      simp only [Bool.and_eq_true, List.all_eq_true] at h
      exact (⟨h.1.2, h.2⟩ : (∀ x ∈ j1, prOkB x = true) ∧ ∀ x ∈ q1, prOkB x = true))
    clear hyes hok hbo hT hTl hsl hso
    go_wp2_with fail
    refine (refTable_any B1 B2 k1 k2 d1 d2 j1 q1 be tr _ P2.out.s1 P2.out.s2 (by omega) (by omega)).mono ?_
    rintro e w3 ⟨⟨hno, _⟩ | ⟨_, A', c', rfl, hs'⟩, hb3⟩
    · rw [Hyes.out] at hno; cases hno
    rw [HT.out] at hs'
    have P3 := Lib.hid (P2.out.below hb3)
    have Hs' := Lib.hid hs'
    have Hsl3 := Lib.hid (Hsl.out.below hb3)
    have Hso3 := Lib.hid (Hso.out.below hb3)
    clear hb3 hs' r0 r1 r2 r3 r4
    go_wp2_with fail
    refine (best_yes A' k1 c' k2 T w3 Hs'.out Hok.out HK.out).mono ?_
    rintro e w4 ⟨D1, D2, D3, f1, f2, f3, l', s', lu, lv, rfl, hB, t1, _, _, _, _, _, _, _, _, hb4⟩
    have hh := bestO_eq hB.best
    rw [Hbo.out] at hh
    simp only [Option.some.injEq, Prod.mk.injEq] at hh
    obtain ⟨rfl, rfl⟩ := hh
    have hba := hb4.trans ((below_new w4 (.cells #[.slice D1 k1 f1, .slice D2 k1 f2, .slice D3 k2 f3, .int .i64 s] 28)).mono hb4.size)
    have P4 := Lib.hid (P3.out.below hba)
    have Hsl4 := Lib.hid (Hsl3.out.below hba)
    have Hso4 := Lib.hid (Hso3.out.below hba)
    have Ht4 := Lib.hid (t1.below (below_new w4 (.cells #[.slice D1 k1 f1, .slice D2 k1 f2, .slice D3 k2 f3, .int .i64 s] 28)))
    have Hm4 := Lib.hid (heap_alloc_new w4 (.cells #[.slice D1 k1 f1, .slice D2 k1 f2, .slice D3 k2 f3, .int .i64 s] 28))
    clear hb4 hba t1 hB
    obtain ⟨m0, m1, m2, m3, m4⟩ := cells4 Hm4.out
    obtain ⟨r0, r1, r2, r3, r4⟩ := cells4 P4.out.x
    go_wp2_with fail
    refine (same_any C1 D1 k1 e1 k1 f1 (castL l) (castL l) _ Hsl4.out Ht4.out (by omega) (by omega)).mono ?_
    rw [decide_eq_true rfl]
    rintro e w5 ⟨rfl, hq5⟩
    have P5 := Lib.hid (P4.out.below hq5.below)
    have Hsl5 := Lib.hid (Hsl4.out.below hq5.below)
    have Hso5 := Lib.hid (Hso4.out.below hq5.below)
    have Hm5 := Lib.hid ((hq5.below.block _ (Array.getElem?_eq_some_iff.1 Hm4.out).1).trans Hm4.out)
    clear hq5 r0 r1 r2 r3 r4 m0 m1 m2 m3 m4
    obtain ⟨m0, m1, m2, m3, m4⟩ := cells4 Hm5.out
    obtain ⟨r0, r1, r2, r3, r4⟩ := cells4 P5.out.x
    have v1 : (s != s) = false := by simp
    have v2 : ((k1 : Int) != (k1 : Int)) = false := by simp
    go_wp2_with fail
    refine (lives_any _).mono ?_
    rintro e w6 ⟨rfl, hb6⟩
    have P6 := Lib.hid (P5.out.below hb6)
    have Hsl6 := Lib.hid (Hsl5.out.below hb6)
    have Hso6 := Lib.hid (Hso5.out.below hb6)
    clear hb6 r0 r1 r2 r3 r4 m0 m1 m2 m3 m4 v1 v2
    go_wp2_with fail
    go_loopg [12] k1 (fun gk s12 wr => ∃ i : Nat, i + gk = k1 ∧ s12 = .int .i64 ((i : Nat) : Int) ∧ Qt w6 wr)
    case atStart => exact ⟨0, by omega, rfl, Qt.refl _⟩
    case round =>
      obtain ⟨i, hgk, rfl, hq⟩ := hrel
      obtain ⟨wi, rfl⟩ : ∃ wi : World, wi = wr := ⟨_, rfl⟩
      have P7 := Lib.hid (P6.out.below hq.below)
      by_cases hli : i < k1
      · obtain ⟨r0, r1, r2, r3, r4⟩ := cells4 P7.out.x
        obtain ⟨bt, ot, rfl, t0⟩ := cast_at2 (Hsl6.out.below hq.below) hli
        obtain ⟨hl1, hl2⟩ := Hoff.out i hli
        obtain ⟨bo, oo, x, rfl, _, hx, t1⟩ := (Hso6.out.below hq.below).at1 hli
        obtain ⟨bj, oj, jx, jy, rfl, _, hj, _, c1'⟩ := P7.out.s1.at2 hli
        obtain ⟨bq, oq, qx, qy, rfl, _, hqq, _, c2'⟩ := P7.out.s2.at2 hl1
        have hoff : offV j1 q1 l i = qy - jy := by
          unfold offV
          rw [List.getD_eq_getElem?_getD (l := q1), hqq, List.getD_eq_getElem?_getD (l := j1), hj]
          rfl
        have hx2 : x = qy - jy := by
          unfold offL at hx
          rw [List.getElem?_map, List.getElem?_range hli] at hx
          simp only [Option.map_some, Option.some.injEq] at hx
          rw [← hx, hoff]
        rw [hoff] at hl2
        subst hx2
        have hb5 := (prOkB_iff' (Hq.out.1 _ (List.mem_of_getElem? hj))).2
        have hb6 := (prOkB_iff' (Hq.out.2 _ (List.mem_of_getElem? hqq))).2
        obtain ⟨lc, hlc⟩ : ∃ lc, l.getD i 0 = lc := ⟨_, rfl⟩
        rw [hlc] at t0 hl1 c2'
        have i1 : (i : Int) < (k1 : Int) := by omega
        have i2 : (lc : Int) < (k2 : Int) := by omega
        have z1 : IntKind.i64.wrap (qy - jy) = qy - jy := IntWalk.i64_in _ (by omega)
        have v1 : decide ((lc : Int) < 0) = false := by simp
        have v2 : decide ((k2 : Int) ≤ (lc : Int)) = false := by simp; omega
        have v3 : decide (k2 ≤ lc) = false := by simp; omega
        have v4 : (qy - jy != qy - jy) = false := by simp
        have v5 : decide (qy - jy < 0) = false := by simp; omega
        have Hqi := Lib.hid hq
        clear hx hj hqq hoff hb5 hb6 hlc hl2 hq
        go_wp2_with fail
        go_quiet (fail)
        go_wp2_with fail
        go_roundg (gk - 1)
        case measure => omega
        case rel => exact ⟨i + 1, by omega, by go_num, Hqi.out.step _⟩
      · obtain rfl : i = k1 := by omega
        have Hf := Lib.hid (hR.out (.returned (.bool true)) wi ⟨rfl, P7.out.bel⟩)
        clear hq
        go_wp2
        exact Hf.out
end Go.Proofs.Ytjdhcdoekfikpaa
