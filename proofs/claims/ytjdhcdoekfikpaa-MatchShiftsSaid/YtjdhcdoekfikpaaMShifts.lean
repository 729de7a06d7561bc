/-
  The contract of clavecinlaw05.MatchShifts: true at every input.
-/
import Derived.Test.YtjdhcdoekfikpaaMForced
namespace Go.Proofs.Ytjdhcdoekfikpaa
open Go.RowKit

theorem tabL_idem {T : List (List Int)} {R C : Nat} : tabL R C (tabL R C T) = tabL R C T := by
  have h1 : ∀ r ∈ tabL R C T, r.take C = r := fun r hr => by
    obtain ⟨q, _, rfl⟩ := List.mem_map.1 hr
    rw [List.take_take, Nat.min_self]
  have h2 : (tabL R C T).take R = tabL R C T := List.take_of_length_le (by rw [tabL_len]; omega)
  unfold tabL at h1 h2 ⊢
  rw [h2]
  exact (List.map_congr_left h1).trans (List.map_id _)
theorem and1023 (x : Int) : 0 ≤ bits BinOp.and IntKind.i64 x 1023 ∧ bits BinOp.and IntKind.i64 x 1023 ≤ 1023 := by
  have h2 : (BitVec.ofInt 64 (1023 : Int)).toNat = 1023 := by decide
  have h3 : bits BinOp.and IntKind.i64 x 1023 = (((BitVec.ofInt 64 x).toNat % 1024 : Nat) : Int) := by
    show IntKind.i64.wrap ((BitVec.ofInt 64 x &&& BitVec.ofInt 64 (1023 : Int)).toNat : Int) = _
    rw [BitVec.toNat_and, h2, Nat.and_two_pow_sub_one_eq_mod _ 10]
    exact IntWalk.i64_in _ (by omega)
  rw [h3]
  omega
/-- What becomes of the row: a constant more where there was a cost. -/
def shp (T : List (List Int)) (L m r j : Nat) (by_ : Int) (f : Nat → Nat → Int) : Prop := (∀ a, a < L → ∀ b, b < m → f a b = if (a = r ∧ b < j) ∧ 0 ≤ ct T a b then ct T a b + by_ else ct T a b) ∧ ∀ b, b < j → ct T r b ≤ 999998976
theorem shp_start (T : List (List Int)) (L m r : Nat) (by_ : Int) : shp T L m r 0 by_ (ct T) := ⟨fun a _ b _ => by rw [if_neg]; rintro ⟨⟨_, h⟩, _⟩; omega, fun b hb => by omega⟩
theorem shp_at {T : List (List Int)} {L m r j : Nat} {by_ : Int} {f : Nat → Nat → Int} (h : shp T L m r j by_ f) (hr : r < L) (hj : j < m) : f r j = ct T r j := by
  rw [h.1 r hr j hj, if_neg]; rintro ⟨⟨_, h⟩, _⟩; omega
theorem shp_keep {T : List (List Int)} {L m r j : Nat} {by_ : Int} {f : Nat → Nat → Int} (h : shp T L m r j by_ f) (hb : ct T r j ≤ 999998976) (hn : ¬ 0 ≤ ct T r j) : shp T L m r (j + 1) by_ f := by
  refine ⟨fun a ha b hb => ?_, fun b hb' => ?_⟩
  · rw [h.1 a ha b hb]
    by_cases c : (a = r ∧ b < j) ∧ 0 ≤ ct T a b
    · rw [if_pos c, if_pos ⟨⟨c.1.1, by omega⟩, c.2⟩]
    · rw [if_neg c, if_neg]
      rintro ⟨⟨rfl, h2⟩, h3⟩
      by_cases e : b = j
      · subst e; exact hn h3
      · exact c ⟨⟨rfl, by omega⟩, h3⟩
  · by_cases e : b = j
    · subst e; exact hb
    · exact h.2 b (by omega)
theorem shp_put {T : List (List Int)} {L m r j : Nat} {by_ : Int} {f : Nat → Nat → Int} (h : shp T L m r j by_ f) (hb : ct T r j ≤ 999998976) (hn : 0 ≤ ct T r j) {x : Int} (hx : x = ct T r j + by_) : shp T L m r (j + 1) by_ (fun a b => if a = r ∧ b = j then x else f a b) := by
  refine ⟨fun a ha b hb => ?_, fun b hb' => ?_⟩
  · show (if a = r ∧ b = j then x else f a b) = _
    by_cases e : a = r ∧ b = j
    · obtain ⟨rfl, rfl⟩ := e
      rw [if_pos ⟨rfl, rfl⟩, if_pos ⟨⟨rfl, by omega⟩, hn⟩, hx]
    · rw [if_neg e, h.1 a ha b hb]
      by_cases c : (a = r ∧ b < j) ∧ 0 ≤ ct T a b
      · rw [if_pos c, if_pos ⟨⟨c.1.1, by omega⟩, c.2⟩]
      · rw [if_neg c, if_neg]
        rintro ⟨⟨rfl, h2⟩, h3⟩
        by_cases e2 : b = j
        · exact e ⟨rfl, e2⟩
        · exact c ⟨⟨rfl, by omega⟩, h3⟩
  · by_cases e : b = j
    · subst e; exact hb
    · exact h.2 b (by omega)
theorem shp_end {T : List (List Int)} {L m r : Nat} {by_ : Int} {f : Nat → Nat → Int} (h : shp T L m r m by_ f) : ∀ i k, i < L → k < m → f i k = if i = r ∧ 0 ≤ ct T i k then ct T i k + by_ else ct T i k := fun i k hi hk => by
  rw [h.1 i hi k hk]
  by_cases c : (i = r ∧ k < m) ∧ 0 ≤ ct T i k
  · rw [if_pos c, if_pos ⟨c.1.1, c.2⟩]
  · rw [if_neg c, if_neg (fun hh => c ⟨⟨hh.1, hk⟩, hh.2⟩)]
theorem shp_bd {T : List (List Int)} {L m r : Nat} {by_ : Int} {f : Nat → Nat → Int} (h : shp T L m r m by_ f) (h0 : 0 ≤ by_) (h1 : by_ ≤ 1023) (hc : ∀ a b, a < L → b < m → -1 ≤ ct T a b ∧ ct T a b ≤ 1000000000) : ∀ a, a < L → ∀ b, b < m → -1 ≤ f a b ∧ f a b ≤ 1000000000 := fun a ha b hb => by
  rw [h.1 a ha b hb]
  split
  · rename_i c
    obtain ⟨⟨rfl, _⟩, _⟩ := c
    have := h.2 b hb
    omega
  · exact hc a b ha hb
set_option maxRecDepth 100000 in
set_option maxHeartbeats 8000000 in
theorem shifts_any (A : Option Addr) (n c : Nat) (T : List (List Int)) (row by_ : Int) (w : World) (hT : SlRc w A n T) (hn : n ≤ 9223372036854775807) :
    Calls Try.prog 8 #[.slice A n c, .int .i64 row, .int .i64 by_] w fun e w' => e = .returned (.bool true) ∧ Below w.heap.size w w' := by
  refine calls_cps ?_
  intro R hR
  obtain ⟨T1, hT1⟩ : ∃ T1, tabL 30 33 T = T1 := ⟨_, rfl⟩
  obtain ⟨L, hL⟩ : ∃ L, T1.length = L := ⟨_, rfl⟩
  have HT1 := Lib.hid hT1
  have HL := Lib.hid hL
  have HT := Lib.hid hT
  have HTT := Lib.hid (show tabL 30 33 T1 = T1 by rw [← hT1]; exact tabL_idem)
  clear hT1 hL hT
  go_enter Try.func8, Try.ntmps8
  go_wp2_with fail
  refine (table_tc A n c T _ _ 30 33 rfl rfl (by omega) (by omega) _ HT.out hn).mono ?_
  rw [HT1.out, HL.out]
  rintro e w1 ⟨A1, c1, rfl, h1⟩
  have H1 := Lib.hid h1
  clear h1
  by_cases hb : tabB T1 = true
  · obtain ⟨m, hok⟩ := tok_of hb
    have Hok := Lib.hid hok
    have Hb := Lib.hid hb
    have hL64 : L ≤ 64 := by rw [← HL.out]; exact Nat.le_trans hok.nm hok.m64
    have hL1 : 1 ≤ L := by rw [← HL.out]; exact hok.n1
    have hLm : L ≤ m := by rw [← HL.out]; exact hok.nm
    have hm64 := hok.m64
    have HF := Lib.hid (show tabF L m (ct T1) = T1 by rw [← HL.out]; exact tabF_self hok.rect)
    clear hok hb
    go_wp2_with fail
    refine (refCheck_any A1 L c1 T1 _ H1.out.rc.slr (by omega) H1.out.rc.rowle).mono ?_
    rw [if_pos Hb.out]
    rintro e w2 ⟨rfl, hq2⟩
    have H2 := Lib.hid (H1.out.qt hq2)
    clear hq2
    obtain ⟨r, k, hr1, hr2, hr3, hr4, hr5, hk⟩ := row_mod row hL1
    have hL0 : (0 : Int) < (L : Int) := by omega
    have hL00 : ¬ (L : Int) = 0 := by omega
    obtain ⟨y, hy, hy1, hy2⟩ : ∃ y, bits BinOp.and IntKind.i64 by_ 1023 = y ∧ 0 ≤ y ∧ y ≤ 1023 := ⟨_, rfl, (and1023 by_).1, (and1023 by_).2⟩
    go_wp2_with fail
    try rw [hr5]
    clear hr1 hr2 hr3 hr4 hr5 hy
    refine (table_tm A1 L c1 T1 _ _ 30 33 rfl rfl (by omega) (by omega) _ H2.out.rc (by omega)).mono ?_
    rw [HTT.out, HL.out]
    rintro e w3 ⟨A3, c3, hd, rfl, htm, _, _, hb3⟩
    have H3 := Lib.hid (H2.out.below hb3)
    have hsz3 := hb3.size
    obtain ⟨S, hS⟩ : ∃ S : Nat → Prop, (fun j => w2.heap.size ≤ j ∧ j < w3.heap.size) = S := ⟨_, rfl⟩
    have HSlo := Lib.hid (show ∀ j, S j → w2.heap.size ≤ j from fun j hj => by rw [← hS] at hj; exact hj.1)
    rw [hS, ← HF.out] at htm
    have HM := Lib.hid htm
    have HC := Lib.hid (show ∀ W, Kx S w3 W → Tc w W A1 L c1 T1 from fun W hkx => H2.out.below (Kx.low hb3 hkx HSlo.out hb3.size))
    have Hend := Lib.hid (show ∀ W, Kx S w3 W → Calls Try.prog 24 #[] W fun e w' => e = .returned (.bool true) ∧ R (.returned (.bool true)) w' from fun W hkx => (lives_T w _ L c1 T1 _ (HC.out W hkx)).mono fun e w' hh => ⟨hh.1, hR.out _ _ ⟨rfl, hh.2.bel⟩⟩)
    clear hS htm hb3
    go_wp2_with fail
    go_loopg [9] m (fun gk s9 wr => ∃ (j : Nat) (f : Nat → Nat → Int), j + gk = m ∧ s9 = .int .i64 ((j : Nat) : Int) ∧ TM wr S A3 L c3 (tabF L m f) hd ∧ Kx S w3 wr ∧ Hid (shp T1 L m k j y f))
    case atStart => exact ⟨0, ct T1, by omega, rfl, HM.out, Kx.refl _ _, Lib.hid (shp_start _ _ _ _ _)⟩
    case round =>
      obtain ⟨j, f, hgj, rfl, hM, hkx, Hf⟩ := hrel
      obtain ⟨wj, rfl⟩ : ∃ wj : World, wj = wr := ⟨_, rfl⟩
      have Hkj := Lib.hid hkx
      clear hkx
      have i2 : (k : Int) < (L : Int) := by omega
      by_cases hlj : j < m
      · obtain ⟨b, g, ci, rfl, hPb, hPg, hc1, hc2, hfz, hset⟩ := hM.setF hk hlj
        have hfe := shp_at Hf.out hk hlj
        obtain ⟨v, hv⟩ : ∃ v, ct T1 k j = v := ⟨_, rfl⟩
        rw [hfe, hv] at hc2
        have hvb := Hok.out.costOk k j (by rw [HL.out]; exact hk) hlj
        rw [hv] at hvb
        have i3 : (j : Int) < (m : Int) := by omega
        have Hv := Lib.hid hv
        have HMk := Lib.hid hM
        have Hset := Lib.hid hset
        clear hfe hv hset hM
        by_cases hbig : 999998976 < v
        · clear hvb
          go_wp2_with fail
          refine (Hend.out _ Hkj.out).mono ?_
          rintro e w8 ⟨rfl, h8⟩
          go_wp2
          exact h8
        · have hle : v ≤ 999998976 := by omega
          by_cases h0 : 0 ≤ v
          · obtain ⟨hMs, hKs⟩ := Hset.out (v + y)
            have HMs := Lib.hid hMs
            have HfN := Lib.hid (shp_put Hf.out (by rw [Hv.out]; exact hle) (by rw [Hv.out]; exact h0) (x := v + y) (by rw [Hv.out]))
            have HKN := Lib.hid (Hkj.out.trans hKs (fun _ _ h => h))
            clear hMs hKs hbig hvb
            go_wp2_with fail
            go_roundg (gk - 1)
            case measure => omega
            case rel => exact ⟨j + 1, _, by omega, by go_num, HMs.out, HKN.out, HfN⟩
          · have h1 : v < 0 := by omega
            have HfN := Lib.hid (shp_keep Hf.out (by rw [Hv.out]; exact hle) (by rw [Hv.out]; exact h0))
            clear h0 hbig hvb
            go_wp2_with fail
            go_roundg (gk - 1)
            case measure => omega
            case rel => exact ⟨j + 1, f, by omega, by go_num, HMk.out, Hkj.out, HfN⟩
      · obtain rfl : j = m := by omega
        obtain ⟨b, g, ci, rfl, hPb, hPg, hc1, hc2, hfz, hset⟩ := hM.setF (j := 0) hk (by omega)
        have hend := shp_end Hf.out
        have hok2 : TOk (tabF L j f) j := tok_tabF hL1 hLm hm64 (shp_bd Hf.out hy1 hy2 (fun a b ha hb => Hok.out.costOk a b (by rw [HL.out]; exact ha) hb))
        obtain ⟨T2, hT2⟩ : ∃ T2, tabF L j f = T2 := ⟨_, rfl⟩
        have Hlen2 := Lib.hid (show T2.length = L by rw [← hT2, tabF_len])
        have Hlaw := Lib.hid (show bestO T2 j = (bestO T1 j).map fun x => (x.1, x.2 + y) from by
          refine shifts_law (r := k) (by rw [← hT2, tabF_len, HL.out]) (by rw [HL.out]; exact hk) hy1 (fun a b ha hb => ?_)
          rw [HL.out] at ha
          rw [← hT2, ct_tabF ha hb]
          exact hend a b ha hb)
        rw [hT2] at hok2 hM
        have Hok2 := Lib.hid hok2
        have Hs2 := Lib.hid hM.slr
        have HC4 := Lib.hid (HC.out _ Hkj.out)
        clear hset hend hok2 hT2 hM hgj hc2 hfz
        by_cases hKL : kuhn (gT T1) j (List.range L) = L
        · have Hyes := Lib.hid hKL
          clear hKL
          go_wp2_with fail
          refine (best_yes A1 L c1 j T1 _ HC4.out.rc.slr Hok.out Hyes.out).mono ?_
          rintro e w6 ⟨B1, B2, B3, d1, d2, d3, l, s, lu, lv, rfl, hB, s1, s2, s3, k1, k2, k3, e1, e2, e3, hb6⟩
          have P6 := Lib.hid (Bx.new (s := s) (HC4.out.below hb6) ⟨s1, s2, s3, k1, k2, k3, e1, e2, e3⟩)
          have Hs6 := Lib.hid ((Hs2.out.below hb6).below (below_new w6 (.cells #[.slice B1 L d1, .slice B2 L d2, .slice B3 j d3, .int .i64 s] 28)))
          have hl2 := Hlaw.out
          rw [bestO_eq hB.best] at hl2
          simp only [Option.map_some] at hl2
          have Hl2 := Lib.hid hl2
          have hsb : 0 ≤ s ∧ s ≤ 64000000000 := by
            have h5 := totS_bd Hok.out (Nat.le_refl _) (prOk_bst hB).1.2
            rw [totS_asg hB.best.asg, hB.best.cost, HL.out] at h5
            omega
          have HKL2 := Lib.hid (show kuhn (gT T2) j (List.range L) = L from by
            by_cases h : kuhn (gT T2) j (List.range L) = L
            · exact h
            · have := (bestO_iff T2 j).2 (by rw [Hlen2.out]; exact h)
              rw [this] at hl2; cases hl2)
          clear hb6 hB s1 s2 s3 k1 k2 k3 e1 e2 e3 hl2
          go_wp2_with fail
          refine (best_yes (some ⟨b, 0, none⟩) L c3 j T2 _ Hs6.out Hok2.out HKL2.out).mono ?_
          rintro e w7 ⟨C1, C2, C3, f1, f2, f3, l2, s2, lu2, lv2, rfl, hB2, t1, _, _, _, _, _, _, _, _, hb7⟩
          have hh := bestO_eq hB2.best
          rw [Hl2.out] at hh
          simp only [Option.some.injEq, Prod.mk.injEq] at hh
          obtain ⟨rfl, rfl⟩ := hh
          have hba := hb7.trans ((below_new w7 (.cells #[.slice C1 L f1, .slice C2 L f2, .slice C3 j f3, .int .i64 (s + y)] 28)).mono hb7.size)
          have P7 := Lib.hid (P6.out.below hba)
          have hx7 := heap_alloc_new w7 (.cells #[.slice C1 L f1, .slice C2 L f2, .slice C3 j f3, .int .i64 (s + y)] 28)
          have Ht1 := Lib.hid (t1.below (below_new w7 (.cells #[.slice C1 L f1, .slice C2 L f2, .slice C3 j f3, .int .i64 (s + y)] 28)))
          clear hb7 hB2 hba t1
          obtain ⟨r0, r1, r2, r3, r4⟩ := cells4 P7.out.x
          obtain ⟨q0, q1, q2, q3, q4⟩ := cells4 hx7
          have z1 : IntKind.i64.wrap (s + y) = s + y := IntWalk.i64_in _ (by omega)
          have g1 : (s + y == s + y) = true := by simp
          clear hx7 hc1
          go_wp2_with fail
          refine (same_any B1 C1 L d1 L f1 (castL l) (castL l) _ P7.out.mm.s1 Ht1.out (by omega) (by omega)).mono ?_
          rw [decide_eq_true rfl]
          rintro e w8 ⟨rfl, hq8⟩
          have P8 := Lib.hid (P7.out.below hq8.below)
          clear hq8 r0 r1 r2 r3 r4 q0 q1 q2 q3 q4 g1
          go_wp2_with fail
          refine (lives_T w A1 L c1 T1 _ P8.out.tc).mono ?_
          rintro e w9 ⟨rfl, h9⟩
          have Hf := Lib.hid (hR.out (.returned (.bool true)) w9 ⟨rfl, h9.bel⟩)
          clear h9
          go_wp2
          exact Hf.out
        · have Hno := Lib.hid hKL
          clear hKL
          have Hno2 := Lib.hid (show kuhn (gT T2) j (List.range L) ≠ L from by
            have h := Hlaw.out
            rw [(bestO_iff T1 j).2 (by rw [HL.out]; exact Hno.out)] at h
            have := (bestO_iff T2 j).1 h
            rwa [Hlen2.out] at this)
          go_wp2_with fail
          refine (best_none A1 L c1 j T1 _ HC4.out.rc.slr Hok.out Hno.out).mono ?_
          rintro e w6 ⟨rfl, hb6⟩
          have hba := hb6.trans ((below_new w6 (.cells #[.slice none 0 0, .slice none 0 0, .slice none 0 0, .int .i64 0] 28)).mono hb6.size)
          have H6 := Lib.hid (HC4.out.below hba)
          have Hs6 := Lib.hid (Hs2.out.below hba)
          clear hb6 hba hc1
          go_wp2_with fail
          refine (best_none (some ⟨b, 0, none⟩) L c3 j T2 _ Hs6.out Hok2.out Hno2.out).mono ?_
          rintro e w7 ⟨rfl, hb7⟩
          have H7 := Lib.hid (H6.out.below (hb7.trans ((below_new w7 (.cells #[.slice none 0 0, .slice none 0 0, .slice none 0 0, .int .i64 0] 28)).mono hb7.size)))
          clear hb7
          go_wp2_with fail
          refine (lives_T w A1 L c1 T1 _ H7.out).mono ?_
          rintro e w8 ⟨rfl, h8⟩
          have Hf := Lib.hid (hR.out (.returned (.bool true)) w8 ⟨rfl, h8.bel⟩)
          clear h8
          go_wp2
          exact Hf.out
  · have hb' : tabB T1 = false := by simpa using hb
    have Hb := Lib.hid hb'
    clear hb hb'
    go_wp2_with fail
    refine (refCheck_noT w A1 L c1 T1 _ H1.out Hb.out).mono ?_
    rintro e w3 ⟨rfl, h3⟩
    go_wp2_with fail
    refine (lives_T w A1 L c1 T1 _ h3).mono ?_
    rintro e w8 ⟨rfl, h8⟩
    have Hf := Lib.hid (hR.out (.returned (.bool true)) w8 ⟨rfl, h8.bel⟩)
    clear h8 h3
    go_wp2
    exact Hf.out
end Go.Proofs.Ytjdhcdoekfikpaa
