/-
  The contract of clavecinlaw05.MatchColumns: true at every input.
-/
import Derived.Test.YtjdhcdoekfikpaaMColumns
namespace Go.Proofs.Ytjdhcdoekfikpaa
open Go.RowKit

set_option maxRecDepth 100000 in
set_option maxHeartbeats 8000000 in
theorem columns_any (A : Option Addr) (n c : Nat) (T : List (List Int)) (Al : Option Addr) (nl cl : Nat) (lm : List Int) (p0 p1 p2 : Int) (w : World) (hT : SlRc w A n T) (hn : n ≤ 9223372036854775807) (hA : SlE intE 1 w Al nl lm) (hnl : nl ≤ 9223372036854775807) :
    Calls Try.prog 7 #[.slice A n c, .slice Al nl cl, .agg #[.int .i64 p0, .int .i64 p1, .int .i64 p2]] w fun e w' => e = .returned (.bool true) ∧ Below w.heap.size w w' := by
  refine calls_cps ?_
  intro R hR
  obtain ⟨T1, hT1⟩ : ∃ T1, tabL 30 33 T = T1 := ⟨_, rfl⟩
  obtain ⟨L, hL⟩ : ∃ L, T1.length = L := ⟨_, rfl⟩
  have hm33 : ∀ x ∈ T1, x.length ≤ 33 := fun x hx => by
    rw [← hT1] at hx
    obtain ⟨r, _, rfl⟩ := List.mem_map.1 hx
    rw [List.length_take]; omega
  have HT1 := Lib.hid hT1
  have HL := Lib.hid hL
  have HTT := Lib.hid (show tabL 30 33 T1 = T1 by rw [← hT1]; exact tabL_idem)
  have Hm33 := Lib.hid hm33
  obtain ⟨w0, hw0⟩ : ∃ w0, w.alloc (.cells #[.int .i64 p0, .int .i64 p1, .int .i64 p2] 47) = w0 := ⟨_, rfl⟩
  obtain ⟨pb, hpb⟩ : ∃ pb, w.heap.size = pb := ⟨_, rfl⟩
  have hbl := below_new w (.cells #[.int .i64 p0, .int .i64 p1, .int .i64 p2] 47)
  have hxp := heap_alloc_new w (.cells #[.int .i64 p0, .int .i64 p1, .int .i64 p2] 47)
  rw [hw0] at hbl hxp
  rw [hpb] at hxp
  have HT := Lib.hid (hT.below hbl)
  have HA := Lib.hid (hA.below hbl)
  have HXp := Lib.hid hxp
  have Hbl := Lib.hid hbl
  have Hw0 := Lib.hid hw0
  have Hpb := Lib.hid hpb
  clear hT1 hL hT hA hm33 hw0 hpb hbl hxp
  go_enter Try.func7, Try.ntmps7
  go_wp2_with fail
  rw [Hw0.out, Hpb.out]
  refine (table_tc A n c T _ _ 30 33 rfl rfl (by omega) (by omega) _ HT.out hn).mono ?_
  rw [HT1.out, HL.out]
  rintro e w1 ⟨A1, c1, rfl, h1⟩
  have H1 := Lib.hid h1
  clear h1
  have Hfin := Lib.hid (show ∀ W, Below w0.heap.size w0 W → R (.returned (.bool true)) W from fun W hb => hR.out _ _ ⟨rfl, Hbl.out.trans (hb.mono Hbl.out.size)⟩)
  by_cases hb : tabB T1 = true
  · obtain ⟨m, hok⟩ := tok_of hb
    have Hok := Lib.hid hok
    have Hb := Lib.hid hb
    have hL64 : L ≤ 64 := by rw [← HL.out]; exact Nat.le_trans hok.nm hok.m64
    have hL1 : 1 ≤ L := by rw [← HL.out]; exact hok.n1
    have hLm : L ≤ m := by rw [← HL.out]; exact hok.nm
    have hm33 : m ≤ 33 := by
      have h0 : 0 < T1.length := hok.n1
      rw [← hok.rect _ (List.getElem_mem h0)]
      exact Hm33.out _ (List.getElem_mem h0)
    have HF := Lib.hid (show tabF L m (ct T1) = T1 by rw [← HL.out]; exact tabF_self hok.rect)
    clear hok hb
    go_wp2_with fail
    refine (refCheck_any A1 L c1 T1 _ H1.out.rc.slr (by omega) H1.out.rc.rowle).mono ?_
    rw [if_pos Hb.out]
    rintro e w2 ⟨rfl, hq2⟩
    have H2 := Lib.hid (H1.out.qt hq2)
    clear hq2
    by_cases hKL : kuhn (gT T1) m (List.range L) = L
    · have Hyes := Lib.hid hKL
      clear hKL
      go_wp2_with fail
      refine (best_yesT w0 A1 L c1 m T1 _ H2.out Hok.out Hyes.out).mono ?_
      rintro e w3 ⟨B1, B2, B3, d1, d2, d3, l, s, lu, lv, rfl, hB, hM, h3⟩
      have P3 := Lib.hid (Bx.new (s := s) h3 hM)
      have HB := Lib.hid hB.best
      obtain ⟨gb, hgb⟩ : ∃ gb, w3.heap.size = gb := ⟨_, rfl⟩
      have Hgb := Lib.hid hgb
      rw [hgb] at P3
      obtain ⟨w4, hw4⟩ : ∃ w4, w3.alloc (.cells #[.slice B1 L d1, .slice B2 L d2, .slice B3 m d3, .int .i64 s] 28) = w4 := ⟨_, rfl⟩
      rw [hw4] at P3
      have Hw4 := Lib.hid hw4
      clear h3 hM hB hgb hw4
      go_wp2_with fail
      rw [Hw4.out, Hgb.out]
      refine (table_tm A1 L c1 T1 _ _ 30 33 rfl rfl (by omega) (by omega) _ P3.out.tc.rc (by omega)).mono ?_
      rw [HTT.out, HL.out]
      rintro e w5 ⟨A5, c5, hd5, rfl, htm5, _, _, hb5⟩
      have P5 := Lib.hid (P3.out.below hb5)
      have HM5 := Lib.hid htm5
      have hsz5 := hb5.size
      have hb5' := hb5
      have Hb5 := Lib.hid hb5'
      clear htm5 hb5 hb5'
      go_wp2_with fail
      refine (table_tm A1 L c1 T1 _ _ 30 33 rfl rfl (by omega) (by omega) _ P5.out.tc.rc (by omega)).mono ?_
      rw [HTT.out, HL.out]
      rintro e w6 ⟨A6, c6, hd6, rfl, htm6, _, _, hb6⟩
      have P6 := Lib.hid (P5.out.below hb6)
      have hsz6 := hb6.size
      obtain ⟨S1, hS1⟩ : ∃ S : Nat → Prop, (fun j => (w4.heap.size ≤ j ∧ j < w5.heap.size) ∨ w6.heap.size ≤ j) = S := ⟨_, rfl⟩
      obtain ⟨S2, hS2⟩ : ∃ S : Nat → Prop, (fun j => w5.heap.size ≤ j ∧ j < w6.heap.size) = S := ⟨_, rfl⟩
      have HM6 := Lib.hid (show TM w6 S1 A5 L c5 T1 hd5 from (HM5.out.below hb6).mono (fun j hj => by rw [← hS1]; exact .inl hj))
      have HN6 := Lib.hid (show TM w6 S2 A6 L c6 (tabF L m (ct T1)) hd6 from by rw [HF.out, ← hS2]; exact htm6)
      have HS1 := Lib.hid (show ∀ j, S1 j ↔ (w4.heap.size ≤ j ∧ j < w5.heap.size) ∨ w6.heap.size ≤ j from fun j => by rw [← hS1])
      have HS2 := Lib.hid (show ∀ j, S2 j ↔ w5.heap.size ≤ j ∧ j < w6.heap.size from fun j => by rw [← hS2])
      have Hb6 := Lib.hid hb6
      clear hS1 hS2 htm6 hb6
      -- what stays while the wide table grows
      have HK := Lib.hid (show ∀ W, Kx S1 w6 W → Below w4.heap.size w4 W ∧ Bx w0 W A1 L c1 T1 gb m B1 B2 B3 d1 d2 d3 l lu lv s ∧ SlE intE 1 W Al nl lm ∧ W.heap[pb]? = some (.cells #[.int .i64 p0, .int .i64 p1, .int .i64 p2] 47 (0, 0)) ∧ TM W S2 A6 L c6 (tabF L m (ct T1)) hd6 from fun W hk => by
        have hb46 : Below w4.heap.size w4 w6 := Hb5.out.trans (Hb6.out.mono hsz5)
        have hb4 : Below w4.heap.size w4 W := Kx.low hb46 hk (fun j hj => by rcases (HS1.out j).1 hj with h | h <;> omega) hb46.size
        have hP := P3.out.below hb4
        refine ⟨hb4, hP, HA.out.below hP.tc.bel, (hP.tc.bel.block pb (Array.getElem?_eq_some_iff.1 HXp.out).1).trans HXp.out, HN6.out.kx hk (fun j hj h => ?_)⟩
        have h2 := (HS2.out j).1 hj
        rcases (HS1.out j).1 h with h | h <;> omega)
      go_wp2_with fail
      go_loopg [12, 13] L (fun gk s12 s13 wr => ∃ (i : Nat) (hd : List Value), i + gk = L ∧ s12 = .int .i64 ((i : Nat) : Int) ∧ TM wr S1 A5 L c5 (wdL T1 L (newV lm) i) hd ∧ Kx S1 w6 wr)
      case atStart => exact ⟨0, hd5, by omega, rfl, by rw [wdL_zero HL.out]; exact HM6.out, Kx.refl _ _⟩
      case round =>
        obtain ⟨i, hd, hgi, rfl, hM, hkx⟩ := hrel
        obtain ⟨wi, rfl⟩ : ∃ wi : World, wi = wr := ⟨_, rfl⟩
        have Hki := Lib.hid hkx
        obtain ⟨hk1, hk2, hk3, hk4, hk5⟩ := HK.out wi hkx
        clear hkx
        by_cases hiL : i < L
        · obtain ⟨b, rr, Ai, ci, rfl, hPb, hr, hh, hcell, hown⟩ := hM.at_ hiL
          have hrr := wdL_at (T := T1) (newV lm) hiL
          rw [hr] at hrr
          injection hrr with hrr
          have hlr : rr.length = m := by
            rw [hrr, getD_get _ _ _ (show i < T1.length by rw [HL.out]; exact hiL)]
            exact Hok.out.rect _ (List.getElem_mem _)
          have Happ := Lib.hid (fun (A2 : Option Addr) (c2 : Nat) (v : Int) (W1 W2 : World) => hM.app (A2 := A2) (c2 := c2) (W1 := W1) (W2 := W2) rfl hr hh v)
          have Hck := Lib.hid (fun (W2 : World) (v : Int) => hM.cellKept (W1 := wi.alloc (.cells #[.int .i64 v] 3)) (W2 := W2) rfl hr hh (below_new wi _))
          rw [hlr] at hcell hown Happ Hck
          have Hown := Lib.hid hown
          have Hset := Lib.hid (show (wdL T1 L (newV lm) i).set i (rr ++ [newV lm i]) = wdL T1 L (newV lm) (i + 1) by rw [hrr]; exact wdL_set _ hiL)
          have hS1n := Lib.hid (show ∀ j, wi.heap.size ≤ j → S1 j from fun j hj => (HS1.out j).2 (.inr (Nat.le_trans Hki.out.size hj)))
          have i2 : (i : Int) < (L : Int) := by omega
          obtain ⟨v, hv⟩ : ∃ v, newV lm i = v := ⟨_, rfl⟩
          have Hv := Lib.hid hv
          have hvb := newV_bd lm i
          rw [hv] at hvb Hset
          have e1 := hvb.1
          have e2 := hvb.2
          have Hm3 := Lib.hid hk3
          clear hM hr hh hrr hlr hown hvb hv hk1 hk2 hk3 hk4 hk5
          by_cases him : i < nl
          · obtain ⟨bm, om, x, rfl, _, hx, qx⟩ := Hm3.out.at1 him
            have hxv : bits BinOp.and IntKind.i64 x 1023 = v + 1 := by
              have h := Hv.out
              unfold newV at h
              rw [hx] at h
              dsimp only at h
              omega
            have i3 : (i : Int) < (nl : Int) := by omega
            clear hx
            go_wp2_with (at_builtin; refine wpList_app rfl (.tmp 63) (.tmp 65) _ rfl elemInt 0 _ _ _ rfl (Hown.out.kept (World.grownBy_alloc wi _ none) (by cases (Value.slice Ai m ci).ownBlock <;> simp)) _ _ _ _ rfl (Sl.new _ _ _ 1 1 rfl) (by simp [Value.oneCell']) (by unfold maxLen; omega) (by omega) (by omega) ?_; intro A2 c2 w2 ho2 hg2 hor2; obtain ⟨ck1, ck2⟩ := Hck.out w2 v hg2; have HA2 := Lib.hid (Happ.out A2 c2 v (wi.alloc (.cells #[.int .i64 v] 3)) w2 (below_new wi _) ho2 hg2 hor2 hS1n.out); clear ho2 hg2 hor2)
            have HA3 := Lib.hid (show TM (w2.setCell ⟨b, i, none⟩ (.slice A2 (m + 1) c2)) S1 (some ⟨b, 0, none⟩) L c5 (wdL T1 L (newV lm) (i + 1)) (hd.set i (.slice A2 (m + 1) c2)) from by rw [← Hset.out]; exact HA2.out.1)
            have HK3 := Lib.hid (Hki.out.trans HA2.out.2 (fun _ _ h => h))
            go_roundg (gk - 1)
            case measure => omega
            case rel => exact ⟨i + 1, _, by omega, by go_num, HA3.out, HK3.out⟩
          · have i3 : (nl : Int) ≤ (i : Int) := by omega
            have hv1 : v = -1 := by
              have h := Hv.out
              unfold newV at h
              rw [List.getElem?_eq_none (by rw [← Hm3.out.1]; omega)] at h
              exact h.symm
            subst hv1
            go_wp2_with (at_builtin; refine wpList_app rfl (.tmp 63) (.tmp 65) _ rfl elemInt 0 _ _ _ rfl (Hown.out.kept (World.grownBy_alloc wi _ none) (by cases (Value.slice Ai m ci).ownBlock <;> simp)) _ _ _ _ rfl (Sl.new _ _ _ 1 1 rfl) (by simp [Value.oneCell']) (by unfold maxLen; omega) (by omega) (by omega) ?_; intro A2 c2 w2 ho2 hg2 hor2; obtain ⟨ck1, ck2⟩ := Hck.out w2 (-1) hg2; have HA2 := Lib.hid (Happ.out A2 c2 (-1) (wi.alloc (.cells #[.int .i64 (-1)] 3)) w2 (below_new wi _) ho2 hg2 hor2 hS1n.out); clear ho2 hg2 hor2)
            have HA3 := Lib.hid (show TM (w2.setCell ⟨b, i, none⟩ (.slice A2 (m + 1) c2)) S1 (some ⟨b, 0, none⟩) L c5 (wdL T1 L (newV lm) (i + 1)) (hd.set i (.slice A2 (m + 1) c2)) from by rw [← Hset.out]; exact HA2.out.1)
            have HK3 := Lib.hid (Hki.out.trans HA2.out.2 (fun _ _ h => h))
            go_roundg (gk - 1)
            case measure => omega
            case rel => exact ⟨i + 1, _, by omega, by go_num, HA3.out, HK3.out⟩
        · obtain rfl : i = L := by omega
          obtain ⟨T2, hT2⟩ : ∃ T2, wdL T1 i (newV lm) i = T2 := ⟨_, rfl⟩
          have Hlen2 := Lib.hid (show T2.length = i by rw [← hT2, wdL_len])
          have Hok2 := Lib.hid (show TOk T2 (m + 1) by rw [← hT2]; exact wdL_ok _ HL.out Hok.out (by omega) (newV_bd lm))
          obtain ⟨to2, s2, hb2, hle2⟩ := columns_law (T := T1) (T' := T2) (m' := m + 1) (by rw [Hlen2.out, HL.out]) (by omega) (fun a b ha hb _ => by rw [← hT2]; exact wdL_ct _ HL.out Hok.out.rect (by rw [← HL.out]; exact ha) hb) HB.out
          rw [hT2] at hM
          have HM2 := Lib.hid hM
          have Hb2 := Lib.hid hb2
          have Hle2 := Lib.hid hle2
          have HB5 := Lib.hid hk2
          have HN5 := Lib.hid hk5
          have HP5 := Lib.hid hk4
          have Hk1 := Lib.hid hk1
          obtain ⟨ra, k0, ha1, ha2, ha3, ha4, ha5, hka⟩ := row_mod p0 hL1
          obtain ⟨rb, k1, hb1, hb2', hb3, hb4, hb5, hkb⟩ := row_mod p1 (show 1 ≤ m by omega)
          have ha6 : Int.tmod (ra + (i : Int)) (i : Int) = (k0 : Int) := by rw [Int.tmod_eq_emod_of_nonneg ha4]; exact ha5
          have hb6 : Int.tmod (rb + (m : Int)) (m : Int) = (k1 : Int) := by rw [Int.tmod_eq_emod_of_nonneg hb4]; exact hb5
          have za : IntKind.i64.wrap (ra + (i : Int)) = ra + (i : Int) := IntWalk.i64_in _ (by omega)
          have zb : IntKind.i64.wrap (rb + (m : Int)) = rb + (m : Int) := IntWalk.i64_in _ (by omega)
          have i0 : (0 : Int) < (i : Int) := by omega
          have i00 : ¬ (i : Int) = 0 := by omega
          have m0 : (0 : Int) < (m : Int) := by omega
          have m00 : ¬ (m : Int) = 0 := by omega
          obtain ⟨q0, q1, q2, _⟩ := cells3 hk4
          obtain ⟨b0, o0, A0, c0, rfl, hh0⟩ := hk2.tc.rc.slr.head (by omega)
          rw [Hok.out.wid] at hh0
          clear hT2 hb2 hle2 hM hk1 hk2 hk3 hk4 hk5 hiL hgi
          go_wp2_with fail
          go_quiet (fail)
          rename_i nq
          have HN7 := Lib.hid (HN5.out.below (Qt.below ⟨nq, rfl⟩))
          have HM7 := Lib.hid (HM2.out.below (Qt.below ⟨nq, rfl⟩))
          have HB7 := Lib.hid (HB5.out.below (Qt.below ⟨nq, rfl⟩))
          have HP7 := Lib.hid ((Qt.below (w := wi) ⟨nq, rfl⟩).block pb (Array.getElem?_eq_some_iff.1 HP5.out).1 |>.trans HP5.out)
          have hsz7 : w6.heap.size ≤ (wi.drewN nq).heap.size := Hki.out.size
          have Hk7 := Lib.hid (Hk1.out.trans ((Qt.below (w := wi) ⟨nq, rfl⟩).mono Hk1.out.size))
          clear ha1 ha2 ha3 ha4 ha5 ha6 hb1 hb2' hb3 hb4 hb5 hb6 za zb i0 i00 m0 m00 q0 q1 q2 hh0
          generalize wi.drewN nq = w7 at *
          obtain ⟨bL, g, ci, rfl, hPb, hPg, hc1, hc2, hfz, hset⟩ := HN7.out.setF hka hkb
          obtain ⟨v, hv⟩ : ∃ v, ct T1 k0 k1 = v := ⟨_, rfl⟩
          rw [hv] at hc2
          obtain ⟨z, hz, hz1, hz2⟩ : ∃ z, bits BinOp.and IntKind.i64 p2 1023 = z ∧ 0 ≤ z ∧ z ≤ 1023 := ⟨_, rfl, (and1023 p2).1, (and1023 p2).2⟩
          obtain ⟨_, _, q2, _⟩ := cells3 HP7.out
          have Hv := Lib.hid hv
          have Hset := Lib.hid hset
          have j1 : (k0 : Int) < (i : Int) := by omega
          have j2 : (k1 : Int) < (m : Int) := by omega
          clear hv hset
          go_upto_if 103 with fail
          go_cut [11] (fun s11 wx => s11 = .slice (some ⟨bL, 0, none⟩) i c6 ∧ Kx S2 w7 wx ∧ ∃ f, TM wx S2 (some ⟨bL, 0, none⟩) i c6 (tabF i m f) hd6 ∧ Hid (∀ a, a < i → ∀ b, b < m → (0 ≤ ct T1 a b → f a b = ct T1 a b) ∧ -1 ≤ f a b ∧ f a b ≤ 1000000000))
          case first =>
            by_cases h0 : v < 0
            · have HF2 := Lib.hid (show ∀ a, a < i → ∀ b, b < m → (0 ≤ ct T1 a b → (fun a b => if a = k0 ∧ b = k1 then z else ct T1 a b) a b = ct T1 a b) ∧ -1 ≤ (fun a b => if a = k0 ∧ b = k1 then z else ct T1 a b) a b ∧ (fun a b => if a = k0 ∧ b = k1 then z else ct T1 a b) a b ≤ 1000000000 from fun a ha b hb => by
                show (0 ≤ ct T1 a b → (if a = k0 ∧ b = k1 then z else ct T1 a b) = ct T1 a b) ∧ -1 ≤ (if a = k0 ∧ b = k1 then z else ct T1 a b) ∧ (if a = k0 ∧ b = k1 then z else ct T1 a b) ≤ 1000000000
                by_cases e : a = k0 ∧ b = k1
                · rw [if_pos e]
                  obtain ⟨rfl, rfl⟩ := e
                  exact ⟨fun h => by rw [Hv.out] at h; omega, by omega, by omega⟩
                · rw [if_neg e]
                  exact ⟨fun _ => rfl, Hok.out.costOk a b (by rw [HL.out]; exact ha) hb⟩)
              have hqd : Below w7.heap.size w7 w7.drew := (Below.refl _ _).drew
              obtain ⟨bL', g', ci', eA, _, _, hc1', _, hfz', hset'⟩ := (HN7.out.below hqd).setF hka hkb
              simp only [Option.some.injEq, Addr.mk.injEq, and_true] at eA
              subst eA
              have hc1q : w7.cell? ⟨bL, k0, none⟩ = some (.slice (some ⟨g', 0, none⟩) m ci') := hc1'
              rw [hc1] at hc1q
              simp only [Option.some.injEq, Value.slice.injEq, Addr.mk.injEq, and_true, true_and] at hc1q
              obtain ⟨rfl, rfl⟩ := hc1q
              obtain ⟨hMs, hKs⟩ := hset' z
              have HMs := Lib.hid hMs
              have HKs := Lib.hid (((Kx.refl S2 w7).below hqd).trans hKs (fun _ _ h => h))
              clear hMs hKs hset' hc1' hqd
              go_wp2_with fail
              go_still_tail 9, (by kernel_rfl)
              go_wp2_with fail
              go_meet
              exact ⟨rfl, HKs.out, _, HMs.out, HF2⟩
            · have h1 : 0 ≤ v := by omega
              clear h0
              go_wp2_with fail
              go_meet
              exact ⟨rfl, Kx.refl _ _, ct T1, HN7.out, Lib.hid (fun a ha b hb => ⟨fun _ => rfl, Hok.out.costOk a b (by rw [HL.out]; exact ha) hb⟩)⟩
          case rest =>
            obtain ⟨e11, hkx, f3, hM3, Hf3⟩ := hcut
            subst e11
            obtain ⟨w8, rfl⟩ : ∃ w8 : World, w8 = wc := ⟨_, rfl⟩
            obtain ⟨T3, hT3⟩ : ∃ T3, tabF i m f3 = T3 := ⟨_, rfl⟩
            have Hlen3 := Lib.hid (show T3.length = i by rw [← hT3, tabF_len])
            have Hok3 := Lib.hid (show TOk T3 m by rw [← hT3]; exact tok_tabF hL1 hLm (by omega) (fun a ha b hb => (Hf3.out a ha b hb).2))
            obtain ⟨to3, s3, hb3, hle3⟩ := columns_law (T := T1) (T' := T3) (m' := m) (by rw [Hlen3.out, HL.out]) (Nat.le_refl _) (fun a b ha hb h0 => by rw [HL.out] at ha; rw [← hT3, ct_tabF ha hb]; exact (Hf3.out a ha b hb).1 h0) HB.out
            rw [hT3] at hM3
            have Hs3 := Lib.hid hM3.slr
            have Hs2 := Lib.hid (HM7.out.kx hkx (fun j hj h => by
              have h2 := (HS2.out j).1 h
              rcases (HS1.out j).1 hj with h | h <;> omega)).slr
            have Hb3 := Lib.hid hb3
            have Hle3 := Lib.hid hle3
            have hgl : gb < w4.heap.size := (Array.getElem?_eq_some_iff.1 P3.out.x).1
            have hx8 := (hkx.block gb (Array.getElem?_eq_some_iff.1 HB7.out.x).1 (fun h => by have := (HS2.out gb).1 h; omega)).trans HB7.out.x
            have Hbel := Lib.hid (show Below w0.heap.size w0 w8 from P3.out.tc.bel.trans ((Kx.low Hk7.out hkx (fun j hj => by have := (HS2.out j).1 hj; omega) Hk7.out.size).mono P3.out.tc.bel.size))
            have Hx8 := Lib.hid hx8
            clear hb3 hle3 hT3 hM3 hkx hx8
            go_wp2_with fail
            refine (best_yes A5 i c5 (m + 1) T2 _ Hs2.out Hok2.out (kuhn_of_best Hlen2.out Hb2.out)).mono ?_
            rintro e w9 ⟨C1, C2, C3, f1, f2, f3', l2, t2, lu2, lv2, rfl, hB2, _, _, _, _, _, _, _, _, _, hb9⟩
            have hh := bestO_eq hB2.best
            rw [Hb2.out] at hh
            simp only [Option.some.injEq, Prod.mk.injEq] at hh
            have ht2 : t2 ≤ s := by rw [← hh.2]; exact Hle2.out
            have hba := hb9.trans ((below_new w9 (.cells #[.slice C1 i f1, .slice C2 i f2, .slice C3 (m + 1) f3', .int .i64 t2] 28)).mono hb9.size)
            have Hbel9 := Lib.hid (Hbel.out.trans (hba.mono Hbel.out.size))
            have Hx9 := Lib.hid ((hba.block gb (Array.getElem?_eq_some_iff.1 Hx8.out).1).trans Hx8.out)
            have Hs9 := Lib.hid (Hs3.out.below hba)
            have Hy9 := Lib.hid (heap_alloc_new w9 (.cells #[.slice C1 i f1, .slice C2 i f2, .slice C3 (m + 1) f3', .int .i64 t2] 28))
            clear hb9 hba hB2 hh
            go_wp2_with fail
            refine (best_yes (some ⟨bL, 0, none⟩) i c6 m T3 _ Hs9.out Hok3.out (kuhn_of_best Hlen3.out Hb3.out)).mono ?_
            rintro e w10 ⟨D1, D2, D3, g1, g2, g3, l3, t3, lu3, lv3, rfl, hB3, _, _, _, _, _, _, _, _, _, hb10⟩
            have hh := bestO_eq hB3.best
            rw [Hb3.out] at hh
            simp only [Option.some.injEq, Prod.mk.injEq] at hh
            have ht3 : t3 ≤ s := by rw [← hh.2]; exact Hle3.out
            have hba := hb10.trans ((below_new w10 (.cells #[.slice D1 i g1, .slice D2 i g2, .slice D3 m g3, .int .i64 t3] 28)).mono hb10.size)
            have Hbel10 := Lib.hid (Hbel9.out.trans (hba.mono Hbel9.out.size))
            obtain ⟨_, _, _, x3, _⟩ := cells4 ((hba.block gb (Array.getElem?_eq_some_iff.1 Hx9.out).1).trans Hx9.out)
            obtain ⟨_, _, _, y3, _⟩ := cells4 ((hba.block _ (Array.getElem?_eq_some_iff.1 Hy9.out).1).trans Hy9.out)
            obtain ⟨_, _, _, z3, _⟩ := cells4 (heap_alloc_new w10 (.cells #[.slice D1 i g1, .slice D2 i g2, .slice D3 m g3, .int .i64 t3] 28))
            have k1' : decide (t2 ≤ s) = true := decide_eq_true ht2
            have k2' : decide (t3 ≤ s) = true := decide_eq_true ht3
            clear hb10 hba hB3 hh
            go_wp2_with fail
            refine (lives_any _).mono ?_
            rintro e w11 ⟨rfl, hb11⟩
            have Hf := Lib.hid (Hfin.out w11 (Hbel10.out.trans (hb11.mono Hbel10.out.size)))
            clear hb11
            go_wp2
            exact Hf.out
    · have Hno := Lib.hid hKL
      clear hKL
      go_wp2_with fail
      refine (best_noneT w0 A1 L c1 m T1 _ H2.out Hok.out Hno.out).mono ?_
      rintro e w4 ⟨rfl, h4⟩
      have H4 := Lib.hid (h4.below (below_new w4 (.cells #[.slice none 0 0, .slice none 0 0, .slice none 0 0, .int .i64 0] 28)))
      clear h4
      go_wp2_with fail
      refine (lives_T w0 A1 L c1 T1 _ H4.out).mono ?_
      rintro e w8 ⟨rfl, h8⟩
      have Hf := Lib.hid (Hfin.out w8 h8.bel)
      clear h8
      go_wp2
      exact Hf.out
  · have hb' : tabB T1 = false := by simpa using hb
    have Hb := Lib.hid hb'
    clear hb hb'
    go_wp2_with fail
    refine (refCheck_noT w0 A1 L c1 T1 _ H1.out Hb.out).mono ?_
    rintro e w3 ⟨rfl, h3⟩
    go_wp2_with fail
    refine (lives_T w0 A1 L c1 T1 _ h3).mono ?_
    rintro e w8 ⟨rfl, h8⟩
    have Hf := Lib.hid (Hfin.out w8 h8.bel)
    clear h8 h3
    go_wp2
    exact Hf.out
end Go.Proofs.Ytjdhcdoekfikpaa
