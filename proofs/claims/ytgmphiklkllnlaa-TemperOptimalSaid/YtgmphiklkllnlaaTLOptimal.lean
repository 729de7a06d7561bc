/-
  The contract of clavecinlaw03.TemperOptimal: true at every input.
-/
import Derived.Test.YtgmphiklkllnlaaTBef
import Derived.Test.YtgmphiklkllnlaaTDear
namespace Go.Proofs.Ytgmphiklkllnlaa
open Go.RowKit
set_option maxRecDepth 8000 in
set_option maxHeartbeats 16000000 in
theorem optimal_any (x : Rn) (A B D : Option Addr) (n c m d q e : Nat) (fi th st : List Int) (w : World) (hF : SlE intE 1 w A n fi) (hT : SlE intE 1 w B m th) (hS : SlE intE 1 w D q st)
    (hn : n ≤ c) (hc : c ≤ 9223372036854775807) (hm : m ≤ d) (hd : d ≤ 9223372036854775807) (hq : q ≤ e) (he : e ≤ 9223372036854775807) :
    Calls Try.prog 11 #[.agg #[.int .i64 x.N, .int .i64 x.S, .int .i64 x.low, .int .i64 x.high, .int .i64 x.total, .int .i64 x.pure, .int .i64 x.worst, .slice A n c, .slice B m d], .slice D q e] w fun en w' => en = .returned (.bool true) ∧ Below w.heap.size w w' := by
  refine calls_cps ?_
  intro R hR
  have hb1 := below_new w (.cells #[.int .i64 x.N, .int .i64 x.S, .int .i64 x.low, .int .i64 x.high, .int .i64 x.total, .int .i64 x.pure, .int .i64 x.worst, .slice A n c, .slice B m d] 24)
  have Hb1 := Lib.hid hb1
  obtain ⟨w1, hw1⟩ : ∃ w1, w.alloc (.cells #[.int .i64 x.N, .int .i64 x.S, .int .i64 x.low, .int .i64 x.high, .int .i64 x.total, .int .i64 x.pure, .int .i64 x.worst, .slice A n c, .slice B m d] 24) = w1 := ⟨_, rfl⟩
  have hcx := cells9' (heap_alloc_new w (.cells #[.int .i64 x.N, .int .i64 x.S, .int .i64 x.low, .int .i64 x.high, .int .i64 x.total, .int .i64 x.pure, .int .i64 x.worst, .slice A n c, .slice B m d] 24))
  rw [hw1] at hcx hb1
  have Hsh := Lib.hid (short_any x A B n c m d fi th w1 (hF.below hb1) (hT.below hb1) hn hc hm hd)
  have Hct := Lib.hid (fun W h => cut_own D q e st 40 40 rfl (by omega) W h hq he)
  have HS1 := Lib.hid (hS.below hb1)
  have Hb1 := Lib.hid hb1
  obtain ⟨f0, hf0⟩ : ∃ f0, fi.take 40 = f0 := ⟨_, rfl⟩
  obtain ⟨t0, ht0⟩ : ∃ t0, th.take 40 = t0 := ⟨_, rfl⟩
  obtain ⟨s0, hs0⟩ : ∃ s0, st.take 40 = s0 := ⟨_, rfl⟩
  rw [hf0, ht0] at Hsh
  simp only [hs0] at Hct
  have hlf : f0.length ≤ 40 := by rw [← hf0, List.length_take]; omega
  have hlt : t0.length ≤ 40 := by rw [← ht0, List.length_take]; omega
  have hls : s0.length ≤ 40 := by rw [← hs0, List.length_take]; omega
  obtain ⟨n0, hn0⟩ : ∃ n0, f0.length = n0 := ⟨_, rfl⟩
  obtain ⟨m0, hm0⟩ : ∃ m0, t0.length = m0 := ⟨_, rfl⟩
  obtain ⟨q0, hq0⟩ : ∃ q0, s0.length = q0 := ⟨_, rfl⟩
  rw [hn0, hm0] at Hsh
  simp only [hq0] at Hct
  rw [hn0] at hlf
  rw [hm0] at hlt
  rw [hq0] at hls
  have Hq0 := Lib.hid hq0
  obtain ⟨N, S, low, high, total, pure, worst⟩ := x
  dsimp only at *
  obtain ⟨x0, x1, x2, x3, x4, x5, x6, x7, x8, xf⟩ := hcx
  clear hF hT hS hb1 hf0 ht0 hs0 hn0 hm0 hq0
  subst hw1
  go_enter Try.func11, Try.ntmps11
  go_upto_region 2 with (first
    | (go_at_call 16; (with_reducible refine Hsh.out.mono ?_); rintro e1 w2 ⟨⟨A2, B2, c2, d2, rfl, sA, sB⟩, hb2⟩; have HA2 := Lib.hid sA; have HB2 := Lib.hid sB; have HS2 := Lib.hid (HS1.out.below hb2); have Hb2 := Lib.hid (Hb1.out.trans (hb2.mono Hb1.out.size)); clear sA sB hb2)
    | (go_at_call 32; (with_reducible refine (Hct.out _ HS2.out).mono ?_); rintro e2 w3 ⟨D3, e3, rfl, ho3, hb3⟩; have HA3 := Lib.hid (HA2.out.below hb3); have HB3 := Lib.hid (HB2.out.below hb3); have HS3 := Lib.hid (SlE.of_own ho3 Hq0.out.symm); have Hb3 := Lib.hid (Hb2.out.trans (hb3.mono Hb2.out.size)); clear ho3 hb3))
  obtain ⟨bb, hbb⟩ : ∃ bb, w3.heap.size = bb := ⟨_, rfl⟩
  have hX4 : Bx w (w3.alloc (.cells #[.int .i64 N, .int .i64 S, .int .i64 low, .int .i64 high, .int .i64 total, .int .i64 pure, .int .i64 worst, .slice A2 n0 c2, .slice B2 m0 d2] 24)) bb N S low high total pure worst A2 B2 D3 n0 c2 m0 d2 q0 e3 f0 t0 s0 :=
    ⟨by rw [← hbb]; exact heap_alloc_new w3 _, HA3.out.alloc _, HB3.out.alloc _, HS3.out.alloc _, Hb3.out.alloc Hb3.out.size _⟩
  obtain ⟨w4, hw4⟩ : ∃ w4, w3.alloc (.cells #[.int .i64 N, .int .i64 S, .int .i64 low, .int .i64 high, .int .i64 total, .int .i64 pure, .int .i64 worst, .slice A2 n0 c2, .slice B2 m0 d2] 24) = w4 := ⟨_, rfl⟩
  rw [hw4] at hX4 ⊢
  rw [hbb]
  have HX := Lib.hid hX4
  have HY := Lib.hid (fun W (h : Below w.heap.size w W) => hR.out (.returned (.bool true)) W ⟨rfl, h⟩)
  clear hR hw4 hbb hX4 HA2 HB2 HS2 HA3 HB3 HS3 Hb1 Hb2 Hb3 Hsh Hct HS1 x0 x1 x2 x3 x4 x5 x6 x7 x8 xf
  obtain ⟨x0, x1, x2, x3, x4, x5, x6, x7, x8, -⟩ := cells9' HX.out.box
  have Hlv := Lib.hid (fun (W : World) (_ : Bx w W bb N S low high total pure worst A2 B2 D3 n0 c2 m0 d2 q0 e3 f0 t0 s0) => lives_any W)
  cases hg : rgOk ⟨N, S, low, high, total, pure, worst⟩ f0 t0
  · have H1 := Lib.hid (fun (W : World) (h : Bx w W bb N S low high total pure worst A2 B2 D3 n0 c2 m0 d2 q0 e3 f0 t0 s0) => refCheck_bad ⟨N, S, low, high, total, pure, worst⟩ A2 B2 n0 c2 m0 d2 f0 t0 W h.F h.T (by omega) (by omega) hg)
    dsimp only at H1
    clear hg
    go_wp2_with (first
      | (go_at_call 17; (with_reducible refine (H1.out _ HX.out).mono ?_); rintro e1 w9 ⟨rfl, hb⟩; (try have HL := Lib.hid (HL.out.below hb)); have HX := Lib.hid (HX.out.below hb); obtain ⟨x0, x1, x2, x3, x4, x5, x6, x7, x8, -⟩ := cells9' HX.out.box; clear hb)
      | (go_at_call 19; (with_reducible refine (Hlv.out _ HX.out).mono ?_); rintro e1 w9 ⟨rfl, hb⟩; (try have HL := Lib.hid (HL.out.below hb)); have HX := Lib.hid (HX.out.below hb); obtain ⟨x0, x1, x2, x3, x4, x5, x6, x7, x8, -⟩ := cells9' HX.out.box; clear hb))
    exact HY.out _ HX.out.bel
  · obtain ⟨r, hr, rfl, rfl, rfl, rfl, rfl, rfl, rfl, rfl, rfl⟩ := ring_of hg
    clear hg
    have H1 := Lib.hid (fun (W : World) (h : Bx w W bb r.N r.S r.low r.high r.total r.pure r.worst A2 B2 D3 n0 c2 m0 d2 q0 e3 r.fi r.th s0) => refCheck_ok r hr A2 B2 n0 c2 m0 d2 W h.F h.T)
    have H2 := Lib.hid (fun (W : World) (_ : Bx w W bb r.N r.S r.low r.high r.total r.pure r.worst A2 B2 D3 n0 c2 m0 d2 q0 e3 r.fi r.th s0) => dear_any r hr A2 B2 n0 c2 m0 d2 W)
    have hr2 := hr.n2
    cases hdr : r.dearB
    case true =>
      simp only [hdr] at H2
      clear hdr
      go_wp2_with (first
        | (go_at_call 17; (with_reducible refine (H1.out _ HX.out).mono ?_); rintro e1 w9 ⟨rfl, hb⟩; (try have HL := Lib.hid (HL.out.below hb)); have HX := Lib.hid (HX.out.below hb); obtain ⟨x0, x1, x2, x3, x4, x5, x6, x7, x8, -⟩ := cells9' HX.out.box; clear hb)
        | (go_at_call 19; (with_reducible refine (Hlv.out _ HX.out).mono ?_); rintro e1 w9 ⟨rfl, hb⟩; (try have HL := Lib.hid (HL.out.below hb)); have HX := Lib.hid (HX.out.below hb); obtain ⟨x0, x1, x2, x3, x4, x5, x6, x7, x8, -⟩ := cells9' HX.out.box; clear hb)
        | (go_at_call 26; (with_reducible refine (H2.out _ HX.out).mono ?_); rintro e1 w9 ⟨rfl, hb⟩; (try have HL := Lib.hid (HL.out.below hb)); have HX := Lib.hid (HX.out.below hb); obtain ⟨x0, x1, x2, x3, x4, x5, x6, x7, x8, -⟩ := cells9' HX.out.box; clear hb))
      exact HY.out _ HX.out.bel
    case false =>
      simp only [hdr] at H2
      clear hdr
      have H3 := Lib.hid (fun (W : World) (h : Bx w W bb r.N r.S r.low r.high r.total r.pure r.worst A2 B2 D3 n0 c2 m0 d2 q0 e3 r.fi r.th s0) => callsIn_wide.1 (best_ok 6 (Nat.le_refl _) r hr A2 B2 n0 c2 m0 d2 W h.F h.T))
      have H5 := Lib.hid (fun (W : World) (h : Bx w W bb r.N r.S r.low r.high r.total r.pure r.worst A2 B2 D3 n0 c2 m0 d2 q0 e3 r.fi r.th s0) => cost_any r hr A2 B2 D3 n0 c2 m0 d2 q0 e3 s0 W h.F h.T h.S (by omega))
      have H4 := Lib.hid (fun (W : World) (h : Bx w W bb r.N r.S r.low r.high r.total r.pure r.worst A2 B2 D3 n0 c2 m0 d2 q0 e3 r.fi r.th s0) (st : List Int) (A5 : Option Addr) (c5 : Nat) (hs : SlE intE 1 W A5 r.N st) => cost_any r hr A2 B2 A5 n0 c2 m0 d2 r.N c5 st W h.F h.T hs (by omega))
      clear hr
      cases hfit : r.fitsB s0
      case false =>
        have ec : r.costR s0 = (0, 2) := by unfold Rg.costR; rw [hfit]; rfl
        simp only [ec] at H5
        clear ec
        go_upto_region 5 with (first
          | (go_at_call 17; (with_reducible refine (H1.out _ HX.out).mono ?_); rintro e1 w9 ⟨rfl, hb⟩; (try have HL := Lib.hid (HL.out.below hb)); have HX := Lib.hid (HX.out.below hb); obtain ⟨x0, x1, x2, x3, x4, x5, x6, x7, x8, -⟩ := cells9' HX.out.box; clear hb)
          | (go_at_call 19; (with_reducible refine (Hlv.out _ HX.out).mono ?_); rintro e1 w9 ⟨rfl, hb⟩; (try have HL := Lib.hid (HL.out.below hb)); have HX := Lib.hid (HX.out.below hb); obtain ⟨x0, x1, x2, x3, x4, x5, x6, x7, x8, -⟩ := cells9' HX.out.box; clear hb)
          | (go_at_call 26; (with_reducible refine (H2.out _ HX.out).mono ?_); rintro e1 w9 ⟨rfl, hb⟩; (try have HL := Lib.hid (HL.out.below hb)); have HX := Lib.hid (HX.out.below hb); obtain ⟨x0, x1, x2, x3, x4, x5, x6, x7, x8, -⟩ := cells9' HX.out.box; clear hb)
          | (go_at_call 20; (with_reducible refine (H3.out _ HX.out).mono ?_); rintro e1 w9 ⟨hbs, hb⟩; rcases hbs with ⟨rfl, hno⟩ | ⟨st, cs, A5, c5, rfl, hbst, ho⟩))
        · have HX := Lib.hid (HX.out.below hb); obtain ⟨x0, x1, x2, x3, x4, x5, x6, x7, x8, -⟩ := cells9' HX.out.box
          clear hb hno
          go_wp2_with (first
            | (go_at_call 17; (with_reducible refine (H1.out _ HX.out).mono ?_); rintro e1 w9 ⟨rfl, hb⟩; (try have HL := Lib.hid (HL.out.below hb)); have HX := Lib.hid (HX.out.below hb); obtain ⟨x0, x1, x2, x3, x4, x5, x6, x7, x8, -⟩ := cells9' HX.out.box; clear hb)
            | (go_at_call 19; (with_reducible refine (Hlv.out _ HX.out).mono ?_); rintro e1 w9 ⟨rfl, hb⟩; (try have HL := Lib.hid (HL.out.below hb)); have HX := Lib.hid (HX.out.below hb); obtain ⟨x0, x1, x2, x3, x4, x5, x6, x7, x8, -⟩ := cells9' HX.out.box; clear hb)
            | (go_at_call 26; (with_reducible refine (H2.out _ HX.out).mono ?_); rintro e1 w9 ⟨rfl, hb⟩; (try have HL := Lib.hid (HL.out.below hb)); have HX := Lib.hid (HX.out.below hb); obtain ⟨x0, x1, x2, x3, x4, x5, x6, x7, x8, -⟩ := cells9' HX.out.box; clear hb)
            | (go_at_call 34; (with_reducible refine (H5.out _ HX.out).mono ?_); rintro e1 w9 ⟨rfl, hb⟩; (try have HL := Lib.hid (HL.out.below hb)); have HX := Lib.hid (HX.out.below hb); obtain ⟨x0, x1, x2, x3, x4, x5, x6, x7, x8, -⟩ := cells9' HX.out.box; clear hb))
          exact HY.out _ HX.out.bel
        · have HL := Lib.hid (SlE.of_own ho hbst.good.len.symm)
          have HX := Lib.hid (HX.out.below hb); obtain ⟨x0, x1, x2, x3, x4, x5, x6, x7, x8, -⟩ := cells9' HX.out.box
          have Hcb := Lib.hid (costR_ok hbst.good)
          rw [hbst.cost] at Hcb
          clear hb ho hbst
          go_wp2_with (first
            | (go_at_call 17; (with_reducible refine (H1.out _ HX.out).mono ?_); rintro e1 w9 ⟨rfl, hb⟩; (try have HL := Lib.hid (HL.out.below hb)); have HX := Lib.hid (HX.out.below hb); obtain ⟨x0, x1, x2, x3, x4, x5, x6, x7, x8, -⟩ := cells9' HX.out.box; clear hb)
            | (go_at_call 19; (with_reducible refine (Hlv.out _ HX.out).mono ?_); rintro e1 w9 ⟨rfl, hb⟩; (try have HL := Lib.hid (HL.out.below hb)); have HX := Lib.hid (HX.out.below hb); obtain ⟨x0, x1, x2, x3, x4, x5, x6, x7, x8, -⟩ := cells9' HX.out.box; clear hb)
            | (go_at_call 26; (with_reducible refine (H2.out _ HX.out).mono ?_); rintro e1 w9 ⟨rfl, hb⟩; (try have HL := Lib.hid (HL.out.below hb)); have HX := Lib.hid (HX.out.below hb); obtain ⟨x0, x1, x2, x3, x4, x5, x6, x7, x8, -⟩ := cells9' HX.out.box; clear hb)
            | (go_at_call 34; (with_reducible refine (H5.out _ HX.out).mono ?_); rintro e1 w9 ⟨rfl, hb⟩; (try have HL := Lib.hid (HL.out.below hb)); have HX := Lib.hid (HX.out.below hb); obtain ⟨x0, x1, x2, x3, x4, x5, x6, x7, x8, -⟩ := cells9' HX.out.box; clear hb)
            | (go_at_call 34; (with_reducible refine (H4.out _ HX.out _ _ _ HL.out).mono ?_); rw [Hcb.out]; rintro e1 w9 ⟨rfl, hb⟩; have HL := Lib.hid (HL.out.below hb); have HX := Lib.hid (HX.out.below hb); obtain ⟨x0, x1, x2, x3, x4, x5, x6, x7, x8, -⟩ := cells9' HX.out.box; clear hb))
          exact HY.out _ HX.out.bel
      case true =>
        cases hal : r.allowB s0
        case false =>
          have ec : r.costR s0 = (0, 6) := by unfold Rg.costR; rw [hfit, hal]; rfl
          simp only [ec] at H5
          clear ec
          go_upto_region 5 with (first
            | (go_at_call 17; (with_reducible refine (H1.out _ HX.out).mono ?_); rintro e1 w9 ⟨rfl, hb⟩; (try have HL := Lib.hid (HL.out.below hb)); have HX := Lib.hid (HX.out.below hb); obtain ⟨x0, x1, x2, x3, x4, x5, x6, x7, x8, -⟩ := cells9' HX.out.box; clear hb)
            | (go_at_call 19; (with_reducible refine (Hlv.out _ HX.out).mono ?_); rintro e1 w9 ⟨rfl, hb⟩; (try have HL := Lib.hid (HL.out.below hb)); have HX := Lib.hid (HX.out.below hb); obtain ⟨x0, x1, x2, x3, x4, x5, x6, x7, x8, -⟩ := cells9' HX.out.box; clear hb)
            | (go_at_call 26; (with_reducible refine (H2.out _ HX.out).mono ?_); rintro e1 w9 ⟨rfl, hb⟩; (try have HL := Lib.hid (HL.out.below hb)); have HX := Lib.hid (HX.out.below hb); obtain ⟨x0, x1, x2, x3, x4, x5, x6, x7, x8, -⟩ := cells9' HX.out.box; clear hb)
            | (go_at_call 20; (with_reducible refine (H3.out _ HX.out).mono ?_); rintro e1 w9 ⟨hbs, hb⟩; rcases hbs with ⟨rfl, hno⟩ | ⟨st, cs, A5, c5, rfl, hbst, ho⟩))
          · have HX := Lib.hid (HX.out.below hb); obtain ⟨x0, x1, x2, x3, x4, x5, x6, x7, x8, -⟩ := cells9' HX.out.box
            clear hb hno
            go_wp2_with (first
              | (go_at_call 17; (with_reducible refine (H1.out _ HX.out).mono ?_); rintro e1 w9 ⟨rfl, hb⟩; (try have HL := Lib.hid (HL.out.below hb)); have HX := Lib.hid (HX.out.below hb); obtain ⟨x0, x1, x2, x3, x4, x5, x6, x7, x8, -⟩ := cells9' HX.out.box; clear hb)
              | (go_at_call 19; (with_reducible refine (Hlv.out _ HX.out).mono ?_); rintro e1 w9 ⟨rfl, hb⟩; (try have HL := Lib.hid (HL.out.below hb)); have HX := Lib.hid (HX.out.below hb); obtain ⟨x0, x1, x2, x3, x4, x5, x6, x7, x8, -⟩ := cells9' HX.out.box; clear hb)
              | (go_at_call 26; (with_reducible refine (H2.out _ HX.out).mono ?_); rintro e1 w9 ⟨rfl, hb⟩; (try have HL := Lib.hid (HL.out.below hb)); have HX := Lib.hid (HX.out.below hb); obtain ⟨x0, x1, x2, x3, x4, x5, x6, x7, x8, -⟩ := cells9' HX.out.box; clear hb)
              | (go_at_call 34; (with_reducible refine (H5.out _ HX.out).mono ?_); rintro e1 w9 ⟨rfl, hb⟩; (try have HL := Lib.hid (HL.out.below hb)); have HX := Lib.hid (HX.out.below hb); obtain ⟨x0, x1, x2, x3, x4, x5, x6, x7, x8, -⟩ := cells9' HX.out.box; clear hb))
            exact HY.out _ HX.out.bel
          · have HL := Lib.hid (SlE.of_own ho hbst.good.len.symm)
            have HX := Lib.hid (HX.out.below hb); obtain ⟨x0, x1, x2, x3, x4, x5, x6, x7, x8, -⟩ := cells9' HX.out.box
            have Hcb := Lib.hid (costR_ok hbst.good)
            rw [hbst.cost] at Hcb
            clear hb ho hbst
            go_wp2_with (first
              | (go_at_call 17; (with_reducible refine (H1.out _ HX.out).mono ?_); rintro e1 w9 ⟨rfl, hb⟩; (try have HL := Lib.hid (HL.out.below hb)); have HX := Lib.hid (HX.out.below hb); obtain ⟨x0, x1, x2, x3, x4, x5, x6, x7, x8, -⟩ := cells9' HX.out.box; clear hb)
              | (go_at_call 19; (with_reducible refine (Hlv.out _ HX.out).mono ?_); rintro e1 w9 ⟨rfl, hb⟩; (try have HL := Lib.hid (HL.out.below hb)); have HX := Lib.hid (HX.out.below hb); obtain ⟨x0, x1, x2, x3, x4, x5, x6, x7, x8, -⟩ := cells9' HX.out.box; clear hb)
              | (go_at_call 26; (with_reducible refine (H2.out _ HX.out).mono ?_); rintro e1 w9 ⟨rfl, hb⟩; (try have HL := Lib.hid (HL.out.below hb)); have HX := Lib.hid (HX.out.below hb); obtain ⟨x0, x1, x2, x3, x4, x5, x6, x7, x8, -⟩ := cells9' HX.out.box; clear hb)
              | (go_at_call 34; (with_reducible refine (H5.out _ HX.out).mono ?_); rintro e1 w9 ⟨rfl, hb⟩; (try have HL := Lib.hid (HL.out.below hb)); have HX := Lib.hid (HX.out.below hb); obtain ⟨x0, x1, x2, x3, x4, x5, x6, x7, x8, -⟩ := cells9' HX.out.box; clear hb)
              | (go_at_call 34; (with_reducible refine (H4.out _ HX.out _ _ _ HL.out).mono ?_); rw [Hcb.out]; rintro e1 w9 ⟨rfl, hb⟩; have HL := Lib.hid (HL.out.below hb); have HX := Lib.hid (HX.out.below hb); obtain ⟨x0, x1, x2, x3, x4, x5, x6, x7, x8, -⟩ := cells9' HX.out.box; clear hb))
            exact HY.out _ HX.out.bel
        case true =>
          have hgd : r.Good s0 := good_iff.2 ⟨hfit, hal⟩
          have ec : r.costR s0 = (r.cost s0, 0) := by unfold Rg.costR; rw [hfit, hal]; rfl
          simp only [ec] at H5
          clear ec
          go_upto_region 5 with (first
            | (go_at_call 17; (with_reducible refine (H1.out _ HX.out).mono ?_); rintro e1 w9 ⟨rfl, hb⟩; (try have HL := Lib.hid (HL.out.below hb)); have HX := Lib.hid (HX.out.below hb); obtain ⟨x0, x1, x2, x3, x4, x5, x6, x7, x8, -⟩ := cells9' HX.out.box; clear hb)
            | (go_at_call 19; (with_reducible refine (Hlv.out _ HX.out).mono ?_); rintro e1 w9 ⟨rfl, hb⟩; (try have HL := Lib.hid (HL.out.below hb)); have HX := Lib.hid (HX.out.below hb); obtain ⟨x0, x1, x2, x3, x4, x5, x6, x7, x8, -⟩ := cells9' HX.out.box; clear hb)
            | (go_at_call 26; (with_reducible refine (H2.out _ HX.out).mono ?_); rintro e1 w9 ⟨rfl, hb⟩; (try have HL := Lib.hid (HL.out.below hb)); have HX := Lib.hid (HX.out.below hb); obtain ⟨x0, x1, x2, x3, x4, x5, x6, x7, x8, -⟩ := cells9' HX.out.box; clear hb)
            | (go_at_call 20; (with_reducible refine (H3.out _ HX.out).mono ?_); rintro e1 w9 ⟨hbs, hb⟩; rcases hbs with ⟨rfl, hno⟩ | ⟨st, cs, A5, c5, rfl, hbst, ho⟩))
          · have HX := Lib.hid (HX.out.below hb); obtain ⟨x0, x1, x2, x3, x4, x5, x6, x7, x8, -⟩ := cells9' HX.out.box
            exact absurd hgd (hno _)
          · have HL := Lib.hid (SlE.of_own ho hbst.good.len.symm)
            have HX := Lib.hid (HX.out.below hb); obtain ⟨x0, x1, x2, x3, x4, x5, x6, x7, x8, -⟩ := cells9' HX.out.box
            have Hcb := Lib.hid (costR_ok hbst.good)
            rw [hbst.cost] at Hcb
            have hls := hbst.least _ hgd
            have hlx : cs = r.cost s0 → befB s0 st = false := fun e => lexI_bef (by rw [hbst.good.len, hgd.len]) (hls.elim (fun h => absurd e (by omega)) (fun h => h.2))
            obtain ⟨C, hC⟩ : ∃ C, r.cost s0 = C := ⟨_, rfl⟩
            rw [hC] at hls hlx
            simp only [hC] at H5
            clear hb ho hbst hgd hC
            by_cases hlt : cs < C
            · clear hls hlx
              go_wp2_with (first
                | (go_at_call 17; (with_reducible refine (H1.out _ HX.out).mono ?_); rintro e1 w9 ⟨rfl, hb⟩; (try have HL := Lib.hid (HL.out.below hb)); have HX := Lib.hid (HX.out.below hb); obtain ⟨x0, x1, x2, x3, x4, x5, x6, x7, x8, -⟩ := cells9' HX.out.box; clear hb)
                | (go_at_call 19; (with_reducible refine (Hlv.out _ HX.out).mono ?_); rintro e1 w9 ⟨rfl, hb⟩; (try have HL := Lib.hid (HL.out.below hb)); have HX := Lib.hid (HX.out.below hb); obtain ⟨x0, x1, x2, x3, x4, x5, x6, x7, x8, -⟩ := cells9' HX.out.box; clear hb)
                | (go_at_call 26; (with_reducible refine (H2.out _ HX.out).mono ?_); rintro e1 w9 ⟨rfl, hb⟩; (try have HL := Lib.hid (HL.out.below hb)); have HX := Lib.hid (HX.out.below hb); obtain ⟨x0, x1, x2, x3, x4, x5, x6, x7, x8, -⟩ := cells9' HX.out.box; clear hb)
                | (go_at_call 34; (with_reducible refine (H5.out _ HX.out).mono ?_); rintro e1 w9 ⟨rfl, hb⟩; (try have HL := Lib.hid (HL.out.below hb)); have HX := Lib.hid (HX.out.below hb); obtain ⟨x0, x1, x2, x3, x4, x5, x6, x7, x8, -⟩ := cells9' HX.out.box; clear hb)
                | (go_at_call 34; (with_reducible refine (H4.out _ HX.out _ _ _ HL.out).mono ?_); rw [Hcb.out]; rintro e1 w9 ⟨rfl, hb⟩; have HL := Lib.hid (HL.out.below hb); have HX := Lib.hid (HX.out.below hb); obtain ⟨x0, x1, x2, x3, x4, x5, x6, x7, x8, -⟩ := cells9' HX.out.box; clear hb))
              exact HY.out _ HX.out.bel
            · obtain rfl : cs = C := by omega
              have Hbf := Lib.hid (hlx rfl)
              clear hls hlx
              go_wp2_with (first
                | (go_at_call 17; (with_reducible refine (H1.out _ HX.out).mono ?_); rintro e1 w9 ⟨rfl, hb⟩; (try have HL := Lib.hid (HL.out.below hb)); have HX := Lib.hid (HX.out.below hb); obtain ⟨x0, x1, x2, x3, x4, x5, x6, x7, x8, -⟩ := cells9' HX.out.box; clear hb)
                | (go_at_call 19; (with_reducible refine (Hlv.out _ HX.out).mono ?_); rintro e1 w9 ⟨rfl, hb⟩; (try have HL := Lib.hid (HL.out.below hb)); have HX := Lib.hid (HX.out.below hb); obtain ⟨x0, x1, x2, x3, x4, x5, x6, x7, x8, -⟩ := cells9' HX.out.box; clear hb)
                | (go_at_call 26; (with_reducible refine (H2.out _ HX.out).mono ?_); rintro e1 w9 ⟨rfl, hb⟩; (try have HL := Lib.hid (HL.out.below hb)); have HX := Lib.hid (HX.out.below hb); obtain ⟨x0, x1, x2, x3, x4, x5, x6, x7, x8, -⟩ := cells9' HX.out.box; clear hb)
                | (go_at_call 34; (with_reducible refine (H5.out _ HX.out).mono ?_); rintro e1 w9 ⟨rfl, hb⟩; (try have HL := Lib.hid (HL.out.below hb)); have HX := Lib.hid (HX.out.below hb); obtain ⟨x0, x1, x2, x3, x4, x5, x6, x7, x8, -⟩ := cells9' HX.out.box; clear hb)
                | (go_at_call 34; (with_reducible refine (H4.out _ HX.out _ _ _ HL.out).mono ?_); rw [Hcb.out]; rintro e1 w9 ⟨rfl, hb⟩; have HL := Lib.hid (HL.out.below hb); have HX := Lib.hid (HX.out.below hb); obtain ⟨x0, x1, x2, x3, x4, x5, x6, x7, x8, -⟩ := cells9' HX.out.box; clear hb)
                | (go_at_call 40; (with_reducible refine (before_any _ _ _ _ _ _ _ _ _ HX.out.S HL.out (by omega) (by omega)).mono ?_); rw [Hbf.out]; rintro e1 w9 ⟨rfl, hb⟩; have HX := Lib.hid (HX.out.below hb); obtain ⟨x0, x1, x2, x3, x4, x5, x6, x7, x8, -⟩ := cells9' HX.out.box; clear hb))
              exact HY.out _ HX.out.bel
end Go.Proofs.Ytgmphiklkllnlaa
