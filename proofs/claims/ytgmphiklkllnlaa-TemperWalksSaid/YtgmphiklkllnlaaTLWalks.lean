/-
  The contract of clavecinlaw03.TemperWalks: true at every input.
-/
import Derived.Test.YtgmphiklkllnlaaTLk
import Derived.Test.YtgmphiklkllnlaaTBet2
import Derived.Test.YtgmphiklkllnlaaTDear
namespace Go.Proofs.Ytgmphiklkllnlaa
open Go.RowKit
set_option maxRecDepth 8000 in
set_option maxHeartbeats 16000000 in
theorem walks_any (x : Rn) (A B D : Option Addr) (n c m d q e : Nat) (fi th st : List Int) (w : World) (hF : SlE intE 1 w A n fi) (hT : SlE intE 1 w B m th) (hS : SlE intE 1 w D q st)
    (hn : n ≤ c) (hc : c ≤ 9223372036854775807) (hm : m ≤ d) (hd : d ≤ 9223372036854775807) (hq : q ≤ e) (he : e ≤ 9223372036854775807) :
    Calls Try.prog 15 #[.agg #[.int .i64 x.N, .int .i64 x.S, .int .i64 x.low, .int .i64 x.high, .int .i64 x.total, .int .i64 x.pure, .int .i64 x.worst, .slice A n c, .slice B m d], .slice D q e] w fun en w' => en = .returned (.bool true) ∧ Below w.heap.size w w' := by
  refine calls_cps ?_
  intro R hR
  have hb1 := below_new w (.cells #[.int .i64 x.N, .int .i64 x.S, .int .i64 x.low, .int .i64 x.high, .int .i64 x.total, .int .i64 x.pure, .int .i64 x.worst, .slice A n c, .slice B m d] 24)
  have Hb1 := Lib.hid hb1
  obtain ⟨w1, hw1⟩ : ∃ w1, w.alloc (.cells #[.int .i64 x.N, .int .i64 x.S, .int .i64 x.low, .int .i64 x.high, .int .i64 x.total, .int .i64 x.pure, .int .i64 x.worst, .slice A n c, .slice B m d] 24) = w1 := ⟨_, rfl⟩
  have hcx := cells9' (heap_alloc_new w (.cells #[.int .i64 x.N, .int .i64 x.S, .int .i64 x.low, .int .i64 x.high, .int .i64 x.total, .int .i64 x.pure, .int .i64 x.worst, .slice A n c, .slice B m d] 24))
  rw [hw1] at hcx hb1
  have Hsh := Lib.hid (short_any x A B n c m d fi th w1 (hF.below hb1) (hT.below hb1) hn hc hm hd)
  have Hct := Lib.hid (fun W h => cut_own D q e st 40 40 rfl (by omega) W h hq he)
  have HS1 := Lib.hid (hS.below hb1)
  have Hb1 := Lib.hid hb1
  obtain ⟨f0, hf0⟩ : ∃ f0, fi.take 40 = f0 := ⟨_, rfl⟩
  obtain ⟨t0, ht0⟩ : ∃ t0, th.take 40 = t0 := ⟨_, rfl⟩
  obtain ⟨s0, hs0⟩ : ∃ s0, st.take 40 = s0 := ⟨_, rfl⟩
  rw [hf0, ht0] at Hsh
  simp only [hs0] at Hct
  have hlf : f0.length ≤ 40 := by rw [← hf0, List.length_take]; omega
  have hlt : t0.length ≤ 40 := by rw [← ht0, List.length_take]; omega
  have hls : s0.length ≤ 40 := by rw [← hs0, List.length_take]; omega
  obtain ⟨n0, hn0⟩ : ∃ n0, f0.length = n0 := ⟨_, rfl⟩
  obtain ⟨m0, hm0⟩ : ∃ m0, t0.length = m0 := ⟨_, rfl⟩
  obtain ⟨q0, hq0⟩ : ∃ q0, s0.length = q0 := ⟨_, rfl⟩
  rw [hn0, hm0] at Hsh
  simp only [hq0] at Hct
  rw [hn0] at hlf
  rw [hm0] at hlt
  rw [hq0] at hls
  have Hq0 := Lib.hid hq0
  obtain ⟨N, S, low, high, total, pure, worst⟩ := x
  dsimp only at *
  obtain ⟨x0, x1, x2, x3, x4, x5, x6, x7, x8, xf⟩ := hcx
  clear hF hT hS hb1 hf0 ht0 hs0 hn0 hm0 hq0
  subst hw1
  go_enter Try.func15, Try.ntmps15
  go_upto_region 2 with (first
    | (go_at_call 16; (with_reducible refine Hsh.out.mono ?_); rintro e1 w2 ⟨⟨A2, B2, c2, d2, rfl, sA, sB⟩, hb2⟩; have HA2 := Lib.hid sA; have HB2 := Lib.hid sB; have HS2 := Lib.hid (HS1.out.below hb2); have Hb2 := Lib.hid (Hb1.out.trans (hb2.mono Hb1.out.size)); clear sA sB hb2)
    | (go_at_call 32; (with_reducible refine (Hct.out _ HS2.out).mono ?_); rintro e2 w3 ⟨D3, e3, rfl, ho3, hb3⟩; have HA3 := Lib.hid (HA2.out.below hb3); have HB3 := Lib.hid (HB2.out.below hb3); have HS3 := Lib.hid (SlE.of_own ho3 Hq0.out.symm); have Hb3 := Lib.hid (Hb2.out.trans (hb3.mono Hb2.out.size)); clear ho3 hb3))
  obtain ⟨bb, hbb⟩ : ∃ bb, w3.heap.size = bb := ⟨_, rfl⟩
  have hX4 : Bx w (w3.alloc (.cells #[.int .i64 N, .int .i64 S, .int .i64 low, .int .i64 high, .int .i64 total, .int .i64 pure, .int .i64 worst, .slice A2 n0 c2, .slice B2 m0 d2] 24)) bb N S low high total pure worst A2 B2 D3 n0 c2 m0 d2 q0 e3 f0 t0 s0 :=
    ⟨by rw [← hbb]; exact heap_alloc_new w3 _, HA3.out.alloc _, HB3.out.alloc _, HS3.out.alloc _, Hb3.out.alloc Hb3.out.size _⟩
  obtain ⟨w4, hw4⟩ : ∃ w4, w3.alloc (.cells #[.int .i64 N, .int .i64 S, .int .i64 low, .int .i64 high, .int .i64 total, .int .i64 pure, .int .i64 worst, .slice A2 n0 c2, .slice B2 m0 d2] 24) = w4 := ⟨_, rfl⟩
  rw [hw4] at hX4 ⊢
  rw [hbb]
  have HX := Lib.hid hX4
  have HY := Lib.hid (fun W (h : Below w.heap.size w W) => hR.out (.returned (.bool true)) W ⟨rfl, h⟩)
  clear hR hw4 hbb hX4 HA2 HB2 HS2 HA3 HB3 HS3 Hb1 Hb2 Hb3 Hsh Hct HS1 x0 x1 x2 x3 x4 x5 x6 x7 x8 xf
  obtain ⟨x0, x1, x2, x3, x4, x5, x6, x7, x8, -⟩ := cells9' HX.out.box
  have Hlv := Lib.hid (fun (W : World) (_ : Bx w W bb N S low high total pure worst A2 B2 D3 n0 c2 m0 d2 q0 e3 f0 t0 s0) => lives_any W)
  cases hg : rgOk ⟨N, S, low, high, total, pure, worst⟩ f0 t0
  · have H1 := Lib.hid (fun (W : World) (h : Bx w W bb N S low high total pure worst A2 B2 D3 n0 c2 m0 d2 q0 e3 f0 t0 s0) => refCheck_bad ⟨N, S, low, high, total, pure, worst⟩ A2 B2 n0 c2 m0 d2 f0 t0 W h.F h.T (by omega) (by omega) hg)
    dsimp only at H1
    clear hg
    go_wp2_with (first
      | (go_at_call 17; (with_reducible refine (H1.out _ HX.out).mono ?_); rintro e1 w9 ⟨rfl, hb⟩; (try have HL := Lib.hid (HL.out.below hb)); have HX := Lib.hid (HX.out.below hb); obtain ⟨x0, x1, x2, x3, x4, x5, x6, x7, x8, -⟩ := cells9' HX.out.box; clear hb)
      | (go_at_call 19; (with_reducible refine (Hlv.out _ HX.out).mono ?_); rintro e1 w9 ⟨rfl, hb⟩; (try have HL := Lib.hid (HL.out.below hb)); have HX := Lib.hid (HX.out.below hb); obtain ⟨x0, x1, x2, x3, x4, x5, x6, x7, x8, -⟩ := cells9' HX.out.box; clear hb))
    exact HY.out _ HX.out.bel
  · obtain ⟨r, hr, rfl, rfl, rfl, rfl, rfl, rfl, rfl, rfl, rfl⟩ := ring_of hg
    clear hg
    have H1 := Lib.hid (fun (W : World) (h : Bx w W bb r.N r.S r.low r.high r.total r.pure r.worst A2 B2 D3 n0 c2 m0 d2 q0 e3 r.fi r.th s0) => refCheck_ok r hr A2 B2 n0 c2 m0 d2 W h.F h.T)
    have H2 := Lib.hid (fun (W : World) (_ : Bx w W bb r.N r.S r.low r.high r.total r.pure r.worst A2 B2 D3 n0 c2 m0 d2 q0 e3 r.fi r.th s0) => dear_any r hr A2 B2 n0 c2 m0 d2 W)
    have hr2 := hr.n2
    have hr1 := hr.n1
    cases hdr : r.dearB
    case true =>
      simp only [hdr] at H2
      clear hdr
      go_wp2_with (first
        | (go_at_call 17; (with_reducible refine (H1.out _ HX.out).mono ?_); rintro e1 w9 ⟨rfl, hb⟩; (try have HL := Lib.hid (HL.out.below hb)); have HX := Lib.hid (HX.out.below hb); obtain ⟨x0, x1, x2, x3, x4, x5, x6, x7, x8, -⟩ := cells9' HX.out.box; clear hb)
        | (go_at_call 19; (with_reducible refine (Hlv.out _ HX.out).mono ?_); rintro e1 w9 ⟨rfl, hb⟩; (try have HL := Lib.hid (HL.out.below hb)); have HX := Lib.hid (HX.out.below hb); obtain ⟨x0, x1, x2, x3, x4, x5, x6, x7, x8, -⟩ := cells9' HX.out.box; clear hb)
        | (go_at_call 26; (with_reducible refine (H2.out _ HX.out).mono ?_); rintro e1 w9 ⟨rfl, hb⟩; (try have HL := Lib.hid (HL.out.below hb)); have HX := Lib.hid (HX.out.below hb); obtain ⟨x0, x1, x2, x3, x4, x5, x6, x7, x8, -⟩ := cells9' HX.out.box; clear hb))
      exact HY.out _ HX.out.bel
    case false =>
      simp only [hdr] at H2
      clear hdr
      have H3 := Lib.hid (fun (W : World) (h : Bx w W bb r.N r.S r.low r.high r.total r.pure r.worst A2 B2 D3 n0 c2 m0 d2 q0 e3 r.fi r.th s0) => callsIn_wide.1 (best_ok 6 (Nat.le_refl _) r hr A2 B2 n0 c2 m0 d2 W h.F h.T))
      have H5 := Lib.hid (fun (W : World) (h : Bx w W bb r.N r.S r.low r.high r.total r.pure r.worst A2 B2 D3 n0 c2 m0 d2 q0 e3 r.fi r.th s0) => cost_any r hr A2 B2 D3 n0 c2 m0 d2 q0 e3 s0 W h.F h.T h.S (by omega))
      have H4 := Lib.hid (fun (W : World) (h : Bx w W bb r.N r.S r.low r.high r.total r.pure r.worst A2 B2 D3 n0 c2 m0 d2 q0 e3 r.fi r.th s0) (st : List Int) (A5 : Option Addr) (c5 : Nat) (hs : SlE intE 1 W A5 r.N st) => cost_any r hr A2 B2 A5 n0 c2 m0 d2 r.N c5 st W h.F h.T hs (by omega))
      have H6 := Lib.hid (fun (W : World) (h : Bx w W bb r.N r.S r.low r.high r.total r.pure r.worst A2 B2 D3 n0 c2 m0 d2 q0 e3 r.fi r.th s0) (st : List Int) (A5 : Option Addr) (c5 : Nat) (hs : SlE intE 1 W A5 r.N st) (hg : r.Good st) => better_ok r hr A2 B2 A5 n0 c2 m0 d2 r.N c5 st W h.F h.T hs hg)
      have H15 := Lib.hid (fun (st : List Int) (hg : r.Good st) => st_15 hr hg.rng)
      clear hr
      cases hfit : r.fitsB s0
      case false =>
        have ec : r.costR s0 = (0, 2) := by unfold Rg.costR; rw [hfit]; rfl
        simp only [ec] at H5
        clear ec
        go_wp2_with (first
          | (go_at_call 17; (with_reducible refine (H1.out _ HX.out).mono ?_); rintro e1 w9 ⟨rfl, hb⟩; (try have HL := Lib.hid (HL.out.below hb)); have HX := Lib.hid (HX.out.below hb); obtain ⟨x0, x1, x2, x3, x4, x5, x6, x7, x8, -⟩ := cells9' HX.out.box; clear hb)
          | (go_at_call 19; (with_reducible refine (Hlv.out _ HX.out).mono ?_); rintro e1 w9 ⟨rfl, hb⟩; (try have HL := Lib.hid (HL.out.below hb)); have HX := Lib.hid (HX.out.below hb); obtain ⟨x0, x1, x2, x3, x4, x5, x6, x7, x8, -⟩ := cells9' HX.out.box; clear hb)
          | (go_at_call 26; (with_reducible refine (H2.out _ HX.out).mono ?_); rintro e1 w9 ⟨rfl, hb⟩; (try have HL := Lib.hid (HL.out.below hb)); have HX := Lib.hid (HX.out.below hb); obtain ⟨x0, x1, x2, x3, x4, x5, x6, x7, x8, -⟩ := cells9' HX.out.box; clear hb)
          | (go_at_call 34; (with_reducible refine (H5.out _ HX.out).mono ?_); rintro e1 w9 ⟨rfl, hb⟩; (try have HL := Lib.hid (HL.out.below hb)); have HX := Lib.hid (HX.out.below hb); obtain ⟨x0, x1, x2, x3, x4, x5, x6, x7, x8, -⟩ := cells9' HX.out.box; clear hb))
        exact HY.out _ HX.out.bel
      case true =>
        cases hal : r.allowB s0
        case false =>
          have ec : r.costR s0 = (0, 6) := by unfold Rg.costR; rw [hfit, hal]; rfl
          simp only [ec] at H5
          clear ec
          go_wp2_with (first
            | (go_at_call 17; (with_reducible refine (H1.out _ HX.out).mono ?_); rintro e1 w9 ⟨rfl, hb⟩; (try have HL := Lib.hid (HL.out.below hb)); have HX := Lib.hid (HX.out.below hb); obtain ⟨x0, x1, x2, x3, x4, x5, x6, x7, x8, -⟩ := cells9' HX.out.box; clear hb)
            | (go_at_call 19; (with_reducible refine (Hlv.out _ HX.out).mono ?_); rintro e1 w9 ⟨rfl, hb⟩; (try have HL := Lib.hid (HL.out.below hb)); have HX := Lib.hid (HX.out.below hb); obtain ⟨x0, x1, x2, x3, x4, x5, x6, x7, x8, -⟩ := cells9' HX.out.box; clear hb)
            | (go_at_call 26; (with_reducible refine (H2.out _ HX.out).mono ?_); rintro e1 w9 ⟨rfl, hb⟩; (try have HL := Lib.hid (HL.out.below hb)); have HX := Lib.hid (HX.out.below hb); obtain ⟨x0, x1, x2, x3, x4, x5, x6, x7, x8, -⟩ := cells9' HX.out.box; clear hb)
            | (go_at_call 34; (with_reducible refine (H5.out _ HX.out).mono ?_); rintro e1 w9 ⟨rfl, hb⟩; (try have HL := Lib.hid (HL.out.below hb)); have HX := Lib.hid (HX.out.below hb); obtain ⟨x0, x1, x2, x3, x4, x5, x6, x7, x8, -⟩ := cells9' HX.out.box; clear hb))
          exact HY.out _ HX.out.bel
        case true =>
          have hgd : r.Good s0 := good_iff.2 ⟨hfit, hal⟩
          have Hgd := Lib.hid hgd
          have ec : r.costR s0 = (r.cost s0, 0) := by unfold Rg.costR; rw [hfit, hal]; rfl
          simp only [ec] at H5
          clear ec hfit hal hgd
          obtain ⟨C0, hC0⟩ : ∃ C0, r.cost s0 = C0 := ⟨_, rfl⟩
          simp only [hC0] at H5
          have HC0 := Lib.hid hC0
          clear hC0
          obtain rfl : q0 = r.N := by rw [← Hgd.out.len]; exact HX.out.S.1
          go_upto_region 8 with (first
            | (go_at_call 17; (with_reducible refine (H1.out _ HX.out).mono ?_); rintro e1 w9 ⟨rfl, hb⟩; (try have HL := Lib.hid (HL.out.below hb)); have HX := Lib.hid (HX.out.below hb); obtain ⟨x0, x1, x2, x3, x4, x5, x6, x7, x8, -⟩ := cells9' HX.out.box; clear hb)
            | (go_at_call 19; (with_reducible refine (Hlv.out _ HX.out).mono ?_); rintro e1 w9 ⟨rfl, hb⟩; (try have HL := Lib.hid (HL.out.below hb)); have HX := Lib.hid (HX.out.below hb); obtain ⟨x0, x1, x2, x3, x4, x5, x6, x7, x8, -⟩ := cells9' HX.out.box; clear hb)
            | (go_at_call 26; (with_reducible refine (H2.out _ HX.out).mono ?_); rintro e1 w9 ⟨rfl, hb⟩; (try have HL := Lib.hid (HL.out.below hb)); have HX := Lib.hid (HX.out.below hb); obtain ⟨x0, x1, x2, x3, x4, x5, x6, x7, x8, -⟩ := cells9' HX.out.box; clear hb)
            | (go_at_call 34; (with_reducible refine (H5.out _ HX.out).mono ?_); rintro e1 w9 ⟨rfl, hb⟩; (try have HL := Lib.hid (HL.out.below hb)); have HX := Lib.hid (HX.out.below hb); obtain ⟨x0, x1, x2, x3, x4, x5, x6, x7, x8, -⟩ := cells9' HX.out.box; clear hb)
            | (go_at_call 20; (with_reducible refine (H3.out _ HX.out).mono ?_); rintro e1 w9 ⟨hbs, hb⟩; rcases hbs with ⟨rfl, hno⟩ | ⟨st, cs, A5, c5, rfl, hbst, ho⟩))
          · exact absurd Hgd.out (hno _)
          · have HX := Lib.hid (HX.out.below hb); obtain ⟨x0, x1, x2, x3, x4, x5, x6, x7, x8, -⟩ := cells9' HX.out.box
            have Hbs := Lib.hid hbst
            clear hb ho hbst H5 H3 H1 H2
            go_wp2_with fail
            go_loopw [6, 7, 12] (fun s6 s7 s12 wr => ∃ (k : Nat) (L : List Int) (A6 : Option Addr) (c6 : Nat) (C : Int), s12 = .int .i64 (k : Nat) ∧ k ≤ 40 ∧ s6 = .slice A6 r.N c6 ∧ s7 = .int .i64 C ∧ Hid (r.Good L ∧ r.cost L = C ∧ SlE intE 1 wr A6 r.N L) ∧ Bx w wr bb r.N r.S r.low r.high r.total r.pure r.worst A2 B2 D3 n0 c2 m0 d2 r.N e3 r.fi r.th s0) (fun _ _ i _ => 40 - (intOf i).toNat)
            case atStart => exact ⟨0, s0, D3, e3, C0, rfl, by omega, rfl, rfl, Lib.hid ⟨Hgd.out, HC0.out, HX.out.S⟩, HX.out⟩
            case round =>
              obtain ⟨k, L, A6, c6, C, rfl, hk, rfl, rfl, HG, hX⟩ := hrel
              clear x0 x1 x2 x3 x4 x5 x6 x7 x8 HX HC0 Hgd
              have HX := Lib.hid hX
              have HL := Lib.hid HG.out.2.2
              clear hX
              obtain ⟨x0, x1, x2, x3, x4, x5, x6, x7, x8, -⟩ := cells9' HX.out.box
              have hle : cs ≤ C := by have h1 := Hbs.out.least _ HG.out.1; have h2 := HG.out.2.1; omega
              have Hlv2 := Lib.hid (fun (W : World) (_ : Bx w W bb r.N r.S r.low r.high r.total r.pure r.worst A2 B2 D3 n0 c2 m0 d2 r.N e3 r.fi r.th s0) => lives_any W)
              by_cases hlt : k < 40
              · have i1 : (k : Int) < 40 := by omega
                go_upto_region 14 with (go_at_call 42; (with_reducible refine (H6.out _ HX.out _ _ _ HL.out HG.out.1).mono ?_); rintro e1 w9 ⟨X, Y, rfl, hB, hb⟩; have HL := Lib.hid (HL.out.below hb); have HX := Lib.hid (HX.out.below hb); obtain ⟨x0, x1, x2, x3, x4, x5, x6, x7, x8, -⟩ := cells9' HX.out.box; clear hb; rcases hB with ⟨rfl, rfl, -⟩ | ⟨i, j, hi, hj, rfl, rfl, hbt, -⟩)
                · go_wp2_with (first | (go_at_call 19; (with_reducible refine (Hlv2.out _ HX.out).mono ?_); rintro e1 w9 ⟨rfl, hb⟩; (try have HL := Lib.hid (HL.out.below hb)); have HX := Lib.hid (HX.out.below hb); obtain ⟨x0, x1, x2, x3, x4, x5, x6, x7, x8, -⟩ := cells9' HX.out.box; clear hb))
                  exact HY.out _ HX.out.bel
                · have Hbt := Lib.hid (show i ≠ j ∧ r.Good (mvd L i j) ∧ r.cost (mvd L i j) < C from by
                    unfold Rg.btr at hbt
                    simp only [Bool.and_eq_true, decide_eq_true_eq] at hbt
                    have := HG.out.2.1
                    exact ⟨hbt.1.1.1, good_iff.2 ⟨hbt.1.1.2, hbt.1.2⟩, by omega⟩)
                  clear hbt
                  obtain ⟨bd, od, rfl, -, -⟩ := HL.out.2.2 (by omega)
                  have j0 : ((i : Int) == (j : Int)) = false := by have := Hbt.out.1; simp; omega
                  have j1 : ¬ (i : Int) = (j : Int) := by have := Hbt.out.1; omega
                  have j2 : (i : Int) < (r.N : Int) := by omega
                  have j3 : (j : Int) < (r.N : Int) := by omega
                  have j4 : ¬ (i : Int) < 0 := by omega
                  have j5 : ¬ (j : Int) < 0 := by omega
                  obtain ⟨d, hd⟩ : ∃ d, r.cost (mvd L i j) = d := ⟨_, rfl⟩
                  have Hcb := Lib.hid (costR_ok Hbt.out.2.1)
                  rw [hd] at Hcb
                  have hdC : d < C := by have := Hbt.out.2.2; omega
                  have j6 : ¬ C ≤ d := by omega
                  have Hd := Lib.hid hd
                  clear hd
                  go_wp2_with (first
                    | (go_at_call 44; (with_reducible refine (moved_any _ _ _ L i j _ HL.out (by omega) hi hj (H15.out _ HG.out.1)).mono ?_); rintro e1 w9 ⟨gm, cm, rfl, ho, hb⟩; have HM := Lib.hid (SlE.of_own ho (by rw [mvd_len, ← HG.out.1.len])); have HX := Lib.hid (HX.out.below hb); obtain ⟨x0, x1, x2, x3, x4, x5, x6, x7, x8, -⟩ := cells9' HX.out.box; clear ho hb)
                    | (go_at_call 34; (with_reducible refine (H4.out _ HX.out _ _ _ HM.out).mono ?_); rw [Hcb.out]; rintro e1 w9 ⟨rfl, hb⟩; have HM := Lib.hid (HM.out.below hb); have HX := Lib.hid (HX.out.below hb); obtain ⟨x0, x1, x2, x3, x4, x5, x6, x7, x8, -⟩ := cells9' HX.out.box; clear hb))
                  exact ⟨⟨k + 1, mvd L i j, _, _, d, by go_num, by omega, rfl, rfl, Lib.hid ⟨Hbt.out.2.1, Hd.out, HM.out⟩, HX.out⟩, by simp [intOf]; omega⟩
              · obtain rfl : k = 40 := by omega
                go_wp2_with (first | (go_at_call 19; (with_reducible refine (Hlv2.out _ HX.out).mono ?_); rintro e1 w9 ⟨rfl, hb⟩; (try have HL := Lib.hid (HL.out.below hb)); have HX := Lib.hid (HX.out.below hb); obtain ⟨x0, x1, x2, x3, x4, x5, x6, x7, x8, -⟩ := cells9' HX.out.box; clear hb))
                exact HY.out _ HX.out.bel
end Go.Proofs.Ytgmphiklkllnlaa
