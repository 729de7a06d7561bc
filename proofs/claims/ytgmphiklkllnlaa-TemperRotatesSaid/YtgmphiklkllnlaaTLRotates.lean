/-
  The contract of clavecinlaw03.TemperRotates: true at every input.
-/
import Derived.Test.YtgmphiklkllnlaaTTurn
import Derived.Test.YtgmphiklkllnlaaTBno
import Derived.Test.YtgmphiklkllnlaaTDear
namespace Go.Proofs.Ytgmphiklkllnlaa
open Go.RowKit
theorem row_mod (row : Int) {L : Nat} (hL : 1 ≤ L) : ∃ (r : Int) (k : Nat), Int.tmod row (L : Int) = r ∧ -(L : Int) < r ∧ r < (L : Int) ∧ 0 ≤ r + (L : Int) ∧ (r + (L : Int)) % (L : Int) = (k : Int) ∧ k < L := by
  have h1 : Int.tmod row (L : Int) < L := Int.tmod_lt_of_pos row (by omega)
  have h2 : -(L : Int) < Int.tmod row (L : Int) := by
    have := Int.tmod_lt_of_pos (-row) (b := (L : Int)) (by omega)
    rw [Int.neg_tmod] at this
    omega
  have h3 : 0 ≤ (Int.tmod row (L : Int) + L) % L := Int.emod_nonneg _ (by omega)
  have h4 : (Int.tmod row (L : Int) + L) % L < L := Int.emod_lt_of_pos _ (by omega)
  exact ⟨_, ((Int.tmod row (L : Int) + L) % L).toNat, rfl, h2, h1, by omega, by omega, by omega⟩
set_option maxRecDepth 8000 in
set_option maxHeartbeats 16000000 in
theorem rotates_any (x : Rn) (A B D : Option Addr) (n c m d q e : Nat) (fi th st : List Int) (bz : Int) (w : World) (hF : SlE intE 1 w A n fi) (hT : SlE intE 1 w B m th) (hS : SlE intE 1 w D q st)
    (hn : n ≤ c) (hc : c ≤ 9223372036854775807) (hm : m ≤ d) (hd : d ≤ 9223372036854775807) (hq : q ≤ e) (he : e ≤ 9223372036854775807) :
    Calls Try.prog 12 #[.agg #[.int .i64 x.N, .int .i64 x.S, .int .i64 x.low, .int .i64 x.high, .int .i64 x.total, .int .i64 x.pure, .int .i64 x.worst, .slice A n c, .slice B m d], .slice D q e, .int .i64 bz] w fun en w' => en = .returned (.bool true) ∧ Below w.heap.size w w' := by
  refine calls_cps ?_
  intro R hR
  have hb1 := below_new w (.cells #[.int .i64 x.N, .int .i64 x.S, .int .i64 x.low, .int .i64 x.high, .int .i64 x.total, .int .i64 x.pure, .int .i64 x.worst, .slice A n c, .slice B m d] 24)
  have Hb1 := Lib.hid hb1
  obtain ⟨w1, hw1⟩ : ∃ w1, w.alloc (.cells #[.int .i64 x.N, .int .i64 x.S, .int .i64 x.low, .int .i64 x.high, .int .i64 x.total, .int .i64 x.pure, .int .i64 x.worst, .slice A n c, .slice B m d] 24) = w1 := ⟨_, rfl⟩
  have hcx := cells9' (heap_alloc_new w (.cells #[.int .i64 x.N, .int .i64 x.S, .int .i64 x.low, .int .i64 x.high, .int .i64 x.total, .int .i64 x.pure, .int .i64 x.worst, .slice A n c, .slice B m d] 24))
  rw [hw1] at hcx hb1
  have Hsh := Lib.hid (short_any x A B n c m d fi th w1 (hF.below hb1) (hT.below hb1) hn hc hm hd)
  have Hct := Lib.hid (fun W h => cut_own D q e st 40 40 rfl (by omega) W h hq he)
  have HS1 := Lib.hid (hS.below hb1)
  have Hb1 := Lib.hid hb1
  obtain ⟨f0, hf0⟩ : ∃ f0, fi.take 40 = f0 := ⟨_, rfl⟩
  obtain ⟨t0, ht0⟩ : ∃ t0, th.take 40 = t0 := ⟨_, rfl⟩
  obtain ⟨s0, hs0⟩ : ∃ s0, st.take 40 = s0 := ⟨_, rfl⟩
  rw [hf0, ht0] at Hsh
  simp only [hs0] at Hct
  have hlf : f0.length ≤ 40 := by rw [← hf0, List.length_take]; omega
  have hlt : t0.length ≤ 40 := by rw [← ht0, List.length_take]; omega
  have hls : s0.length ≤ 40 := by rw [← hs0, List.length_take]; omega
  obtain ⟨n0, hn0⟩ : ∃ n0, f0.length = n0 := ⟨_, rfl⟩
  obtain ⟨m0, hm0⟩ : ∃ m0, t0.length = m0 := ⟨_, rfl⟩
  obtain ⟨q0, hq0⟩ : ∃ q0, s0.length = q0 := ⟨_, rfl⟩
  rw [hn0, hm0] at Hsh
  simp only [hq0] at Hct
  rw [hn0] at hlf
  rw [hm0] at hlt
  rw [hq0] at hls
  have Hq0 := Lib.hid hq0
  obtain ⟨N, S, low, high, total, pure, worst⟩ := x
  dsimp only at *
  obtain ⟨x0, x1, x2, x3, x4, x5, x6, x7, x8, xf⟩ := hcx
  clear hF hT hS hb1 hf0 ht0 hs0 hn0 hm0 hq0
  subst hw1
  go_enter Try.func12, Try.ntmps12
  go_upto_region 2 with (first
    | (go_at_call 16; (with_reducible refine Hsh.out.mono ?_); rintro e1 w2 ⟨⟨A2, B2, c2, d2, rfl, sA, sB⟩, hb2⟩; have HA2 := Lib.hid sA; have HB2 := Lib.hid sB; have HS2 := Lib.hid (HS1.out.below hb2); have Hb2 := Lib.hid (Hb1.out.trans (hb2.mono Hb1.out.size)); clear sA sB hb2)
    | (go_at_call 32; (with_reducible refine (Hct.out _ HS2.out).mono ?_); rintro e2 w3 ⟨D3, e3, rfl, ho3, hb3⟩; have HA3 := Lib.hid (HA2.out.below hb3); have HB3 := Lib.hid (HB2.out.below hb3); have HS3 := Lib.hid (SlE.of_own ho3 Hq0.out.symm); have Hb3 := Lib.hid (Hb2.out.trans (hb3.mono Hb2.out.size)); clear ho3 hb3))
  obtain ⟨bb, hbb⟩ : ∃ bb, w3.heap.size = bb := ⟨_, rfl⟩
  have hX4 : Bx w (w3.alloc (.cells #[.int .i64 N, .int .i64 S, .int .i64 low, .int .i64 high, .int .i64 total, .int .i64 pure, .int .i64 worst, .slice A2 n0 c2, .slice B2 m0 d2] 24)) bb N S low high total pure worst A2 B2 D3 n0 c2 m0 d2 q0 e3 f0 t0 s0 :=
    ⟨by rw [← hbb]; exact heap_alloc_new w3 _, HA3.out.alloc _, HB3.out.alloc _, HS3.out.alloc _, Hb3.out.alloc Hb3.out.size _⟩
  obtain ⟨w4, hw4⟩ : ∃ w4, w3.alloc (.cells #[.int .i64 N, .int .i64 S, .int .i64 low, .int .i64 high, .int .i64 total, .int .i64 pure, .int .i64 worst, .slice A2 n0 c2, .slice B2 m0 d2] 24) = w4 := ⟨_, rfl⟩
  rw [hw4] at hX4 ⊢
  rw [hbb]
  have HX := Lib.hid hX4
  have HY := Lib.hid (fun W (h : Below w.heap.size w W) => hR.out (.returned (.bool true)) W ⟨rfl, h⟩)
  clear hR hw4 hbb hX4 HA2 HB2 HS2 HA3 HB3 HS3 Hb1 Hb2 Hb3 Hsh Hct HS1 x0 x1 x2 x3 x4 x5 x6 x7 x8 xf
  obtain ⟨x0, x1, x2, x3, x4, x5, x6, x7, x8, -⟩ := cells9' HX.out.box
  have Hlv := Lib.hid (fun (W : World) (_ : Bx w W bb N S low high total pure worst A2 B2 D3 n0 c2 m0 d2 q0 e3 f0 t0 s0) => lives_any W)
  cases hg : rgOk ⟨N, S, low, high, total, pure, worst⟩ f0 t0
  · have H1 := Lib.hid (fun (W : World) (h : Bx w W bb N S low high total pure worst A2 B2 D3 n0 c2 m0 d2 q0 e3 f0 t0 s0) => refCheck_bad ⟨N, S, low, high, total, pure, worst⟩ A2 B2 n0 c2 m0 d2 f0 t0 W h.F h.T (by omega) (by omega) hg)
    dsimp only at H1
    clear hg
    go_wp2_with (first
      | (go_at_call 17; (with_reducible refine (H1.out _ HX.out).mono ?_); rintro e1 w9 ⟨rfl, hb⟩; (try have HL := Lib.hid (HL.out.below hb)); have HX := Lib.hid (HX.out.below hb); obtain ⟨x0, x1, x2, x3, x4, x5, x6, x7, x8, -⟩ := cells9' HX.out.box; clear hb)
      | (go_at_call 19; (with_reducible refine (Hlv.out _ HX.out).mono ?_); rintro e1 w9 ⟨rfl, hb⟩; (try have HL := Lib.hid (HL.out.below hb)); have HX := Lib.hid (HX.out.below hb); obtain ⟨x0, x1, x2, x3, x4, x5, x6, x7, x8, -⟩ := cells9' HX.out.box; clear hb))
    exact HY.out _ HX.out.bel
  · obtain ⟨r, hr, rfl, rfl, rfl, rfl, rfl, rfl, rfl, rfl, rfl⟩ := ring_of hg
    clear hg
    obtain rfl : n0 = r.N := HX.out.F.1.trans hr.fl
    obtain rfl : m0 = r.N := HX.out.T.1.trans hr.tl
    have H1 := Lib.hid (fun (W : World) (h : Bx w W bb r.N r.S r.low r.high r.total r.pure r.worst A2 B2 D3 r.N c2 r.N d2 q0 e3 r.fi r.th s0) => refCheck_ok r hr A2 B2 r.N c2 r.N d2 W h.F h.T)
    have H2 := Lib.hid (fun (W : World) (_ : Bx w W bb r.N r.S r.low r.high r.total r.pure r.worst A2 B2 D3 r.N c2 r.N d2 q0 e3 r.fi r.th s0) => dear_any r hr A2 B2 r.N c2 r.N d2 W)
    have hr2 := hr.n2
    have hr1 := hr.n1
    cases hdr : r.dearB
    case true =>
      simp only [hdr] at H2
      clear hdr
      go_wp2_with (first
        | (go_at_call 17; (with_reducible refine (H1.out _ HX.out).mono ?_); rintro e1 w9 ⟨rfl, hb⟩; (try have HL := Lib.hid (HL.out.below hb)); have HX := Lib.hid (HX.out.below hb); obtain ⟨x0, x1, x2, x3, x4, x5, x6, x7, x8, -⟩ := cells9' HX.out.box; clear hb)
        | (go_at_call 19; (with_reducible refine (Hlv.out _ HX.out).mono ?_); rintro e1 w9 ⟨rfl, hb⟩; (try have HL := Lib.hid (HL.out.below hb)); have HX := Lib.hid (HX.out.below hb); obtain ⟨x0, x1, x2, x3, x4, x5, x6, x7, x8, -⟩ := cells9' HX.out.box; clear hb)
        | (go_at_call 26; (with_reducible refine (H2.out _ HX.out).mono ?_); rintro e1 w9 ⟨rfl, hb⟩; (try have HL := Lib.hid (HL.out.below hb)); have HX := Lib.hid (HX.out.below hb); obtain ⟨x0, x1, x2, x3, x4, x5, x6, x7, x8, -⟩ := cells9' HX.out.box; clear hb))
      exact HY.out _ HX.out.bel
    case false =>
      simp only [hdr] at H2
      clear hdr
      obtain ⟨z, b, hz1, hz2, hz3, hz4, hz5, hbN⟩ := row_mod bz (L := r.N) (by omega)
      have hN0 : ¬ (r.N : Int) = 0 := by omega
      have hNp : (0 : Int) < (r.N : Int) := by omega
      obtain ⟨cs, hcs1, hcs2⟩ := like_cost (rot_same hr hbN) (rot_same' hr hbN)
      have Hr := Lib.hid hr
      have Hcs := Lib.hid (And.intro hcs1 hcs2)
      clear hr hcs1 hcs2
      go_upto_region 4 with (first
        | (go_at_call 17; (with_reducible refine (H1.out _ HX.out).mono ?_); rintro e1 w9 ⟨rfl, hb⟩; (try have HL := Lib.hid (HL.out.below hb)); have HX := Lib.hid (HX.out.below hb); obtain ⟨x0, x1, x2, x3, x4, x5, x6, x7, x8, -⟩ := cells9' HX.out.box; clear hb)
        | (go_at_call 19; (with_reducible refine (Hlv.out _ HX.out).mono ?_); rintro e1 w9 ⟨rfl, hb⟩; (try have HL := Lib.hid (HL.out.below hb)); have HX := Lib.hid (HX.out.below hb); obtain ⟨x0, x1, x2, x3, x4, x5, x6, x7, x8, -⟩ := cells9' HX.out.box; clear hb)
        | (go_at_call 26; (with_reducible refine (H2.out _ HX.out).mono ?_); rintro e1 w9 ⟨rfl, hb⟩; (try have HL := Lib.hid (HL.out.below hb)); have HX := Lib.hid (HX.out.below hb); obtain ⟨x0, x1, x2, x3, x4, x5, x6, x7, x8, -⟩ := cells9' HX.out.box; clear hb))
      go_quiet (fail)
      rw [hz5]
      clear hz1 hz2 hz3 hz4 hz5 hN0 hNp
      have hXd : Bx w (w9.drewN nq) bb r.N r.S r.low r.high r.total r.pure r.worst A2 B2 D3 r.N c2 r.N d2 q0 e3 r.fi r.th s0 := HX.out.below (below_drewN (Below.refl _ _) nq)
      obtain ⟨W5, hW5⟩ : ∃ W5, w9.drewN nq = W5 := ⟨_, rfl⟩
      rw [hW5] at hXd ⊢
      have HX := Lib.hid hXd
      clear hXd hW5 x0 x1 x2 x3 x4 x5 x6 x7 x8
      obtain ⟨x0, x1, x2, x3, x4, x5, x6, x7, x8, -⟩ := cells9' HX.out.box
      go_upto_region 6 with fail
      have hq6 := heap_alloc_new W5 (.cells #[.int .i64 r.N, .int .i64 r.S, .int .i64 r.low, .int .i64 r.high, .int .i64 r.total, .int .i64 r.pure, .int .i64 r.worst, .slice A2 r.N c2, .slice B2 r.N d2] 24)
      have hb6 := below_new W5 (.cells #[.int .i64 r.N, .int .i64 r.S, .int .i64 r.low, .int .i64 r.high, .int .i64 r.total, .int .i64 r.pure, .int .i64 r.worst, .slice A2 r.N c2, .slice B2 r.N d2] 24)
      have hs6 : (W5.alloc (.cells #[.int .i64 r.N, .int .i64 r.S, .int .i64 r.low, .int .i64 r.high, .int .i64 r.total, .int .i64 r.pure, .int .i64 r.worst, .slice A2 r.N c2, .slice B2 r.N d2] 24)).heap.size = W5.heap.size + 1 := by simp
      obtain ⟨bq, hbq⟩ : ∃ bq, W5.heap.size = bq := ⟨_, rfl⟩
      obtain ⟨W6, hW6⟩ : ∃ W6, W5.alloc (.cells #[.int .i64 r.N, .int .i64 r.S, .int .i64 r.low, .int .i64 r.high, .int .i64 r.total, .int .i64 r.pure, .int .i64 r.worst, .slice A2 r.N c2, .slice B2 r.N d2] 24) = W6 := ⟨_, rfl⟩
      rw [hW6] at hq6 hb6 hs6 ⊢
      rw [hbq] at hq6 hb6 hs6 ⊢
      have Hb6 := Lib.hid hb6
      have Hq6 := Lib.hid hq6
      have hX6 := HX.out.below (by rw [hbq]; exact hb6)
      have hbb : bb < bq := by rw [← hbq]; exact (Array.getElem?_eq_some_iff.1 HX.out.box).1
      have Hbq := Lib.hid hbq
      have Hcf := Lib.hid (turned_any A2 r.N c2 b r.fi W6.drew hX6.F (by omega) (by omega))
      have Hct := Lib.hid (fun W2 (h : SlE intE 1 W2 B2 r.N r.th) => turned_any B2 r.N d2 b r.th W2 h (by omega) (by omega))
      have HT6 := Lib.hid (show SlE intE 1 W6.drew B2 r.N r.th from hX6.T)
      have Hx6 := Lib.hid hX6.box
      clear hW6 hq6 hb6 hX6 hbq x0 x1 x2 x3 x4 x5 x6 x7 x8
      obtain ⟨x0, x1, x2, x3, x4, x5, x6, x7, x8, -⟩ := cells9' Hx6.out
      go_cut [9] (fun s9 wx => s9 = .pointer (some ⟨bq, 0, none⟩) ∧ ∃ A7 B8 c7 d8, Bx w wx bb r.N r.S r.low r.high r.total r.pure r.worst A2 B2 D3 r.N c2 r.N d2 q0 e3 r.fi r.th s0 ∧ Bx w wx bq r.N r.S r.low r.high r.total r.pure r.worst A7 B8 D3 r.N c7 r.N d8 q0 e3 (rotL b r.fi) (rotL b r.th) s0)
      case first =>
        have hz6 : W6.drew.heap.size = bq + 1 := hs6
        go_region_with (go_at_call 41; first
          | ((with_reducible refine Hcf.out.mono ?_); rintro e w7 ⟨A7, c7, rfl, ho2, hb2⟩; have e7 := (hb2.block bb (by omega)).trans Hx6.out; have d7 := (cells9' e7).2.2.2.2.2.2.2.1; have d8' := (cells9' e7).2.2.2.2.2.2.2.2.1; have hz7 := hb2.size; have q7 := (hb2.block bq (by omega)).trans Hq6.out; have HT7 := Lib.hid (HT6.out.below hb2); have Ho2 := Lib.hid ho2; have Hb2 := Lib.hid hb2; clear ho2 hb2 e7)
          | ((with_reducible refine (Hct.out _ HT7.out).mono ?_); rintro e w8 ⟨B8, d8, rfl, ho3, hb3⟩; have e8 := (hb3.block bb (by omega)).trans ((Hb2.out.block bb (by omega)).trans Hx6.out); have g7 := (cells9' e8).2.2.2.2.2.2.2.1; have g8 := (cells9' e8).2.2.2.2.2.2.2.2.1; have q8 := (hb3.block bq (by omega)).trans q7; have y7 := (cells9' q8).2.2.2.2.2.2.2.1; have y8 := (cells9' q8).2.2.2.2.2.2.2.2.1; have f8 := (cells9' q8).2.2.2.2.2.2.2.2.2; have Ho3 := Lib.hid ho3; have Hb3 := Lib.hid hb3; clear ho3 hb3 e8))
        all_goals
          have hc4 := set78 (A' := A7) (n' := r.N) (c' := c7) (B' := B8) (m' := r.N) (d' := d8) q8
          have hk4 := set78_kx w8 bq (.slice A7 r.N c7) (.slice B8 r.N d8)
          obtain ⟨W9, hW9⟩ : ∃ W9, (w8.setCell ⟨bq, 7, none⟩ (.slice A7 r.N c7)).setCell ⟨bq, 8, none⟩ (.slice B8 r.N d8) = W9 := ⟨_, rfl⟩
          rw [hW9] at hc4 hk4 ⊢
          have sA : SlE intE 1 W9 A7 r.N (rotL b r.fi) := slE_kx ((SlE.of_own Ho2.out (by rw [rotL_len]; exact Hr.out.fl.symm)).below Hb3.out) hk4 (fun a ha => by have := (own_bd Ho2.out a ha).1; omega)
          have sB : SlE intE 1 W9 B8 r.N (rotL b r.th) := slE_kx (SlE.of_own Ho3.out (by rw [rotL_len]; exact Hr.out.tl.symm)) hk4 (fun a ha => by have := (own_bd Ho3.out a ha).1; omega)
          have hz8 := Hb3.out.size
          have hbz : Below bq W5 W9 := Kx.low (((Hb6.out.drew).trans (Hb2.out.mono (by omega))).trans (Hb3.out.mono (by omega))) hk4 (fun j hj => by omega) (by omega)
          have hX9 := HX.out.below (by rw [Hbq.out]; exact hbz)
          clear d7 d8' g7 g8 y7 y8 f8
          go_wp2_with fail
          go_meet
          exact ⟨rfl, A7, B8, c7, d8, hX9, ⟨hc4, sA, sB, hX9.S, hX9.bel⟩⟩
      case rest =>
        obtain ⟨e9, A7, B8, c7, d8, hX9, hQ9⟩ := hcut
        subst e9
        clear x0 x1 x2 x3 x4 x5 x6 x7 x8 HX
        have HX := Lib.hid hX9
        have HQ := Lib.hid hQ9
        clear hX9 hQ9 Hcf Hct HT6 Hx6 Hq6 Hb6 H1 H2
        obtain ⟨x0, x1, x2, x3, x4, x5, x6, x7, x8, -⟩ := cells9' HX.out.box
        obtain ⟨y0, y1, y2, y3, y4, y5, y6, y7, y8, -⟩ := cells9' HQ.out.box
        have Hok := Lib.hid (Rg.rot_ok Hr.out b)
        have H5 := Lib.hid (fun (W : World) (h : Bx w W bb r.N r.S r.low r.high r.total r.pure r.worst A2 B2 D3 r.N c2 r.N d2 q0 e3 r.fi r.th s0) => refFits_any r Hr.out A2 B2 D3 r.N c2 r.N d2 q0 e3 s0 W h.S (by omega))
        have H6 := Lib.hid (fun (W : World) (h : Bx w W bb r.N r.S r.low r.high r.total r.pure r.worst A2 B2 D3 r.N c2 r.N d2 q0 e3 r.fi r.th s0) => cost_any r Hr.out A2 B2 D3 r.N c2 r.N d2 q0 e3 s0 W h.F h.T h.S (by omega))
        have H8 := Lib.hid (fun (W : World) (h : Bx w W bb r.N r.S r.low r.high r.total r.pure r.worst A2 B2 D3 r.N c2 r.N d2 q0 e3 r.fi r.th s0) => turned_any D3 q0 e3 b s0 W h.S (by omega) (by omega))
        have H7 := Lib.hid (fun (W : World) (h : Bx w W bq r.N r.S r.low r.high r.total r.pure r.worst A7 B8 D3 r.N c7 r.N d8 q0 e3 (rotL b r.fi) (rotL b r.th) s0) (A5 : Option Addr) (c5 : Nat) (hs : SlE intE 1 W A5 q0 (rotL b s0)) => (show Calls Try.prog 34 #[.agg #[.int .i64 r.N, .int .i64 r.S, .int .i64 r.low, .int .i64 r.high, .int .i64 r.total, .int .i64 r.pure, .int .i64 r.worst, .slice A7 r.N c7, .slice B8 r.N d8], .slice A5 q0 c5] W (fun en w' => en = .returned (.tuple #[.int .i64 ((r.rot b).costR (rotL b s0)).1, .int .i64 ((r.rot b).costR (rotL b s0)).2]) ∧ Below W.heap.size W w') from cost_any (r.rot b) Hok.out A7 B8 A5 r.N c7 r.N d8 q0 c5 (rotL b s0) W h.F h.T hs (by omega)))
        have hcr : r.fitsB s0 = true → (r.rot b).costR (rotL b s0) = r.costR s0 := fun hf => by
          have h1 := rot_fits hbN hf
          have h2 := rot_allow (r := r) hbN (fitsB_iff.1 hf).2.1
          have h3 := rot_cost Hr.out hbN (fitsB_iff.1 hf).2.1
          unfold Rg.costR
          rw [h1, h2, h3, hf]
        have Hcr := Lib.hid hcr
        clear hcr
        rcases Classical.em (∃ st, r.Good st) with hyes | hno
        · have hyq : ∃ st, (r.rot b).Good st := by
            obtain ⟨st, h⟩ := hyes
            exact ⟨_, rot_good hbN h⟩
          have Hy := Lib.hid (And.intro hyes hyq)
          clear hyes hyq
          have H3 := Lib.hid (fun (W : World) (h : Bx w W bb r.N r.S r.low r.high r.total r.pure r.worst A2 B2 D3 r.N c2 r.N d2 q0 e3 r.fi r.th s0) => best_some r Hr.out A2 B2 r.N c2 r.N d2 cs W h.F h.T Hy.out.1 Hcs.out.1)
          have H4 := Lib.hid (fun (W : World) (h : Bx w W bq r.N r.S r.low r.high r.total r.pure r.worst A7 B8 D3 r.N c7 r.N d8 q0 e3 (rotL b r.fi) (rotL b r.th) s0) => (show Calls Try.prog 20 #[.agg #[.int .i64 r.N, .int .i64 r.S, .int .i64 r.low, .int .i64 r.high, .int .i64 r.total, .int .i64 r.pure, .int .i64 r.worst, .slice A7 r.N c7, .slice B8 r.N d8]] W (fun en w' => (∃ (A' : Option Addr) (c' : Nat), en = .returned (.tuple #[.slice A' r.N c', .int .i64 cs, .int .i64 0])) ∧ Below W.heap.size W w') from best_some (r.rot b) Hok.out A7 B8 r.N c7 r.N d8 cs W h.F h.T Hy.out.2 Hcs.out.2))
          cases hfit : r.fitsB s0
          case false =>
            simp only [hfit] at H5
            go_wp2_with (first
              | (go_at_call 20; (with_reducible refine (H3.out _ HX.out).mono ?_); rintro e1 w9 ⟨⟨A5, c5, rfl⟩, hb⟩; have HX := Lib.hid (HX.out.below hb); have HQ := Lib.hid (HQ.out.below hb); obtain ⟨x0, x1, x2, x3, x4, x5, x6, x7, x8, -⟩ := cells9' HX.out.box; obtain ⟨y0, y1, y2, y3, y4, y5, y6, y7, y8, -⟩ := cells9' HQ.out.box; clear hb)
              | (go_at_call 20; (with_reducible refine (H4.out _ HQ.out).mono ?_); rintro e1 w9 ⟨⟨A6, c6, rfl⟩, hb⟩; have HX := Lib.hid (HX.out.below hb); have HQ := Lib.hid (HQ.out.below hb); obtain ⟨x0, x1, x2, x3, x4, x5, x6, x7, x8, -⟩ := cells9' HX.out.box; obtain ⟨y0, y1, y2, y3, y4, y5, y6, y7, y8, -⟩ := cells9' HQ.out.box; clear hb)
              | (go_at_call 19; (with_reducible refine (Hlv.out _ HX.out).mono ?_); rintro e1 w9 ⟨rfl, hb⟩; have HX := Lib.hid (HX.out.below hb); have HQ := Lib.hid (HQ.out.below hb); obtain ⟨x0, x1, x2, x3, x4, x5, x6, x7, x8, -⟩ := cells9' HX.out.box; obtain ⟨y0, y1, y2, y3, y4, y5, y6, y7, y8, -⟩ := cells9' HQ.out.box; clear hb)
              | (go_at_call 36; (with_reducible refine (H5.out _ HX.out).mono ?_); rintro e1 w9 ⟨rfl, hb⟩; have HX := Lib.hid (HX.out.below hb); have HQ := Lib.hid (HQ.out.below hb); obtain ⟨x0, x1, x2, x3, x4, x5, x6, x7, x8, -⟩ := cells9' HX.out.box; obtain ⟨y0, y1, y2, y3, y4, y5, y6, y7, y8, -⟩ := cells9' HQ.out.box; clear hb))
            exact HY.out _ HX.out.bel
          case true =>
            simp only [Hcr.out hfit] at H7
            simp only [hfit] at H5
            obtain ⟨C, hC⟩ : ∃ C, (r.costR s0).1 = C := ⟨_, rfl⟩
            obtain ⟨E, hE⟩ : ∃ E, (r.costR s0).2 = E := ⟨_, rfl⟩
            simp only [hC, hE] at H6 H7
            clear hC hE
            go_upto_region 14 with (first
              | (go_at_call 20; (with_reducible refine (H3.out _ HX.out).mono ?_); rintro e1 w9 ⟨⟨A5, c5, rfl⟩, hb⟩; have HX := Lib.hid (HX.out.below hb); have HQ := Lib.hid (HQ.out.below hb); obtain ⟨x0, x1, x2, x3, x4, x5, x6, x7, x8, -⟩ := cells9' HX.out.box; obtain ⟨y0, y1, y2, y3, y4, y5, y6, y7, y8, -⟩ := cells9' HQ.out.box; clear hb)
              | (go_at_call 20; (with_reducible refine (H4.out _ HQ.out).mono ?_); rintro e1 w9 ⟨⟨A6, c6, rfl⟩, hb⟩; have HX := Lib.hid (HX.out.below hb); have HQ := Lib.hid (HQ.out.below hb); obtain ⟨x0, x1, x2, x3, x4, x5, x6, x7, x8, -⟩ := cells9' HX.out.box; obtain ⟨y0, y1, y2, y3, y4, y5, y6, y7, y8, -⟩ := cells9' HQ.out.box; clear hb)
              | (go_at_call 19; (with_reducible refine (Hlv.out _ HX.out).mono ?_); rintro e1 w9 ⟨rfl, hb⟩; have HX := Lib.hid (HX.out.below hb); have HQ := Lib.hid (HQ.out.below hb); obtain ⟨x0, x1, x2, x3, x4, x5, x6, x7, x8, -⟩ := cells9' HX.out.box; obtain ⟨y0, y1, y2, y3, y4, y5, y6, y7, y8, -⟩ := cells9' HQ.out.box; clear hb)
              | (go_at_call 36; (with_reducible refine (H5.out _ HX.out).mono ?_); rintro e1 w9 ⟨rfl, hb⟩; have HX := Lib.hid (HX.out.below hb); have HQ := Lib.hid (HQ.out.below hb); obtain ⟨x0, x1, x2, x3, x4, x5, x6, x7, x8, -⟩ := cells9' HX.out.box; obtain ⟨y0, y1, y2, y3, y4, y5, y6, y7, y8, -⟩ := cells9' HQ.out.box; clear hb)
              | (go_at_call 34; (with_reducible refine (H6.out _ HX.out).mono ?_); rintro e1 w9 ⟨rfl, hb⟩; have HX := Lib.hid (HX.out.below hb); have HQ := Lib.hid (HQ.out.below hb); obtain ⟨x0, x1, x2, x3, x4, x5, x6, x7, x8, -⟩ := cells9' HX.out.box; obtain ⟨y0, y1, y2, y3, y4, y5, y6, y7, y8, -⟩ := cells9' HQ.out.box; clear hb))
            have hX' : Bx w w9.drew bb r.N r.S r.low r.high r.total r.pure r.worst A2 B2 D3 r.N c2 r.N d2 q0 e3 r.fi r.th s0 := HX.out.below (Below.refl _ _).drew
            have hQ' : Bx w w9.drew bq r.N r.S r.low r.high r.total r.pure r.worst A7 B8 D3 r.N c7 r.N d8 q0 e3 (rotL b r.fi) (rotL b r.th) s0 := HQ.out.below (Below.refl _ _).drew
            have HXd := Lib.hid hX'
            have HQd := Lib.hid hQ'
            clear hX' hQ'
            go_region_with (first
              | (go_at_call 41; (with_reducible refine (H8.out _ HXd.out).mono ?_); rintro e1 w9 ⟨A9, c9, rfl, ho, hb⟩; have HM := Lib.hid (SlE.of_own ho (by rw [rotL_len, Hq0.out])); have HX := Lib.hid (HXd.out.below hb); have HQ := Lib.hid (HQd.out.below hb); obtain ⟨x0, x1, x2, x3, x4, x5, x6, x7, x8, -⟩ := cells9' HX.out.box; obtain ⟨y0, y1, y2, y3, y4, y5, y6, y7, y8, -⟩ := cells9' HQ.out.box; clear ho hb)
              | (go_at_call 34; (with_reducible refine (H7.out _ HQ.out _ _ HM.out).mono ?_); rintro e1 w9 ⟨rfl, hb⟩; have HX := Lib.hid (HX.out.below hb); have HQ := Lib.hid (HQ.out.below hb); obtain ⟨x0, x1, x2, x3, x4, x5, x6, x7, x8, -⟩ := cells9' HX.out.box; obtain ⟨y0, y1, y2, y3, y4, y5, y6, y7, y8, -⟩ := cells9' HQ.out.box; clear hb))
            all_goals
              go_wp2_with fail
              exact HY.out _ HX.out.bel
        · have hnq : ∀ st, ¬ (r.rot b).Good st := fun st h => hno ⟨_, ((rot_same' Hr.out hbN).good st h).1⟩
          have Hn := Lib.hid (And.intro (show ∀ st, ¬ r.Good st from fun st h => hno ⟨st, h⟩) hnq)
          clear hno hnq
          have H3 := Lib.hid (fun (W : World) (h : Bx w W bb r.N r.S r.low r.high r.total r.pure r.worst A2 B2 D3 r.N c2 r.N d2 q0 e3 r.fi r.th s0) => best_none r Hr.out A2 B2 r.N c2 r.N d2 W h.F h.T Hn.out.1)
          have H4 := Lib.hid (fun (W : World) (h : Bx w W bq r.N r.S r.low r.high r.total r.pure r.worst A7 B8 D3 r.N c7 r.N d8 q0 e3 (rotL b r.fi) (rotL b r.th) s0) => (show Calls Try.prog 20 #[.agg #[.int .i64 r.N, .int .i64 r.S, .int .i64 r.low, .int .i64 r.high, .int .i64 r.total, .int .i64 r.pure, .int .i64 r.worst, .slice A7 r.N c7, .slice B8 r.N d8]] W (fun en w' => en = .returned (.tuple #[.slice none 0 0, .int .i64 0, .int .i64 6]) ∧ Below W.heap.size W w') from best_none (r.rot b) Hok.out A7 B8 r.N c7 r.N d8 W h.F h.T Hn.out.2))
          cases hfit : r.fitsB s0
          case false =>
            simp only [hfit] at H5
            go_wp2_with (first
              | (go_at_call 20; (with_reducible refine (H3.out _ HX.out).mono ?_); rintro e1 w9 ⟨rfl, hb⟩; have HX := Lib.hid (HX.out.below hb); have HQ := Lib.hid (HQ.out.below hb); obtain ⟨x0, x1, x2, x3, x4, x5, x6, x7, x8, -⟩ := cells9' HX.out.box; obtain ⟨y0, y1, y2, y3, y4, y5, y6, y7, y8, -⟩ := cells9' HQ.out.box; clear hb)
              | (go_at_call 20; (with_reducible refine (H4.out _ HQ.out).mono ?_); rintro e1 w9 ⟨rfl, hb⟩; have HX := Lib.hid (HX.out.below hb); have HQ := Lib.hid (HQ.out.below hb); obtain ⟨x0, x1, x2, x3, x4, x5, x6, x7, x8, -⟩ := cells9' HX.out.box; obtain ⟨y0, y1, y2, y3, y4, y5, y6, y7, y8, -⟩ := cells9' HQ.out.box; clear hb)
              | (go_at_call 19; (with_reducible refine (Hlv.out _ HX.out).mono ?_); rintro e1 w9 ⟨rfl, hb⟩; have HX := Lib.hid (HX.out.below hb); have HQ := Lib.hid (HQ.out.below hb); obtain ⟨x0, x1, x2, x3, x4, x5, x6, x7, x8, -⟩ := cells9' HX.out.box; obtain ⟨y0, y1, y2, y3, y4, y5, y6, y7, y8, -⟩ := cells9' HQ.out.box; clear hb)
              | (go_at_call 36; (with_reducible refine (H5.out _ HX.out).mono ?_); rintro e1 w9 ⟨rfl, hb⟩; have HX := Lib.hid (HX.out.below hb); have HQ := Lib.hid (HQ.out.below hb); obtain ⟨x0, x1, x2, x3, x4, x5, x6, x7, x8, -⟩ := cells9' HX.out.box; obtain ⟨y0, y1, y2, y3, y4, y5, y6, y7, y8, -⟩ := cells9' HQ.out.box; clear hb))
            exact HY.out _ HX.out.bel
          case true =>
            simp only [Hcr.out hfit] at H7
            simp only [hfit] at H5
            obtain ⟨C, hC⟩ : ∃ C, (r.costR s0).1 = C := ⟨_, rfl⟩
            obtain ⟨E, hE⟩ : ∃ E, (r.costR s0).2 = E := ⟨_, rfl⟩
            simp only [hC, hE] at H6 H7
            clear hC hE
            go_upto_region 14 with (first
              | (go_at_call 20; (with_reducible refine (H3.out _ HX.out).mono ?_); rintro e1 w9 ⟨rfl, hb⟩; have HX := Lib.hid (HX.out.below hb); have HQ := Lib.hid (HQ.out.below hb); obtain ⟨x0, x1, x2, x3, x4, x5, x6, x7, x8, -⟩ := cells9' HX.out.box; obtain ⟨y0, y1, y2, y3, y4, y5, y6, y7, y8, -⟩ := cells9' HQ.out.box; clear hb)
              | (go_at_call 20; (with_reducible refine (H4.out _ HQ.out).mono ?_); rintro e1 w9 ⟨rfl, hb⟩; have HX := Lib.hid (HX.out.below hb); have HQ := Lib.hid (HQ.out.below hb); obtain ⟨x0, x1, x2, x3, x4, x5, x6, x7, x8, -⟩ := cells9' HX.out.box; obtain ⟨y0, y1, y2, y3, y4, y5, y6, y7, y8, -⟩ := cells9' HQ.out.box; clear hb)
              | (go_at_call 19; (with_reducible refine (Hlv.out _ HX.out).mono ?_); rintro e1 w9 ⟨rfl, hb⟩; have HX := Lib.hid (HX.out.below hb); have HQ := Lib.hid (HQ.out.below hb); obtain ⟨x0, x1, x2, x3, x4, x5, x6, x7, x8, -⟩ := cells9' HX.out.box; obtain ⟨y0, y1, y2, y3, y4, y5, y6, y7, y8, -⟩ := cells9' HQ.out.box; clear hb)
              | (go_at_call 36; (with_reducible refine (H5.out _ HX.out).mono ?_); rintro e1 w9 ⟨rfl, hb⟩; have HX := Lib.hid (HX.out.below hb); have HQ := Lib.hid (HQ.out.below hb); obtain ⟨x0, x1, x2, x3, x4, x5, x6, x7, x8, -⟩ := cells9' HX.out.box; obtain ⟨y0, y1, y2, y3, y4, y5, y6, y7, y8, -⟩ := cells9' HQ.out.box; clear hb)
              | (go_at_call 34; (with_reducible refine (H6.out _ HX.out).mono ?_); rintro e1 w9 ⟨rfl, hb⟩; have HX := Lib.hid (HX.out.below hb); have HQ := Lib.hid (HQ.out.below hb); obtain ⟨x0, x1, x2, x3, x4, x5, x6, x7, x8, -⟩ := cells9' HX.out.box; obtain ⟨y0, y1, y2, y3, y4, y5, y6, y7, y8, -⟩ := cells9' HQ.out.box; clear hb))
            have hX' : Bx w w9.drew bb r.N r.S r.low r.high r.total r.pure r.worst A2 B2 D3 r.N c2 r.N d2 q0 e3 r.fi r.th s0 := HX.out.below (Below.refl _ _).drew
            have hQ' : Bx w w9.drew bq r.N r.S r.low r.high r.total r.pure r.worst A7 B8 D3 r.N c7 r.N d8 q0 e3 (rotL b r.fi) (rotL b r.th) s0 := HQ.out.below (Below.refl _ _).drew
            have HXd := Lib.hid hX'
            have HQd := Lib.hid hQ'
            clear hX' hQ'
            go_region_with (first
              | (go_at_call 41; (with_reducible refine (H8.out _ HXd.out).mono ?_); rintro e1 w9 ⟨A9, c9, rfl, ho, hb⟩; have HM := Lib.hid (SlE.of_own ho (by rw [rotL_len, Hq0.out])); have HX := Lib.hid (HXd.out.below hb); have HQ := Lib.hid (HQd.out.below hb); obtain ⟨x0, x1, x2, x3, x4, x5, x6, x7, x8, -⟩ := cells9' HX.out.box; obtain ⟨y0, y1, y2, y3, y4, y5, y6, y7, y8, -⟩ := cells9' HQ.out.box; clear ho hb)
              | (go_at_call 34; (with_reducible refine (H7.out _ HQ.out _ _ HM.out).mono ?_); rintro e1 w9 ⟨rfl, hb⟩; have HX := Lib.hid (HX.out.below hb); have HQ := Lib.hid (HQ.out.below hb); obtain ⟨x0, x1, x2, x3, x4, x5, x6, x7, x8, -⟩ := cells9' HX.out.box; obtain ⟨y0, y1, y2, y3, y4, y5, y6, y7, y8, -⟩ := cells9' HQ.out.box; clear hb))
            all_goals
              go_wp2_with fail
              exact HY.out _ HX.out.bel
end Go.Proofs.Ytgmphiklkllnlaa
