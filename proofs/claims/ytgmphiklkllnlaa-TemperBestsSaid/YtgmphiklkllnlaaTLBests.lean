/-
  The contract of clavecinlaw03.TemperBests: true at every input.
-/
import Derived.Test.YtgmphiklkllnlaaTBsx
import Derived.Test.YtgmphiklkllnlaaTMny
namespace Go.Proofs.Ytgmphiklkllnlaa
open Go.RowKit
set_option maxRecDepth 8000 in
set_option maxHeartbeats 16000000 in
theorem bests_any (x : Rn) (A B : Option Addr) (n c m d : Nat) (fi th : List Int) (w : World) (hF : SlE intE 1 w A n fi) (hT : SlE intE 1 w B m th)
    (hn : n ≤ c) (hc : c ≤ 9223372036854775807) (hm : m ≤ d) (hd : d ≤ 9223372036854775807) :
    Calls Try.prog 3 #[.agg #[.int .i64 x.N, .int .i64 x.S, .int .i64 x.low, .int .i64 x.high, .int .i64 x.total, .int .i64 x.pure, .int .i64 x.worst, .slice A n c, .slice B m d]] w fun en w' => en = .returned (.bool true) ∧ Below w.heap.size w w' := by
  refine calls_cps ?_
  intro R hR
  have hb1 := below_new w (.cells #[.int .i64 x.N, .int .i64 x.S, .int .i64 x.low, .int .i64 x.high, .int .i64 x.total, .int .i64 x.pure, .int .i64 x.worst, .slice A n c, .slice B m d] 24)
  obtain ⟨w1, hw1⟩ : ∃ w1, w.alloc (.cells #[.int .i64 x.N, .int .i64 x.S, .int .i64 x.low, .int .i64 x.high, .int .i64 x.total, .int .i64 x.pure, .int .i64 x.worst, .slice A n c, .slice B m d] 24) = w1 := ⟨_, rfl⟩
  have hcx := cells9' (heap_alloc_new w (.cells #[.int .i64 x.N, .int .i64 x.S, .int .i64 x.low, .int .i64 x.high, .int .i64 x.total, .int .i64 x.pure, .int .i64 x.worst, .slice A n c, .slice B m d] 24))
  rw [hw1] at hcx hb1
  have Hsh := Lib.hid (short_any x A B n c m d fi th w1 (hF.below hb1) (hT.below hb1) hn hc hm hd)
  have Hb1 := Lib.hid hb1
  obtain ⟨f0, hf0⟩ : ∃ f0, fi.take 40 = f0 := ⟨_, rfl⟩
  obtain ⟨t0, ht0⟩ : ∃ t0, th.take 40 = t0 := ⟨_, rfl⟩
  rw [hf0, ht0] at Hsh
  have hlf : f0.length ≤ 40 := by rw [← hf0, List.length_take]; omega
  have hlt : t0.length ≤ 40 := by rw [← ht0, List.length_take]; omega
  obtain ⟨n0, hn0⟩ : ∃ n0, f0.length = n0 := ⟨_, rfl⟩
  obtain ⟨m0, hm0⟩ : ∃ m0, t0.length = m0 := ⟨_, rfl⟩
  rw [hn0, hm0] at Hsh
  rw [hn0] at hlf
  rw [hm0] at hlt
  obtain ⟨N, S, low, high, total, pure, worst⟩ := x
  dsimp only at *
  obtain ⟨x0, x1, x2, x3, x4, x5, x6, x7, x8, xf⟩ := hcx
  clear hF hT hb1 hf0 ht0 hn0 hm0
  subst hw1
  go_enter Try.func3, Try.ntmps3
  go_upto_region 2 with (go_at_call 16; (with_reducible refine Hsh.out.mono ?_); rintro e1 w2 ⟨⟨A2, B2, c2, d2, rfl, sA, sB⟩, hb2⟩; have HA2 := Lib.hid sA; have HB2 := Lib.hid sB; have Hb2 := Lib.hid (Hb1.out.trans (hb2.mono Hb1.out.size)); clear sA sB hb2)
  obtain ⟨bb, hbb⟩ : ∃ bb, w2.heap.size = bb := ⟨_, rfl⟩
  have hX4 : Bx w (w2.alloc (.cells #[.int .i64 N, .int .i64 S, .int .i64 low, .int .i64 high, .int .i64 total, .int .i64 pure, .int .i64 worst, .slice A2 n0 c2, .slice B2 m0 d2] 24)) bb N S low high total pure worst A2 B2 none n0 c2 m0 d2 0 0 f0 t0 [] :=
    ⟨by rw [← hbb]; exact heap_alloc_new w2 _, HA2.out.alloc _, HB2.out.alloc _, SlE.nil _ _, Hb2.out.alloc Hb2.out.size _⟩
  obtain ⟨w4, hw4⟩ : ∃ w4, w2.alloc (.cells #[.int .i64 N, .int .i64 S, .int .i64 low, .int .i64 high, .int .i64 total, .int .i64 pure, .int .i64 worst, .slice A2 n0 c2, .slice B2 m0 d2] 24) = w4 := ⟨_, rfl⟩
  rw [hw4] at hX4 ⊢
  rw [hbb]
  have HX := Lib.hid hX4
  have HY := Lib.hid (fun W (h : Below w.heap.size w W) => hR.out (.returned (.bool true)) W ⟨rfl, h⟩)
  clear hR hw4 hbb hX4 HA2 HB2 Hb1 Hb2 Hsh x0 x1 x2 x3 x4 x5 x6 x7 x8 xf
  obtain ⟨x0, x1, x2, x3, x4, x5, x6, x7, x8, -⟩ := cells9' HX.out.box
  have Hlv := Lib.hid (fun (W : World) (_ : Bx w W bb N S low high total pure worst A2 B2 none n0 c2 m0 d2 0 0 f0 t0 []) => lives_any W)
  cases hg : rgOk ⟨N, S, low, high, total, pure, worst⟩ f0 t0
  · have H1 := Lib.hid (fun (W : World) (h : Bx w W bb N S low high total pure worst A2 B2 none n0 c2 m0 d2 0 0 f0 t0 []) => refCheck_bad ⟨N, S, low, high, total, pure, worst⟩ A2 B2 n0 c2 m0 d2 f0 t0 W h.F h.T (by omega) (by omega) hg)
    have H2 := Lib.hid (fun (W : World) (h : Bx w W bb N S low high total pure worst A2 B2 none n0 c2 m0 d2 0 0 f0 t0 []) => best_bad ⟨N, S, low, high, total, pure, worst⟩ A2 B2 n0 c2 m0 d2 f0 t0 W h.F h.T (by omega) (by omega) hg)
    dsimp only at H1 H2
    clear hg
    go_wp2_with (first
      | (go_at_call 17; (with_reducible refine (H1.out _ HX.out).mono ?_); rintro e1 w9 ⟨rfl, hb⟩; (try have HL := Lib.hid (HL.out.below hb)); have HX := Lib.hid (HX.out.below hb); obtain ⟨x0, x1, x2, x3, x4, x5, x6, x7, x8, -⟩ := cells9' HX.out.box; clear hb)
      | (go_at_call 19; (with_reducible refine (Hlv.out _ HX.out).mono ?_); rintro e1 w9 ⟨rfl, hb⟩; (try have HL := Lib.hid (HL.out.below hb)); have HX := Lib.hid (HX.out.below hb); obtain ⟨x0, x1, x2, x3, x4, x5, x6, x7, x8, -⟩ := cells9' HX.out.box; clear hb)
      | (go_at_call 20; (with_reducible refine (H2.out _ HX.out).mono ?_); rintro e1 w9 ⟨rfl, hb⟩; (try have HL := Lib.hid (HL.out.below hb)); have HX := Lib.hid (HX.out.below hb); obtain ⟨x0, x1, x2, x3, x4, x5, x6, x7, x8, -⟩ := cells9' HX.out.box; clear hb))
    exact HY.out _ HX.out.bel
  · obtain ⟨r, hr, rfl, rfl, rfl, rfl, rfl, rfl, rfl, rfl, rfl⟩ := ring_of hg
    clear hg
    have H1 := Lib.hid (fun (W : World) (h : Bx w W bb r.N r.S r.low r.high r.total r.pure r.worst A2 B2 none n0 c2 m0 d2 0 0 r.fi r.th []) => refCheck_ok r hr A2 B2 n0 c2 m0 d2 W h.F h.T)
    have Hmy := Lib.hid (fun (W : World) (_ : Bx w W bb r.N r.S r.low r.high r.total r.pure r.worst A2 B2 none n0 c2 m0 d2 0 0 r.fi r.th []) => many_any r hr A2 B2 n0 c2 m0 d2 W)
    have hr2 := hr.n2
    have hr1 := hr.n1
    rcases best_or r hr with hno | ⟨st, cs, hbe⟩
    · have H2 := Lib.hid (fun (W : World) (h : Bx w W bb r.N r.S r.low r.high r.total r.pure r.worst A2 B2 none n0 c2 m0 d2 0 0 r.fi r.th []) => best_none r hr A2 B2 n0 c2 m0 d2 W h.F h.T hno)
      have H3 := Lib.hid (fun (W : World) (h : Bx w W bb r.N r.S r.low r.high r.total r.pure r.worst A2 B2 none n0 c2 m0 d2 0 0 r.fi r.th []) => refBest_none r hr A2 B2 n0 c2 m0 d2 W h.F h.T hno)
      clear hno hr
      go_upto_region 4 with (first
        | (go_at_call 17; (with_reducible refine (H1.out _ HX.out).mono ?_); rintro e1 w9 ⟨rfl, hb⟩; (try have HL := Lib.hid (HL.out.below hb)); have HX := Lib.hid (HX.out.below hb); obtain ⟨x0, x1, x2, x3, x4, x5, x6, x7, x8, -⟩ := cells9' HX.out.box; clear hb)
        | (go_at_call 19; (with_reducible refine (Hlv.out _ HX.out).mono ?_); rintro e1 w9 ⟨rfl, hb⟩; (try have HL := Lib.hid (HL.out.below hb)); have HX := Lib.hid (HX.out.below hb); obtain ⟨x0, x1, x2, x3, x4, x5, x6, x7, x8, -⟩ := cells9' HX.out.box; clear hb)
        | (go_at_call 18; (with_reducible refine (Hmy.out _ HX.out).mono ?_); rintro e1 w9 ⟨⟨b, rfl⟩, hb⟩; (try have HL := Lib.hid (HL.out.below hb)); have HX := Lib.hid (HX.out.below hb); obtain ⟨x0, x1, x2, x3, x4, x5, x6, x7, x8, -⟩ := cells9' HX.out.box; clear hb; cases b))
      all_goals
        go_wp2_with (first
          | (go_at_call 17; (with_reducible refine (H1.out _ HX.out).mono ?_); rintro e1 w9 ⟨rfl, hb⟩; (try have HL := Lib.hid (HL.out.below hb)); have HX := Lib.hid (HX.out.below hb); obtain ⟨x0, x1, x2, x3, x4, x5, x6, x7, x8, -⟩ := cells9' HX.out.box; clear hb)
          | (go_at_call 19; (with_reducible refine (Hlv.out _ HX.out).mono ?_); rintro e1 w9 ⟨rfl, hb⟩; (try have HL := Lib.hid (HL.out.below hb)); have HX := Lib.hid (HX.out.below hb); obtain ⟨x0, x1, x2, x3, x4, x5, x6, x7, x8, -⟩ := cells9' HX.out.box; clear hb)
          | (go_at_call 20; (with_reducible refine (H2.out _ HX.out).mono ?_); rintro e1 w9 ⟨rfl, hb⟩; (try have HL := Lib.hid (HL.out.below hb)); have HX := Lib.hid (HX.out.below hb); obtain ⟨x0, x1, x2, x3, x4, x5, x6, x7, x8, -⟩ := cells9' HX.out.box; clear hb)
          | (go_at_call 21; (with_reducible refine (H3.out _ HX.out).mono ?_); rintro e1 w9 ⟨rfl, hb⟩; (try have HL := Lib.hid (HL.out.below hb)); have HX := Lib.hid (HX.out.below hb); obtain ⟨x0, x1, x2, x3, x4, x5, x6, x7, x8, -⟩ := cells9' HX.out.box; clear hb)
          | (go_at_call 22; (with_reducible refine (same_self none none 0 0 0 [] _ (SlE.nil _ _) (SlE.nil _ _) (by omega)).mono ?_); rintro e1 w9 ⟨rfl, hb⟩; (try have HL := Lib.hid (HL.out.below hb)); have HX := Lib.hid (HX.out.below hb); obtain ⟨x0, x1, x2, x3, x4, x5, x6, x7, x8, -⟩ := cells9' HX.out.box; clear hb))
        exact HY.out _ HX.out.bel
    · have H2 := Lib.hid (fun (W : World) (h : Bx w W bb r.N r.S r.low r.high r.total r.pure r.worst A2 B2 none n0 c2 m0 d2 0 0 r.fi r.th []) => best_known r hr A2 B2 n0 c2 m0 d2 st cs W h.F h.T hbe)
      have H3 := Lib.hid (fun (W : World) (h : Bx w W bb r.N r.S r.low r.high r.total r.pure r.worst A2 B2 none n0 c2 m0 d2 0 0 r.fi r.th []) => refBest_known r hr A2 B2 n0 c2 m0 d2 st cs W h.F h.T hbe)
      clear hbe hr
      go_upto_region 4 with (first
        | (go_at_call 17; (with_reducible refine (H1.out _ HX.out).mono ?_); rintro e1 w9 ⟨rfl, hb⟩; (try have HL := Lib.hid (HL.out.below hb)); have HX := Lib.hid (HX.out.below hb); obtain ⟨x0, x1, x2, x3, x4, x5, x6, x7, x8, -⟩ := cells9' HX.out.box; clear hb)
        | (go_at_call 19; (with_reducible refine (Hlv.out _ HX.out).mono ?_); rintro e1 w9 ⟨rfl, hb⟩; (try have HL := Lib.hid (HL.out.below hb)); have HX := Lib.hid (HX.out.below hb); obtain ⟨x0, x1, x2, x3, x4, x5, x6, x7, x8, -⟩ := cells9' HX.out.box; clear hb)
        | (go_at_call 18; (with_reducible refine (Hmy.out _ HX.out).mono ?_); rintro e1 w9 ⟨⟨b, rfl⟩, hb⟩; (try have HL := Lib.hid (HL.out.below hb)); have HX := Lib.hid (HX.out.below hb); obtain ⟨x0, x1, x2, x3, x4, x5, x6, x7, x8, -⟩ := cells9' HX.out.box; clear hb; cases b))
      all_goals
        go_wp2_with (first
          | (go_at_call 17; (with_reducible refine (H1.out _ HX.out).mono ?_); rintro e1 w9 ⟨rfl, hb⟩; (try have HL := Lib.hid (HL.out.below hb)); have HX := Lib.hid (HX.out.below hb); obtain ⟨x0, x1, x2, x3, x4, x5, x6, x7, x8, -⟩ := cells9' HX.out.box; clear hb)
          | (go_at_call 19; (with_reducible refine (Hlv.out _ HX.out).mono ?_); rintro e1 w9 ⟨rfl, hb⟩; (try have HL := Lib.hid (HL.out.below hb)); have HX := Lib.hid (HX.out.below hb); obtain ⟨x0, x1, x2, x3, x4, x5, x6, x7, x8, -⟩ := cells9' HX.out.box; clear hb)
          | (go_at_call 20; (with_reducible refine (H2.out _ HX.out).mono ?_); rintro e1 w9 ⟨⟨A5, c5, rfl, hs⟩, hb⟩; have HL := Lib.hid hs; have HX := Lib.hid (HX.out.below hb); obtain ⟨x0, x1, x2, x3, x4, x5, x6, x7, x8, -⟩ := cells9' HX.out.box; clear hb hs)
          | (go_at_call 21; (with_reducible refine (H3.out _ HX.out).mono ?_); rintro e1 w9 ⟨⟨A6, c6, rfl, hs⟩, hb⟩; have HM := Lib.hid hs; (try have HL := Lib.hid (HL.out.below hb)); have HX := Lib.hid (HX.out.below hb); obtain ⟨x0, x1, x2, x3, x4, x5, x6, x7, x8, -⟩ := cells9' HX.out.box; clear hb hs)
          | (go_at_call 22; (with_reducible refine (same_self A5 A6 r.N c5 c6 st _ HL.out HM.out (by omega)).mono ?_); rintro e1 w9 ⟨rfl, hb⟩; (try have HL := Lib.hid (HL.out.below hb)); have HX := Lib.hid (HX.out.below hb); obtain ⟨x0, x1, x2, x3, x4, x5, x6, x7, x8, -⟩ := cells9' HX.out.box; clear hb))
        exact HY.out _ HX.out.bel
end Go.Proofs.Ytgmphiklkllnlaa
