/-
  The contract of clavecinlaw03.TemperMirrors: true at every input.
-/
import Derived.Test.YtgmphiklkllnlaaTDear
import Derived.Test.YtgmphiklkllnlaaTBno
import Derived.BigRegion
namespace Go.Proofs.Ytgmphiklkllnlaa
open Go.RowKit
theorem Blk.drew {W : World} {g : Nat} {l : List Int} (h : Blk W g l) : Blk W.drew g l := h
theorem Kx.drew {S : Nat → Prop} {W W' : World} (h : Kx S W W') : Kx S W W'.drew := h.drewN 1
theorem tabL_zero {n : Nat} {f : Nat → Int} (h : ∀ j, j < n → f j = 0) : tabL n f = List.replicate n 0 := by
  unfold tabL
  refine List.ext_getElem? (fun i => ?_)
  rw [List.getElem?_map, List.getElem?_replicate]
  by_cases c : i < n
  · rw [List.getElem?_range c, if_pos c, Option.map_some, h i c]
  · rw [List.getElem?_eq_none (by simp; omega), if_neg c]; rfl
theorem tabL_at {n : Nat} {f : Nat → Int} {i : Nat} (hi : i < n) : (tabL n f)[i]? = some (f i) := by
  unfold tabL
  rw [List.getElem?_map, List.getElem?_range hi]; rfl
theorem tabL_set {n : Nat} {f g : Nat → Int} {k : Nat} {x : Int} (h : ∀ j, j < n → g j = if j = k then x else f j) : (tabL n f).set k x = tabL n g := by
  refine List.ext_getElem? (fun i => ?_)
  by_cases c : i < n
  · rw [tabL_at c, h i c, List.getElem?_set]
    by_cases e : k = i
    · rw [if_pos e, if_pos (by rw [tabL_len]; omega), if_pos e.symm]
    · rw [if_neg e, tabL_at c, if_neg (fun h => e h.symm)]
  · rw [List.getElem?_eq_none (by rw [List.length_set, tabL_len]; omega), List.getElem?_eq_none (by rw [tabL_len]; omega)]
theorem mirF_step {l : List Int} {N i k : Nat} {x : Int} (hk : N - 1 - i = k) (hi : i < N) (hx : l.getD i 0 = x) :
    (tabL N (fun j => if N - 1 - j < i then l.getD (N - 1 - j) 0 else 0)).set k x = tabL N (fun j => if N - 1 - j < i + 1 then l.getD (N - 1 - j) 0 else 0) := by
  refine tabL_set (fun j hj => ?_)
  by_cases e : j = k
  · have e2 : N - 1 - j = i := by omega
    rw [if_pos e, if_pos (by omega), e2]; exact hx
  · have e2 : N - 1 - j ≠ i := by omega
    rw [if_neg e]
    by_cases d : N - 1 - j < i
    · rw [if_pos d, if_pos (by omega)]
    · rw [if_neg d, if_neg (by omega)]
theorem mirT_step {l : List Int} {N S i k : Nat} {x : Int} (hs : 1 ≤ S) (hsn : S < N) (hk : (2 * N - S - i) % N = k) (hi : i < N) (hx : l.getD i 0 = x) :
    (tabL N (fun j => if (2 * N - S - j) % N < i then l.getD ((2 * N - S - j) % N) 0 else 0)).set k x = tabL N (fun j => if (2 * N - S - j) % N < i + 1 then l.getD ((2 * N - S - j) % N) 0 else 0) := by
  refine tabL_set (fun j hj => ?_)
  have mi := mir_idx (N := N) (S := S) (i := i) hs hsn hi
  have mj := mir_idx (N := N) (S := S) (i := j) hs hsn hj
  rw [hk] at mi
  by_cases e : j = k
  · have e2 : (2 * N - S - j) % N = i := by rw [e]; exact mi.2
    rw [if_pos e, e2, if_pos (by omega)]; exact hx
  · have e2 : (2 * N - S - j) % N ≠ i := fun h => e (by rw [h, hk] at mj; exact mj.2.symm)
    rw [if_neg e]
    by_cases d : (2 * N - S - j) % N < i
    · rw [if_pos d, if_pos (by omega)]
    · rw [if_neg d, if_neg (by omega)]
theorem tabL_congr {n : Nat} {f g : Nat → Int} (h : ∀ j, j < n → f j = g j) : tabL n f = tabL n g := by
  unfold tabL
  exact List.map_congr_left fun j hj => h j (List.mem_range.1 hj)
set_option maxRecDepth 8000 in
set_option maxHeartbeats 16000000 in
theorem mirrors_any (x : Rn) (A B : Option Addr) (n c m d : Nat) (fi th : List Int) (w : World) (hF : SlE intE 1 w A n fi) (hT : SlE intE 1 w B m th)
    (hn : n ≤ c) (hc : c ≤ 9223372036854775807) (hm : m ≤ d) (hd : d ≤ 9223372036854775807) :
    Calls Try.prog 5 #[.agg #[.int .i64 x.N, .int .i64 x.S, .int .i64 x.low, .int .i64 x.high, .int .i64 x.total, .int .i64 x.pure, .int .i64 x.worst, .slice A n c, .slice B m d]] w fun en w' => en = .returned (.bool true) ∧ Below w.heap.size w w' := by
  refine calls_cps ?_
  intro R hR
  have hb1 := below_new w (.cells #[.int .i64 x.N, .int .i64 x.S, .int .i64 x.low, .int .i64 x.high, .int .i64 x.total, .int .i64 x.pure, .int .i64 x.worst, .slice A n c, .slice B m d] 24)
  obtain ⟨w1, hw1⟩ : ∃ w1, w.alloc (.cells #[.int .i64 x.N, .int .i64 x.S, .int .i64 x.low, .int .i64 x.high, .int .i64 x.total, .int .i64 x.pure, .int .i64 x.worst, .slice A n c, .slice B m d] 24) = w1 := ⟨_, rfl⟩
  have hcx := cells9' (heap_alloc_new w (.cells #[.int .i64 x.N, .int .i64 x.S, .int .i64 x.low, .int .i64 x.high, .int .i64 x.total, .int .i64 x.pure, .int .i64 x.worst, .slice A n c, .slice B m d] 24))
  rw [hw1] at hcx hb1
  have Hsh := Lib.hid (short_any x A B n c m d fi th w1 (hF.below hb1) (hT.below hb1) hn hc hm hd)
  have Hb1 := Lib.hid hb1
  obtain ⟨f0, hf0⟩ : ∃ f0, fi.take 40 = f0 := ⟨_, rfl⟩
  obtain ⟨t0, ht0⟩ : ∃ t0, th.take 40 = t0 := ⟨_, rfl⟩
  rw [hf0, ht0] at Hsh
  have hlf : f0.length ≤ 40 := by rw [← hf0, List.length_take]; omega
  have hlt : t0.length ≤ 40 := by rw [← ht0, List.length_take]; omega
  obtain ⟨n0, hn0⟩ : ∃ n0, f0.length = n0 := ⟨_, rfl⟩
  obtain ⟨m0, hm0⟩ : ∃ m0, t0.length = m0 := ⟨_, rfl⟩
  rw [hn0, hm0] at Hsh
  rw [hn0] at hlf
  rw [hm0] at hlt
  obtain ⟨N, S, low, high, total, pure, worst⟩ := x
  dsimp only at *
  obtain ⟨x0, x1, x2, x3, x4, x5, x6, x7, x8, xf⟩ := hcx
  clear hF hT hb1 hf0 ht0 hn0 hm0
  subst hw1
  go_enter Try.func5, Try.ntmps5
  go_upto_region 2 with (go_at_call 16; (with_reducible refine Hsh.out.mono ?_); rintro e1 w2 ⟨⟨A2, B2, c2, d2, rfl, sA, sB⟩, hb2⟩; have HA2 := Lib.hid sA; have HB2 := Lib.hid sB; have Hb2 := Lib.hid (Hb1.out.trans (hb2.mono Hb1.out.size)); clear sA sB hb2)
  obtain ⟨bb, hbb⟩ : ∃ bb, w2.heap.size = bb := ⟨_, rfl⟩
  have hX4 : Bx w (w2.alloc (.cells #[.int .i64 N, .int .i64 S, .int .i64 low, .int .i64 high, .int .i64 total, .int .i64 pure, .int .i64 worst, .slice A2 n0 c2, .slice B2 m0 d2] 24)) bb N S low high total pure worst A2 B2 none n0 c2 m0 d2 0 0 f0 t0 [] :=
    ⟨by rw [← hbb]; exact heap_alloc_new w2 _, HA2.out.alloc _, HB2.out.alloc _, SlE.nil _ _, Hb2.out.alloc Hb2.out.size _⟩
  obtain ⟨w4, hw4⟩ : ∃ w4, w2.alloc (.cells #[.int .i64 N, .int .i64 S, .int .i64 low, .int .i64 high, .int .i64 total, .int .i64 pure, .int .i64 worst, .slice A2 n0 c2, .slice B2 m0 d2] 24) = w4 := ⟨_, rfl⟩
  rw [hw4] at hX4 ⊢
  rw [hbb]
  have HX := Lib.hid hX4
  have HY := Lib.hid (fun W (h : Below w.heap.size w W) => hR.out (.returned (.bool true)) W ⟨rfl, h⟩)
  clear hR hw4 hbb hX4 HA2 HB2 Hb1 Hb2 Hsh x0 x1 x2 x3 x4 x5 x6 x7 x8 xf
  obtain ⟨x0, x1, x2, x3, x4, x5, x6, x7, x8, -⟩ := cells9' HX.out.box
  have Hlv := Lib.hid (fun (W : World) (_ : Bx w W bb N S low high total pure worst A2 B2 none n0 c2 m0 d2 0 0 f0 t0 []) => lives_any W)
  cases hg : rgOk ⟨N, S, low, high, total, pure, worst⟩ f0 t0
  · have H1 := Lib.hid (fun (W : World) (h : Bx w W bb N S low high total pure worst A2 B2 none n0 c2 m0 d2 0 0 f0 t0 []) => refCheck_bad ⟨N, S, low, high, total, pure, worst⟩ A2 B2 n0 c2 m0 d2 f0 t0 W h.F h.T (by omega) (by omega) hg)
    dsimp only at H1
    clear hg
    go_wp2_with (first
      | (go_at_call 17; (with_reducible refine (H1.out _ HX.out).mono ?_); rintro e1 w9 ⟨rfl, hb⟩; (try have HL := Lib.hid (HL.out.below hb)); have HX := Lib.hid (HX.out.below hb); obtain ⟨x0, x1, x2, x3, x4, x5, x6, x7, x8, -⟩ := cells9' HX.out.box; clear hb)
      | (go_at_call 19; (with_reducible refine (Hlv.out _ HX.out).mono ?_); rintro e1 w9 ⟨rfl, hb⟩; (try have HL := Lib.hid (HL.out.below hb)); have HX := Lib.hid (HX.out.below hb); obtain ⟨x0, x1, x2, x3, x4, x5, x6, x7, x8, -⟩ := cells9' HX.out.box; clear hb))
    exact HY.out _ HX.out.bel
  · obtain ⟨r, hr, rfl, rfl, rfl, rfl, rfl, rfl, rfl, rfl, rfl⟩ := ring_of hg
    clear hg
    obtain rfl : n0 = r.N := HX.out.F.1.trans hr.fl
    obtain rfl : m0 = r.N := HX.out.T.1.trans hr.tl
    have H1 := Lib.hid (fun (W : World) (h : Bx w W bb r.N r.S r.low r.high r.total r.pure r.worst A2 B2 none r.N c2 r.N d2 0 0 r.fi r.th []) => refCheck_ok r hr A2 B2 r.N c2 r.N d2 W h.F h.T)
    have H2 := Lib.hid (fun (W : World) (_ : Bx w W bb r.N r.S r.low r.high r.total r.pure r.worst A2 B2 none r.N c2 r.N d2 0 0 r.fi r.th []) => dear_any r hr A2 B2 r.N c2 r.N d2 W)
    have hr2 := hr.n2
    have hr1 := hr.n1
    cases hdr : r.dearB
    case true =>
      simp only [hdr] at H2
      clear hdr
      go_wp2_with (first
        | (go_at_call 17; (with_reducible refine (H1.out _ HX.out).mono ?_); rintro e1 w9 ⟨rfl, hb⟩; (try have HL := Lib.hid (HL.out.below hb)); have HX := Lib.hid (HX.out.below hb); obtain ⟨x0, x1, x2, x3, x4, x5, x6, x7, x8, -⟩ := cells9' HX.out.box; clear hb)
        | (go_at_call 19; (with_reducible refine (Hlv.out _ HX.out).mono ?_); rintro e1 w9 ⟨rfl, hb⟩; (try have HL := Lib.hid (HL.out.below hb)); have HX := Lib.hid (HX.out.below hb); obtain ⟨x0, x1, x2, x3, x4, x5, x6, x7, x8, -⟩ := cells9' HX.out.box; clear hb)
        | (go_at_call 26; (with_reducible refine (H2.out _ HX.out).mono ?_); rintro e1 w9 ⟨rfl, hb⟩; (try have HL := Lib.hid (HL.out.below hb)); have HX := Lib.hid (HX.out.below hb); obtain ⟨x0, x1, x2, x3, x4, x5, x6, x7, x8, -⟩ := cells9' HX.out.box; clear hb))
      exact HY.out _ HX.out.bel
    case false =>
      simp only [hdr] at H2
      clear hdr
      have hN0 : ¬ (r.N : Int) = 0 := by omega
      have hNp : (0 : Int) < (r.N : Int) := by omega
      obtain ⟨cs, hcs1, hcs2⟩ := like_cost (mir_same hr) (mir_same' hr)
      have hs1 := hr.s1
      have hs2 := hr.s2
      have hs3 := hr.s3
      have Hr := Lib.hid hr
      have Hcs := Lib.hid (And.intro hcs1 hcs2)
      clear hr hcs1 hcs2
      go_upto_region 4 with (first
        | (go_at_call 17; (with_reducible refine (H1.out _ HX.out).mono ?_); rintro e1 w9 ⟨rfl, hb⟩; (try have HL := Lib.hid (HL.out.below hb)); have HX := Lib.hid (HX.out.below hb); obtain ⟨x0, x1, x2, x3, x4, x5, x6, x7, x8, -⟩ := cells9' HX.out.box; clear hb)
        | (go_at_call 19; (with_reducible refine (Hlv.out _ HX.out).mono ?_); rintro e1 w9 ⟨rfl, hb⟩; (try have HL := Lib.hid (HL.out.below hb)); have HX := Lib.hid (HX.out.below hb); obtain ⟨x0, x1, x2, x3, x4, x5, x6, x7, x8, -⟩ := cells9' HX.out.box; clear hb)
        | (go_at_call 26; (with_reducible refine (H2.out _ HX.out).mono ?_); rintro e1 w9 ⟨rfl, hb⟩; (try have HL := Lib.hid (HL.out.below hb)); have HX := Lib.hid (HX.out.below hb); obtain ⟨x0, x1, x2, x3, x4, x5, x6, x7, x8, -⟩ := cells9' HX.out.box; clear hb))
      obtain ⟨W5, hW5⟩ : ∃ W5 : World, W5 = w9 := ⟨_, rfl⟩
      subst hW5
      go_upto_region 5 with fail
      have hq6 := heap_alloc_new W5 (.cells #[.int .i64 r.N, .int .i64 r.S, .int .i64 r.low, .int .i64 r.high, .int .i64 r.total, .int .i64 r.pure, .int .i64 r.worst, .slice A2 r.N c2, .slice B2 r.N d2] 24)
      have hb6 := below_new W5 (.cells #[.int .i64 r.N, .int .i64 r.S, .int .i64 r.low, .int .i64 r.high, .int .i64 r.total, .int .i64 r.pure, .int .i64 r.worst, .slice A2 r.N c2, .slice B2 r.N d2] 24)
      have hs6 : (W5.alloc (.cells #[.int .i64 r.N, .int .i64 r.S, .int .i64 r.low, .int .i64 r.high, .int .i64 r.total, .int .i64 r.pure, .int .i64 r.worst, .slice A2 r.N c2, .slice B2 r.N d2] 24)).heap.size = W5.heap.size + 1 := by simp
      obtain ⟨bq, hbq⟩ : ∃ bq, W5.heap.size = bq := ⟨_, rfl⟩
      obtain ⟨W6, hW6⟩ : ∃ W6, W5.alloc (.cells #[.int .i64 r.N, .int .i64 r.S, .int .i64 r.low, .int .i64 r.high, .int .i64 r.total, .int .i64 r.pure, .int .i64 r.worst, .slice A2 r.N c2, .slice B2 r.N d2] 24) = W6 := ⟨_, rfl⟩
      rw [hW6] at hq6 hb6 hs6 ⊢
      rw [hbq] at hq6 hb6 hs6 ⊢
      have Hb6 := Lib.hid hb6
      have Hq6 := Lib.hid hq6
      have hX6 := HX.out.below (by rw [hbq]; exact hb6)
      have hbb : bb < bq := by rw [← hbq]; exact (Array.getElem?_eq_some_iff.1 HX.out.box).1
      have Hbq := Lib.hid hbq
      have Hx6 := Lib.hid hX6.box
      clear hW6 hq6 hb6 hX6 hbq x0 x1 x2 x3 x4 x5 x6 x7 x8
      obtain ⟨x0, x1, x2, x3, x4, x5, x6, x7, x8, -⟩ := cells9' Hx6.out
      obtain ⟨y0, y1, y2, y3, y4, y5, y6, y7, y8, yf⟩ := cells9' Hq6.out
      have hmk := run_mkInt r.N (by omega)
      go_cut [4] (fun s4 wx => s4 = .pointer (some ⟨bq, 0, none⟩) ∧ ∃ g1 g2 : Nat, bq < g1 ∧ bq < g2 ∧ g1 ≠ g2 ∧ Hid (Blk wx g1 (List.replicate r.N 0)) ∧ Hid (Blk wx g2 (List.replicate r.N 0)) ∧ Hid (wx.heap[bq]? = some (.cells #[.int .i64 r.N, .int .i64 r.S, .int .i64 r.low, .int .i64 r.high, .int .i64 r.total, .int .i64 r.pure, .int .i64 r.worst, .slice (some ⟨g1, 0, none⟩) r.N r.N, .slice (some ⟨g2, 0, none⟩) r.N r.N] 24 (0, 0))) ∧ Below bq W5 wx)
      case first =>
        go_region
        · have hc4 := set78 (A' := some ⟨bq + 1, 0, none⟩) (n' := r.N) (c' := r.N) (B' := some ⟨bq + 1 + 1, 0, none⟩) (m' := r.N) (d' := r.N) Hq6.out
          have hk4 := set78_kx W6 bq (.slice (some ⟨bq + 1, 0, none⟩) r.N r.N) (.slice (some ⟨bq + 1 + 1, 0, none⟩) r.N r.N)
          obtain ⟨W9, hW9⟩ : ∃ W9, (W6.setCell ⟨bq, 7, none⟩ (.slice (some ⟨bq + 1, 0, none⟩) r.N r.N)).setCell ⟨bq, 8, none⟩ (.slice (some ⟨bq + 1 + 1, 0, none⟩) r.N r.N) = W9 := ⟨_, rfl⟩
          rw [hW9] at hc4 hk4 ⊢
          have hz9 : W9.heap.size = bq + 1 := by rw [← hW9, ← hs6]; simp [World.setCell]
          obtain ⟨o, ho⟩ : ∃ o, (Obj.cells (madeCells #[Value.int .i64 0] r.N) 3) = o := ⟨_, rfl⟩
          have hn1 := heap_alloc_new W9 (.cells (madeCells #[Value.int .i64 0] r.N) 3)
          have hn2 := heap_alloc_new (W9.alloc (.cells (madeCells #[Value.int .i64 0] r.N) 3)) (.cells (madeCells #[Value.int .i64 0] r.N) 3)
          have hz10 : (W9.alloc (.cells (madeCells #[Value.int .i64 0] r.N) 3)).heap.size = bq + 2 := by simp; omega
          have hb1' := below_new W9 (.cells (madeCells #[Value.int .i64 0] r.N) 3)
          have hb2' := below_new (W9.alloc (.cells (madeCells #[Value.int .i64 0] r.N) 3)) (.cells (madeCells #[Value.int .i64 0] r.N) 3)
          rw [hz9] at hn1
          rw [hz10] at hn2
          have k1 := (hb2'.block (bq + 1) (by omega)).trans hn1
          have hbox := (hb2'.block bq (by omega)).trans ((hb1'.block bq (by omega)).trans hc4)
          have hbz : Below bq W5 ((W9.alloc (.cells (madeCells #[Value.int .i64 0] r.N) 3)).alloc (.cells (madeCells #[Value.int .i64 0] r.N) 3)) := (Kx.low Hb6.out hk4 (fun j hj => by omega) (by omega)).trans ((hb1'.mono (by omega)).trans (hb2'.mono (by omega)))
          have d1 : Blk _ (bq + 1) (List.replicate r.N 0) := Blk.made k1
          have d2 : Blk _ (bq + 2) (List.replicate r.N 0) := Blk.made hn2
          clear hW9 hn1 hn2 k1 hc4 hk4 hb1' hb2'
          rw [ho] at d1 d2 hbox hbz ⊢
          obtain ⟨Wx, hWx⟩ : ∃ Wx, (W9.alloc o).alloc o = Wx := ⟨_, rfl⟩
          rw [hWx] at d1 d2 hbox hbz ⊢
          go_wp2_with fail
          go_meet
          exact ⟨rfl, bq + 1, bq + 2, by omega, by omega, by omega, Lib.hid d1, Lib.hid d2, Lib.hid hbox, hbz.drew⟩
        · have hc4 := set78 (A' := some ⟨bq + 1 + 1, 0, none⟩) (n' := r.N) (c' := r.N) (B' := some ⟨bq + 1, 0, none⟩) (m' := r.N) (d' := r.N) Hq6.out
          have hk4 := set78_kx W6 bq (.slice (some ⟨bq + 1 + 1, 0, none⟩) r.N r.N) (.slice (some ⟨bq + 1, 0, none⟩) r.N r.N)
          obtain ⟨W9, hW9⟩ : ∃ W9, (W6.setCell ⟨bq, 7, none⟩ (.slice (some ⟨bq + 1 + 1, 0, none⟩) r.N r.N)).setCell ⟨bq, 8, none⟩ (.slice (some ⟨bq + 1, 0, none⟩) r.N r.N) = W9 := ⟨_, rfl⟩
          rw [hW9] at hc4 hk4 ⊢
          have hz9 : W9.heap.size = bq + 1 := by rw [← hW9, ← hs6]; simp [World.setCell]
          obtain ⟨o, ho⟩ : ∃ o, (Obj.cells (madeCells #[Value.int .i64 0] r.N) 3) = o := ⟨_, rfl⟩
          have hn1 := heap_alloc_new W9 (.cells (madeCells #[Value.int .i64 0] r.N) 3)
          have hn2 := heap_alloc_new (W9.alloc (.cells (madeCells #[Value.int .i64 0] r.N) 3)) (.cells (madeCells #[Value.int .i64 0] r.N) 3)
          have hz10 : (W9.alloc (.cells (madeCells #[Value.int .i64 0] r.N) 3)).heap.size = bq + 2 := by simp; omega
          have hb1' := below_new W9 (.cells (madeCells #[Value.int .i64 0] r.N) 3)
          have hb2' := below_new (W9.alloc (.cells (madeCells #[Value.int .i64 0] r.N) 3)) (.cells (madeCells #[Value.int .i64 0] r.N) 3)
          rw [hz9] at hn1
          rw [hz10] at hn2
          have k1 := (hb2'.block (bq + 1) (by omega)).trans hn1
          have hbox := (hb2'.block bq (by omega)).trans ((hb1'.block bq (by omega)).trans hc4)
          have hbz : Below bq W5 ((W9.alloc (.cells (madeCells #[Value.int .i64 0] r.N) 3)).alloc (.cells (madeCells #[Value.int .i64 0] r.N) 3)) := (Kx.low Hb6.out hk4 (fun j hj => by omega) (by omega)).trans ((hb1'.mono (by omega)).trans (hb2'.mono (by omega)))
          have d1 : Blk _ (bq + 1) (List.replicate r.N 0) := Blk.made k1
          have d2 : Blk _ (bq + 2) (List.replicate r.N 0) := Blk.made hn2
          clear hW9 hn1 hn2 k1 hc4 hk4 hb1' hb2'
          rw [ho] at d1 d2 hbox hbz ⊢
          obtain ⟨Wx, hWx⟩ : ∃ Wx, (W9.alloc o).alloc o = Wx := ⟨_, rfl⟩
          rw [hWx] at d1 d2 hbox hbz ⊢
          go_wp2_with fail
          go_meet
          exact ⟨rfl, bq + 2, bq + 1, by omega, by omega, by omega, Lib.hid d2, Lib.hid d1, Lib.hid hbox, hbz.drew⟩
      case rest =>
        obtain ⟨e4, g1, g2, hg1, hg2, hg12, HB1, HB2, HQb, hbz⟩ := hcut
        subst e4
        obtain ⟨W7, rfl⟩ : ∃ W7 : World, W7 = wc := ⟨_, rfl⟩
        have Hbz := Lib.hid hbz
        clear x0 x1 x2 x3 x4 x5 x6 x7 x8 y0 y1 y2 y3 y4 y5 y6 y7 y8 yf Hx6 Hq6 Hb6 H1 H2 hbz hmk
        go_wp2_with fail
        go_loopw [5] (fun s5 wr => ∃ i : Nat, s5 = .int .i64 (i : Nat) ∧ i ≤ r.N ∧ Hid (Blk wr g1 (tabL r.N (fun j => if r.N - 1 - j < i then r.fi.getD (r.N - 1 - j) 0 else 0))) ∧ Hid (Blk wr g2 (tabL r.N (fun j => if (2 * r.N - r.S - j) % r.N < i then r.th.getD ((2 * r.N - r.S - j) % r.N) 0 else 0))) ∧ Hid (wr.heap[bq]? = some (.cells #[.int .i64 r.N, .int .i64 r.S, .int .i64 r.low, .int .i64 r.high, .int .i64 r.total, .int .i64 r.pure, .int .i64 r.worst, .slice (some ⟨g1, 0, none⟩) r.N r.N, .slice (some ⟨g2, 0, none⟩) r.N r.N] 24 (0, 0))) ∧ Below bq W5 wr) (fun i _ => r.N - (intOf i).toNat)
        case atStart =>
          refine ⟨0, rfl, Nat.zero_le _, Lib.hid ?_, Lib.hid ?_, HQb, Hbz.out⟩
          · rw [tabL_zero (fun j _ => if_neg (Nat.not_lt_zero _))]; exact HB1.out
          · rw [tabL_zero (fun j _ => if_neg (Nat.not_lt_zero _))]; exact HB2.out
        case round =>
          clear HB1 HB2 HQb Hbz
          obtain ⟨i, rfl, hi, HB1, HB2, HQb, hbz⟩ := hrel
          obtain ⟨wo, rfl⟩ : ∃ wo : World, wo = wr := ⟨_, rfl⟩
          have hXo := HX.out.below (by rw [Hbq.out]; exact hbz)
          have HXo := Lib.hid hXo
          have Hbz := Lib.hid hbz
          clear hXo hbz
          obtain ⟨x0, x1, x2, x3, x4, x5, x6, x7, x8, -⟩ := cells9' HXo.out.box
          obtain ⟨y0, y1, y2, y3, y4, y5, y6, y7, y8, yf⟩ := cells9' HQb.out
          by_cases hlt : i < r.N
          · obtain ⟨bf, of', xf, hAe, hbf, hsf, s0⟩ := HXo.out.F.at1 hlt
            obtain ⟨bt, ot, xt, hBe, hbt, hst, s1⟩ := HXo.out.T.at1 hlt
            have hfx := getD_some hsf
            have htx := getD_some hst
            obtain ⟨k1, hk1⟩ : ∃ k1, r.N - 1 - i = k1 := ⟨_, rfl⟩
            obtain ⟨k2, hk2⟩ : ∃ k2, (2 * r.N - r.S - i) % r.N = k2 := ⟨_, rfl⟩
            have hk1N : k1 < r.N := by omega
            have hk2N : k2 < r.N := by rw [← hk2]; exact Nat.mod_lt _ (by omega)
            have hfbq : bf < bq := by
              obtain ⟨b', o', e', hb', _⟩ := HX.out.F.2.2 (by omega)
              rw [hAe] at e'; injection e' with e'; injection e' with e1 e2; rw [Hbq.out] at hb'; omega
            have htbq : bt < bq := by
              obtain ⟨b', o', e', hb', _⟩ := HX.out.T.2.2 (by omega)
              rw [hBe] at e'; injection e' with e'; injection e' with e1 e2; rw [Hbq.out] at hb'; omega
            have hblt1 := HB1.out.lt
            have hblt2 := HB2.out.lt
            have v1 : (r.N : Int) - 1 - (i : Int) = (k1 : Int) := by omega
            have v2 : (2 * (r.N : Int) - (r.S : Int) - (i : Int)) % (r.N : Int) = (k2 : Int) := by rw [← hk2, Int.natCast_emod]; congr 1; omega
            have hc1 := HB1.out.cell (tabL_at hk1N)
            have hc2 := HB2.out.cell (tabL_at hk2N)
            have f1 := HB1.out.frozen
            have f2 := HB2.out.frozen
            have Hk := Lib.hid (And.intro hk1 hk2)
            have Hsx := Lib.hid (And.intro hfx htx)
            have i1 : (i : Int) < (r.N : Int) := by omega
            have i0 : (0 : Int) ≤ (i : Int) := by omega
            have j1 : (k1 : Int) < (r.N : Int) := by omega
            have j0 : (0 : Int) ≤ (k1 : Int) := by omega
            have j3 : (k2 : Int) < (r.N : Int) := by omega
            have j2 : (0 : Int) ≤ (k2 : Int) := by omega
            subst hAe
            subst hBe
            clear hk1 hk2 hfx htx hsf hst
            as_aux_lemma =>
              go_wp2_with fail
              go_region
              have hkA : Kx (fun j => j = g1) wo ((wo.setCell ⟨g1, k1, none⟩ (.int .i64 xf)).drew) := (kx_setb _ _ _ _ : Kx (fun j => j = g1) wo (wo.setCell ⟨g1, k1, none⟩ (.int .i64 xf))).drew
              have hBA : Blk ((wo.setCell ⟨g1, k1, none⟩ (.int .i64 xf)).drew) g1 (tabL r.N (fun j => if r.N - 1 - j < i + 1 then r.fi.getD (r.N - 1 - j) 0 else 0)) := by
                have h := HB1.out.set k1 xf
                rw [mirF_step Hk.out.1 hlt Hsx.out.1] at h
                with_reducible exact h.drew
              obtain ⟨W2, hW2⟩ : ∃ W2, (wo.setCell ⟨g1, k1, none⟩ (.int .i64 xf)).drew = W2 := ⟨_, rfl⟩
              rw [hW2] at hkA hBA ⊢
              have hBB := HB2.out.kx hkA (by omega)
              have hQA := (hkA.block bq (Array.getElem?_eq_some_iff.1 HQb.out).1 (by omega)).trans HQb.out
              have hzA : Below bq W5 W2 := Kx.low Hbz.out hkA (fun j hj => by omega) (by have := HB1.out.lt; omega)
              have s2 := (World.cell?_of_block (w := wo) (a := ⟨bt, ot + i, none⟩) (hkA.block bt hbt (by omega))).trans s1
              have hXA := HX.out.below (by rw [Hbq.out]; exact hzA)
              have hblt3 := hBB.lt
              have HBA := Lib.hid hBA
              have HBB := Lib.hid hBB
              have HQA := Lib.hid hQA
              have HzA := Lib.hid hzA
              have hc3 := hBB.cell (tabL_at hk2N)
              have f3 := hBB.frozen
              clear x0 x1 x2 x3 x4 x5 x6 x7 x8 y0 y1 y2 y3 y4 y5 y6 y7 y8 yf hc1 hc2 f1 f2 s0 s1 hW2 hkA hzA
              obtain ⟨x0, x1, x2, x3, x4, x5, x6, x7, x8, -⟩ := cells9' hXA.box
              obtain ⟨y0, y1, y2, y3, y4, y5, y6, y7, y8, yf⟩ := cells9' hQA
              clear hXA hQA hBA hBB
              as_aux_lemma =>
                go_wp2_with fail
                go_region
                clear v1 v2 hk1N hk2N hfbq htbq hbf hbt hblt1 hblt2 hblt3 i1 i0 j1 j0 j3 j2
                have h21 : ¬ g1 = g2 := hg12
                have hkB : Kx (fun j => j = g2) W2 ((W2.setCell ⟨g2, k2, none⟩ (.int .i64 xt)).drew) := (kx_setb _ _ _ _ : Kx (fun j => j = g2) W2 (W2.setCell ⟨g2, k2, none⟩ (.int .i64 xt))).drew
                have hBC : Blk ((W2.setCell ⟨g2, k2, none⟩ (.int .i64 xt)).drew) g2 (tabL r.N (fun j => if (2 * r.N - r.S - j) % r.N < i + 1 then r.th.getD ((2 * r.N - r.S - j) % r.N) 0 else 0)) := by
                  have h := HBB.out.set k2 xt
                  rw [mirT_step (by omega) hs3 Hk.out.2 hlt Hsx.out.2] at h
                  with_reducible exact h.drew
                obtain ⟨W3, hW3⟩ : ∃ W3, (W2.setCell ⟨g2, k2, none⟩ (.int .i64 xt)).drew = W3 := ⟨_, rfl⟩
                rw [hW3] at hkB hBC ⊢
                have HBD := Lib.hid (HBA.out.kx hkB h21)
                have HQD := Lib.hid ((hkB.block bq (Array.getElem?_eq_some_iff.1 HQA.out).1 (Nat.ne_of_lt hg2)).trans HQA.out)
                have HzD := Lib.hid (show Below bq W5 W3 from Kx.low HzA.out hkB (fun j hj => hj ▸ Nat.le_of_lt hg2) (Nat.le_of_lt (Nat.lt_trans hg1 HBA.out.lt)))
                have HBC := Lib.hid hBC
                clear HX HXo HBB HB1 HB2 HQb Hk Hsx
                clear x0 x1 x2 x3 x4 x5 x6 x7 x8 y0 y1 y2 y3 y4 y5 y6 y7 y8 yf hc3 f3 s2 hW3 hkB hBC
                go_wp2_with fail
                exact ⟨⟨i + 1, by go_num, by omega, HBD, HBC, HQD, HzD.out⟩, by simp [intOf]; omega⟩
          · obtain rfl : i = r.N := by omega
            have l1 : SlE intE 1 wo (some ⟨g1, 0, none⟩) r.N r.mir.fi := by
              have e : (tabL r.N (fun j => if r.N - 1 - j < r.N then r.fi.getD (r.N - 1 - j) 0 else 0)) = r.mir.fi := tabL_congr (fun j hj => if_pos (by omega))
              have h := HB1.out
              rw [e] at h
              exact h.sl (tabL_len _ _).symm
            have l2 : SlE intE 1 wo (some ⟨g2, 0, none⟩) r.N r.mir.th := by
              have e : (tabL r.N (fun j => if (2 * r.N - r.S - j) % r.N < r.N then r.th.getD ((2 * r.N - r.S - j) % r.N) 0 else 0)) = r.mir.th := tabL_congr (fun j hj => if_pos (Nat.mod_lt _ (by omega)))
              have h := HB2.out
              rw [e] at h
              exact h.sl (tabL_len _ _).symm
            have hQ : Bx w wo bq r.N r.S r.low r.high r.total r.pure r.worst (some ⟨g1, 0, none⟩) (some ⟨g2, 0, none⟩) none r.N r.N r.N r.N 0 0 r.mir.fi r.mir.th [] := ⟨HQb.out, l1, l2, HXo.out.S, HXo.out.bel⟩
            have HQ := Lib.hid hQ
            clear l1 l2 hQ x0 x1 x2 x3 x4 x5 x6 x7 x8 y0 y1 y2 y3 y4 y5 y6 y7 y8 yf HB1 HB2 HQb HX Hbz
            have HX := HXo
            clear HXo
            obtain ⟨x0, x1, x2, x3, x4, x5, x6, x7, x8, -⟩ := cells9' HX.out.box
            obtain ⟨y0, y1, y2, y3, y4, y5, y6, y7, y8, -⟩ := cells9' HQ.out.box
            have Hok := Lib.hid (Rg.mir_ok Hr.out)
            rcases Classical.em (∃ st, r.Good st) with hyes | hno
            · have hyq : ∃ st, r.mir.Good st := by
                obtain ⟨st, h⟩ := hyes
                exact ⟨_, mir_good Hr.out h⟩
              have Hy := Lib.hid (And.intro hyes hyq)
              clear hyes hyq
              have H3 := Lib.hid (fun (W : World) (h : Bx w W bb r.N r.S r.low r.high r.total r.pure r.worst A2 B2 none r.N c2 r.N d2 0 0 r.fi r.th []) => best_some r Hr.out A2 B2 r.N c2 r.N d2 cs W h.F h.T Hy.out.1 Hcs.out.1)
              have H4 := Lib.hid (fun (W : World) (h : Bx w W bq r.N r.S r.low r.high r.total r.pure r.worst (some ⟨g1, 0, none⟩) (some ⟨g2, 0, none⟩) none r.N r.N r.N r.N 0 0 r.mir.fi r.mir.th []) => (show Calls Try.prog 20 #[.agg #[.int .i64 r.N, .int .i64 r.S, .int .i64 r.low, .int .i64 r.high, .int .i64 r.total, .int .i64 r.pure, .int .i64 r.worst, .slice (some ⟨g1, 0, none⟩) r.N r.N, .slice (some ⟨g2, 0, none⟩) r.N r.N]] W (fun en w' => (∃ (A' : Option Addr) (c' : Nat), en = .returned (.tuple #[.slice A' r.N c', .int .i64 cs, .int .i64 0])) ∧ Below W.heap.size W w') from best_some r.mir Hok.out (some ⟨g1, 0, none⟩) (some ⟨g2, 0, none⟩) r.N r.N r.N r.N cs W h.F h.T Hy.out.2 Hcs.out.2))
              go_wp2_with (first
                | (go_at_call 20; (with_reducible refine (H3.out _ HX.out).mono ?_); rintro e1 w9 ⟨⟨A5, c5, rfl⟩, hb⟩; have HX := Lib.hid (HX.out.below hb); have HQ := Lib.hid (HQ.out.below hb); obtain ⟨x0, x1, x2, x3, x4, x5, x6, x7, x8, -⟩ := cells9' HX.out.box; obtain ⟨y0, y1, y2, y3, y4, y5, y6, y7, y8, -⟩ := cells9' HQ.out.box; clear hb)
                | (go_at_call 20; (with_reducible refine (H4.out _ HQ.out).mono ?_); rintro e1 w9 ⟨⟨A6, c6, rfl⟩, hb⟩; have HX := Lib.hid (HX.out.below hb); have HQ := Lib.hid (HQ.out.below hb); obtain ⟨x0, x1, x2, x3, x4, x5, x6, x7, x8, -⟩ := cells9' HX.out.box; obtain ⟨y0, y1, y2, y3, y4, y5, y6, y7, y8, -⟩ := cells9' HQ.out.box; clear hb)
                | (go_at_call 19; (with_reducible refine (Hlv.out _ HX.out).mono ?_); rintro e1 w9 ⟨rfl, hb⟩; have HX := Lib.hid (HX.out.below hb); have HQ := Lib.hid (HQ.out.below hb); obtain ⟨x0, x1, x2, x3, x4, x5, x6, x7, x8, -⟩ := cells9' HX.out.box; obtain ⟨y0, y1, y2, y3, y4, y5, y6, y7, y8, -⟩ := cells9' HQ.out.box; clear hb))
              exact HY.out _ HX.out.bel
            · have hnq : ∀ st, ¬ r.mir.Good st := fun st h => hno ⟨_, ((mir_same' Hr.out).good st h).1⟩
              have Hn := Lib.hid (And.intro (show ∀ st, ¬ r.Good st from fun st h => hno ⟨st, h⟩) hnq)
              clear hno hnq
              have H3 := Lib.hid (fun (W : World) (h : Bx w W bb r.N r.S r.low r.high r.total r.pure r.worst A2 B2 none r.N c2 r.N d2 0 0 r.fi r.th []) => best_none r Hr.out A2 B2 r.N c2 r.N d2 W h.F h.T Hn.out.1)
              have H4 := Lib.hid (fun (W : World) (h : Bx w W bq r.N r.S r.low r.high r.total r.pure r.worst (some ⟨g1, 0, none⟩) (some ⟨g2, 0, none⟩) none r.N r.N r.N r.N 0 0 r.mir.fi r.mir.th []) => (show Calls Try.prog 20 #[.agg #[.int .i64 r.N, .int .i64 r.S, .int .i64 r.low, .int .i64 r.high, .int .i64 r.total, .int .i64 r.pure, .int .i64 r.worst, .slice (some ⟨g1, 0, none⟩) r.N r.N, .slice (some ⟨g2, 0, none⟩) r.N r.N]] W (fun en w' => en = .returned (.tuple #[.slice none 0 0, .int .i64 0, .int .i64 6]) ∧ Below W.heap.size W w') from best_none r.mir Hok.out (some ⟨g1, 0, none⟩) (some ⟨g2, 0, none⟩) r.N r.N r.N r.N W h.F h.T Hn.out.2))
              go_wp2_with (first
                | (go_at_call 20; (with_reducible refine (H3.out _ HX.out).mono ?_); rintro e1 w9 ⟨rfl, hb⟩; have HX := Lib.hid (HX.out.below hb); have HQ := Lib.hid (HQ.out.below hb); obtain ⟨x0, x1, x2, x3, x4, x5, x6, x7, x8, -⟩ := cells9' HX.out.box; obtain ⟨y0, y1, y2, y3, y4, y5, y6, y7, y8, -⟩ := cells9' HQ.out.box; clear hb)
                | (go_at_call 20; (with_reducible refine (H4.out _ HQ.out).mono ?_); rintro e1 w9 ⟨rfl, hb⟩; have HX := Lib.hid (HX.out.below hb); have HQ := Lib.hid (HQ.out.below hb); obtain ⟨x0, x1, x2, x3, x4, x5, x6, x7, x8, -⟩ := cells9' HX.out.box; obtain ⟨y0, y1, y2, y3, y4, y5, y6, y7, y8, -⟩ := cells9' HQ.out.box; clear hb)
                | (go_at_call 19; (with_reducible refine (Hlv.out _ HX.out).mono ?_); rintro e1 w9 ⟨rfl, hb⟩; have HX := Lib.hid (HX.out.below hb); have HQ := Lib.hid (HQ.out.below hb); obtain ⟨x0, x1, x2, x3, x4, x5, x6, x7, x8, -⟩ := cells9' HX.out.box; obtain ⟨y0, y1, y2, y3, y4, y5, y6, y7, y8, -⟩ := cells9' HQ.out.box; clear hb))
              exact HY.out _ HX.out.bel
end Go.Proofs.Ytgmphiklkllnlaa
