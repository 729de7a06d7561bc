/-
  The contract of clavecinlaw05.MatchHalls: true at every input.
-/
import Derived.Test.YtjdhcdoekfikpaaMLawB
namespace Go.Proofs.Ytjdhcdoekfikpaa
open Go.RowKit

theorem sub_lt {S : List Nat} {n : Nat} (h : S.Sublist (List.range n)) : ∀ r ∈ S, r < n := fun _ hr => List.mem_range.1 (h.subset hr)
theorem sub_inc {S : List Nat} {n i : Nat} (h : S.Sublist (List.range n)) (hi : i + 1 < S.length) : S.getD i 0 < S.getD (i + 1) 0 := by
  have hp : S.Pairwise (· < ·) := List.Pairwise.sublist h List.pairwise_lt_range
  rw [getD_get _ _ _ (by omega), getD_get _ _ _ hi]
  exact List.pairwise_iff_getElem.1 hp i (i + 1) (by omega) hi (by omega)
theorem step_app2 {P : Program} {w : World} {ops : Array Oper} {o : Oper} {a : Act} {K : Act → World → Prop} {Q : Exit → Act → World → Prop} {E : Prop} (hgd : o.guard = none) (s x : Operand) (t : TypeId)
    (ho : o.op = .call { callee := .builtin .append, args := #[s, x], argTypes := #[t, t] })
    {e : TypeId} {sz bytes : Nat} (hE : ElemOk P t e sz bytes) (base : Nat)
    (v : Value) (n : Nat) (xs : List Value) (hs : a.eval s = v) (hown : w.ownsRow base e sz v n xs) (A : Option Addr) (m c : Nat) (news : List Value) (hx : a.eval x = .slice A m c) (hr : Sl w sz A m news) (h1 : ∀ u ∈ news, u.oneCell' = true)
    (r : Nat) (hnm : n + m = r) (h63 : r ≤ maxLen) (hbytes : r * bytes ≤ 140737488355328) (hbase : base ≤ w.heap.size)
    (h : ∀ A' c' w', w'.ownsRow base e sz (.slice A' r c') r (xs ++ news) → w.grownBy w' v.ownBlock → K (a.put o.dst (.slice A' r c')) w') : if Region.wanted o (yielded ops a.tmps) = true then Oper.wp P o a w K Q else E := by
  subst hnm
  exact step_app hgd s x t ho hE base v n xs hs hown A m c news hx hr h1 h63 hbytes hbase fun A' c' w' h2 h3 _ => h A' c' w' h2 h3
set_option maxRecDepth 100000 in
set_option maxHeartbeats 8000000 in
theorem halls_any (A : Option Addr) (n c : Nat) (T : List (List Int)) (w : World) (hT : SlRc w A n T) (hn : n ≤ 9223372036854775807) :
    Calls Try.prog 4 #[.slice A n c] w fun e w' => e = .returned (.bool true) ∧ Below w.heap.size w w' := by
  refine calls_cps ?_
  intro R hR
  obtain ⟨T1, hT1⟩ : ∃ T1, tabL 66 66 T = T1 := ⟨_, rfl⟩
  obtain ⟨L, hL⟩ : ∃ L, T1.length = L := ⟨_, rfl⟩
  have HT1 := Lib.hid hT1
  have HL := Lib.hid hL
  have HT := Lib.hid hT
  clear hT1 hL hT
  go_enter Try.func4, Try.ntmps4
  go_wp2_with fail
  refine (table_tc A n c T _ _ 66 66 rfl rfl (by omega) (by omega) _ HT.out hn).mono ?_
  rw [HT1.out, HL.out]
  rintro e w1 ⟨A1, c1, rfl, h1⟩
  by_cases hb : tabB T1 = true
  · obtain ⟨m, hok⟩ := tok_of hb
    have Hok := Lib.hid hok
    have Hb := Lib.hid hb
    have hL64 : L ≤ 64 := by rw [← HL.out]; exact Nat.le_trans hok.nm hok.m64
    obtain ⟨K, hK⟩ : ∃ K, kuhn (gT T1) m (List.range L) = K := ⟨_, rfl⟩
    have HK := Lib.hid hK
    clear hok hb hK
    by_cases hKL : K = L
    · have Hyes := Lib.hid (show kuhn (gT T1) m (List.range L) = L by rw [HK.out, hKL])
      subst hKL
      go_wp2_with fail
      refine (hall_noneT w A1 K c1 m T1 _ h1 Hok.out Hyes.out).mono ?_
      rintro e w2 ⟨rfl, h2⟩
      go_wp2_with fail
      refine (refCheck_yesT w A1 K c1 T1 _ h2 Hb.out).mono ?_
      rintro e w3 ⟨rfl, h3⟩
      go_wp2_with fail
      refine (refAll_T w A1 K c1 T1 _ h3 hL64).mono ?_
      rintro e w4 ⟨A4, c4, rfl, hs4, h4⟩
      go_wp2_with fail
      refine (refMost_T w A1 K c1 m K T1 A4 K c4 (List.range K) _ h4 Hok.out hs4 (by omega) (range_lt K) HK.out).mono ?_
      rintro e w5 ⟨rfl, _, h5⟩
      go_wp2_with fail
      refine (lives_T w A1 K c1 T1 _ h5).mono ?_
      rintro e w6 ⟨rfl, h6⟩
      have Hf := Lib.hid (hR.out (.returned (.bool true)) w6 ⟨rfl, h6.bel⟩)
      clear h1 h2 h3 h4 hs4 h5 h6
      go_wp2
      exact Hf.out
    · have hno : kuhn (gT T1) m (List.range L) ≠ L := by rw [HK.out]; exact hKL
      obtain ⟨hs1, hs2, hs3⟩ := hall_all (gT T1) m L hno
      obtain ⟨S, hS⟩ : ∃ S, hallF (gT T1) m (List.range L) (List.range L) = S := ⟨_, rfl⟩
      rw [hS] at hs1 hs2 hs3
      obtain ⟨Ls, hLs⟩ : ∃ Ls, S.length = Ls := ⟨_, rfl⟩
      have hLs2 : Ls ≤ L := by rw [← hLs]; simpa using hs1.length_le
      obtain ⟨N, hN⟩ : ∃ N, near (gT T1) m S = N := ⟨_, rfl⟩
      rw [hN, hLs] at hs2
      have Hno := Lib.hid hno
      have HS := Lib.hid hS
      have Hs1 := Lib.hid hs1
      have Hs2 := Lib.hid hs2
      have hNl : N < Ls := by omega
      have Hs3 := Lib.hid hs3
      have HLs := Lib.hid hLs
      have HN := Lib.hid hN
      have g0 : ((K : Int) == (L : Int)) = false := by simp; omega
      clear hno hS hs1 hs2 hs3 hLs hKL hN
      go_wp2_with fail
      refine (hall_someT w A1 L c1 m T1 _ h1 Hok.out Hno.out S HS.out).mono ?_
      rw [HLs.out]
      rintro e w2 ⟨B1, d1, rfl, hB, hd1, hd2, h2⟩
      have hb2 := Below.refl w2.heap.size w2
      go_wp2_with fail
      refine (refCheck_any A1 L c1 T1 _ h2.rc.slr (by omega) h2.rc.rowle).mono ?_
      rw [if_pos Hb.out]
      rintro e w3 ⟨rfl, hq3⟩
      have h3 := h2.qt hq3
      have hB3 := hB.below hq3.below
      go_wp2_with fail
      refine (refAll_any A1 L c1 hL64 _).mono ?_
      rintro e w4 ⟨A4, c4, rfl, ho4, hb4⟩
      have h4 := h3.below hb4
      have hB4 := hB3.below hb4
      have hs4 : SlE intE 1 w4 A4 L (castL (List.range L)) := SlE.of_own ho4 (by rw [castL_len, List.length_range])
      go_wp2_with fail
      refine (refMost_T w A1 L c1 m K T1 A4 L c4 (List.range L) _ h4 Hok.out hs4 (by omega) (range_lt L) HK.out).mono ?_
      rintro e w5 ⟨rfl, hb5, h5⟩
      have hB5 := hB4.below hb5
      have H5 := Lib.hid h5
      have HB5 := Lib.hid hB5
      clear h1 h2 h3 h4 h5 hB hB3 hB4 hB5 hb2 hb4 hb5 hq3 ho4 hs4
      go_wp2_with fail
      go_loopw [7] (fun s7 wr => ∃ i : Nat, i ≤ Ls ∧ s7 = .int .i64 ((i : Nat) : Int) ∧ Qt w5 wr) (fun s7 _ => Ls - (intOf s7).toNat)
      case atStart => exact ⟨0, by omega, rfl, Qt.refl _⟩
      case round =>
        obtain ⟨i, hi, rfl, hq⟩ := hrel
        obtain ⟨wi, rfl⟩ : ∃ wi : World, wi = wr := ⟨_, rfl⟩
        by_cases hlt : i < Ls
        · obtain ⟨b, o, x, rfl, _, hx, q0⟩ := (hq.sl HB5.out).at1 hlt
          have hxs : x = ((S.getD i 0 : Nat) : Int) := by rw [← castL_getD, List.getD_eq_getElem?_getD, hx]; rfl
          have hxl : S.getD i 0 < L := sub_lt Hs1.out _ (by rw [getD_get _ _ _ (by rw [HLs.out]; exact hlt)]; exact List.getElem_mem _)
          obtain ⟨r, hr⟩ : ∃ r, S.getD i 0 = r := ⟨_, rfl⟩
          rw [hr] at hxs hxl
          subst hxs
          have i1 : (i : Int) < (Ls : Int) := by omega
          have i2 : (r : Int) < (L : Int) := by omega
          have k1 : decide ((r : Int) < 0) = false := decide_eq_false (by omega)
          have k2 : decide ((L : Int) ≤ (r : Int)) = false := decide_eq_false (by omega)
          have k3 : decide (L ≤ r) = false := decide_eq_false (by omega)
          by_cases hi0 : i = 0
          · have g1 : decide ((0 : Int) < (i : Int)) = false := decide_eq_false (by omega)
            have g1' : decide (0 < i) = false := decide_eq_false (by omega)
            have Hi0 := Lib.hid hi0
            clear hr hx hi0
            go_wp2_with fail
            go_quiet (fail)
            go_wp2
            exact ⟨⟨i + 1, by omega, by go_num, hq.step _⟩, by simp [intOf]; omega⟩
          · obtain ⟨i', rfl⟩ : ∃ i', i = i' + 1 := ⟨i - 1, by omega⟩
            obtain ⟨b', o', y, e, _, hy, q1⟩ := (hq.sl HB5.out).at1 (k := i') (by omega)
            simp only [Option.some.injEq, Addr.mk.injEq, and_true] at e
            obtain ⟨rfl, rfl⟩ := e
            have hys : y = ((S.getD i' 0 : Nat) : Int) := by rw [← castL_getD, List.getD_eq_getElem?_getD, hy]; rfl
            have hinc := sub_inc Hs1.out (i := i') (by rw [HLs.out]; exact hlt)
            rw [hr] at hinc
            obtain ⟨r', hr'⟩ : ∃ r', S.getD i' 0 = r' := ⟨_, rfl⟩
            rw [hr'] at hys hinc
            subst hys
            have z1 : IntKind.i64.wrap ((i' : Int) + 1 - 1) = (i' : Int) := by rw [show (i' : Int) + 1 - 1 = i' by omega]; exact IntWalk.i64_in _ (by omega)
            have g1 : decide ((0 : Int) < (i' : Int) + 1) = true := decide_eq_true (by omega)
            have g2 : decide (r ≤ r') = false := decide_eq_false (by omega)
            have i3 : (i' : Int) < (Ls : Int) := by omega
            clear hr hx hy hr' hi0
            go_wp2_with fail
            go_quiet (fail)
            go_wp2
            exact ⟨⟨i' + 1 + 1, by omega, by go_num, hq.step _⟩, by simp [intOf]; omega⟩
        · obtain rfl : i = Ls := by omega
          obtain ⟨i1, rfl⟩ : ∃ i1, i = i1 + 1 := ⟨i - 1, by omega⟩
          have h6 := H5.out.qt hq
          have hB6 := HB5.out.below hq.below
          have i3 : (1 : Int) ≤ (i1 : Int) + 1 := by omega
          have z1 : IntKind.i64.wrap ((i1 : Int) + 1 - 1) = (i1 : Int) := by rw [show (i1 : Int) + 1 - 1 = i1 by omega]; exact IntWalk.i64_in _ (by omega)
          have g1 : ((N : Int) != (i1 : Int)) = false := by have := Hs2.out; simp; omega
          have g2 : ((i1 : Int) + 1 == 0) = false := by simp; omega
          have H6 := Lib.hid h6
          have HB6 := Lib.hid hB6
          clear h6 hB6 hq
          go_wp2_with fail
          refine (refNear_any A1 L c1 m T1 B1 (i1 + 1) d1 S wi H6.out.rc.slr Hok.out HB6.out (by omega) (sub_lt Hs1.out)).mono ?_
          rw [HN.out]
          rintro e w7 ⟨rfl, rfl⟩
          go_wp2_with fail
          refine (lives_any wi).mono ?_
          rintro e w8 ⟨rfl, hb8⟩
          have H8 := Lib.hid (H6.out.below hb8)
          have HB8 := Lib.hid (HB6.out.below hb8)
          clear hb8
          go_wp2_with fail
          go_loopg [8, 9] (i1 + 1) (fun gk s8 s9 wr => ∃ j : Nat, j + gk = i1 + 1 ∧ s8 = .int .i64 ((j : Nat) : Int) ∧ Below w8.heap.size w8 wr)
          case atStart => exact ⟨0, by omega, rfl, Below.refl _ _⟩
          case round =>
            clear z1 g1 g2
            obtain ⟨j, hj, rfl, hb⟩ := hrel
            obtain ⟨wj, rfl⟩ : ∃ wj : World, wj = wr := ⟨_, rfl⟩
            by_cases hlt : j < i1 + 1
            · have h9 := H8.out.below hb
              have hB9 := HB8.out.below hb
              have hjS : j < S.length := by rw [HLs.out]; exact hlt
              obtain ⟨r, hr⟩ : ∃ r, S[j]? = some r := ⟨_, List.getElem?_eq_getElem hjS⟩
              have hrm : r ∈ S := List.mem_of_getElem? hr
              have hnd : S.Nodup := List.Sublist.nodup Hs1.out (nodup_range L)
              have her : S.eraseIdx j = S.erase r := erase_idx hnd hr
              have hk := Hs3.out r hrm
              obtain ⟨X, hX⟩ : ∃ X, S.erase r = X := ⟨_, rfl⟩
              rw [hX] at hk her
              have hXl : X.length = i1 := by rw [← hX, List.length_erase_of_mem hrm, HLs.out]; rfl
              have hXn : ∀ x ∈ X, x < L := fun x hx => sub_lt Hs1.out x (by rw [← hX] at hx; exact List.mem_of_mem_erase hx)
              rw [hXl] at hk
              have hcut := slE_cut hB9 (k := j) (by omega)
              have hXs : (castL S).take j ++ (castL S).drop (j + 1) = castL X := by rw [← List.eraseIdx_eq_take_drop_succ, castL_eraseIdx, her]
              have i4 : (j : Int) < (i1 : Int) + 1 := by omega
              have i5 : (j : Int) ≤ (d1 : Int) := by omega
              have z2 : IntKind.i64.wrap ((j : Int) + 1) = (j : Int) + 1 := IntWalk.i64_in _ (by omega)
              have i6 : (0 : Int) ≤ (j : Int) + 1 := by omega
              have i7 : (j : Int) + 1 ≤ (i1 : Int) + 1 := by omega
              have s2 : ((j : Int) + 1).toNat = j + 1 := by omega
              have H9 := Lib.hid h9
              have HB9 := Lib.hid hB9
              have Hb9 := Lib.hid hb
              have Hk := Lib.hid hk
              have HXl := Lib.hid hXl
              have HXn := Lib.hid hXn
              have HXs := Lib.hid hXs
              have Hcut := Lib.hid hcut
              clear h9 hB9 hb hr hrm hnd her hk hX hXl hXn hXs hcut hjS
              obtain ⟨b, o, x0, rfl, hbl, _, _⟩ := HB9.out.at1 (k := j) (by omega)
              have hlj : j ≤ i1 := by omega
              have hdr : SlE intE 1 wj (if j < i1 then some ⟨b, o + (j + 1), none⟩ else none) (i1 - j) ((castL S).drop (j + 1)) := by
                by_cases e : j < i1
                · rw [if_pos e]
                  have h := SlE.drop1 HB9.out (k := j + 1) (by omega)
                  rwa [show i1 + 1 - (j + 1) = i1 - j by omega] at h
                · rw [if_neg e, show i1 - j = 0 by omega, List.drop_of_length_le (by rw [castL_len, HLs.out]; omega)]
                  exact SlE.nil _ _
              have hsrc : ∀ A', (j < i1 → A' = some (⟨b, o + (j + 1), none⟩ : Addr)) → SlE intE 1 wj A' (i1 - j) ((castL S).drop (j + 1)) := fun A' hA' => by
                by_cases e : j < i1
                · rw [if_pos e] at hdr; rw [hA' e]; exact hdr
                · rw [show i1 - j = 0 by omega, List.drop_of_length_le (by rw [castL_len, HLs.out]; omega)]
                  exact SlE.nil _ _
              have Hsrc := Lib.hid hsrc
              have HO1 := Lib.hid (own_newAt wj #[] 3 1 0 wj.heap.size rfl (Nat.le_refl _) (by unfold maxLen; omega) rfl)
              have HS1 := Lib.hid (Hcut.out.2.alloc (.cells #[] 3))
              have hone1 : ∀ u ∈ ((castL S).take j).flatMap intE, u.oneCell' = true := int_one _
              have hone2 : ∀ u ∈ ((castL S).drop (j + 1)).flatMap intE, u.oneCell' = true := int_one _
              have Hone1 := Lib.hid hone1
              have Hone2 := Lib.hid hone2
              clear hdr hsrc hone1 hone2
              go_wp2_with fail
              go_upto_region 18 with fail
              go_cut [9] (fun s9 wx => ∃ (A5 : Option Addr) (c5 : Nat), s9 = .slice A5 i1 c5 ∧ SlE intE 1 wx A5 i1 (castL X) ∧ Below wj.heap.size wj wx)
              case first =>
                by_cases hcap : d1 = j + 1
                · obtain rfl : i1 = j := by omega
                  subst hcap
                  have hsr := Lib.hid (Hsrc.out (some ⟨b, o, none⟩) (fun h => absurd h (by omega)))
                  rw [Nat.sub_self] at hsr
                  have i8 : (i1 : Int) ≤ (i1 : Int) + 1 := by omega
                  have i9 : i1 ≤ i1 + 1 := by omega
                  clear i4 i5 i7 hlt
                  go_region_held3 (fun _ => True) (trivial) (first
                    | (refine step_app2 rfl (.tmp 105) (.tmp 108) _ (by rfl) elemInt wj.heap.size _ 0 [] (by rfl) (by exact HO1.out) (some ⟨b, o, none⟩) i1 (i1 + 1) (((castL S).take i1).flatMap intE) (by rfl) (by exact HS1.out) Hone1.out i1 (Nat.zero_add _) (by unfold maxLen; omega) (by omega) (by simp) ?_; intro A5 c5 w5 ho5 hg5; have hb5 := app_below1 rfl (grownBy_of_drew hg5))
                    | (refine step_app2 rfl (.tmp 109) (.tmp 113) _ (by rfl) elemInt wj.heap.size _ i1 _ (by rfl) ho5 (some ⟨b, o, none⟩) 0 0 (((castL S).drop (i1 + 1)).flatMap intE) (by rfl) ((hsr.out.below hb5).2) Hone2.out i1 (Nat.add_zero _) (by unfold maxLen; omega) (by omega) hb5.size ?_; intro A6 c6 w6 ho6 hg6; have hb6 := below_own hb5 ho5 (Nat.le_refl _) hb5.size hg6))
                  all_goals
                    go_wp2_with fail
                    go_meet
                    exact ⟨A6, c6, rfl, SlE.of_own (by rw [← HXs.out, List.flatMap_append]; exact ho6) (by rw [castL_len, HXl.out]), hb6⟩
                · have hcap' : ¬ j + 1 = d1 := by omega
                  have hsr := Lib.hid (Hsrc.out (some ⟨b, o + (j + 1), none⟩) (fun _ => rfl))
                  go_region_held3 (fun _ => True) (trivial) (first
                    | (refine step_app2 rfl (.tmp 105) (.tmp 108) _ (by rfl) elemInt wj.heap.size _ 0 [] (by rfl) (by exact HO1.out) (some ⟨b, o, none⟩) j d1 (((castL S).take j).flatMap intE) (by rfl) (by exact HS1.out) Hone1.out j (Nat.zero_add _) (by unfold maxLen; omega) (by omega) (by simp) ?_; intro A5 c5 w5 ho5 hg5; have hb5 := app_below1 rfl (grownBy_of_drew hg5))
                    | (refine step_app2 rfl (.tmp 109) (.tmp 113) _ (by rfl) elemInt wj.heap.size _ j _ (by rfl) ho5 (some ⟨b, o + (j + 1), none⟩) (i1 - j) (d1 - (j + 1)) (((castL S).drop (j + 1)).flatMap intE) (by rfl) ((hsr.out.below hb5).2) Hone2.out i1 (by omega) (by unfold maxLen; omega) (by omega) hb5.size ?_; intro A6 c6 w6 ho6 hg6; have hb6 := below_own hb5 ho5 (Nat.le_refl _) hb5.size hg6))
                  all_goals
                    go_wp2_with fail
                    go_meet
                    exact ⟨A6, c6, rfl, SlE.of_own (by rw [← HXs.out, List.flatMap_append]; exact ho6) (by rw [castL_len, HXl.out]), hb6⟩
              case rest =>
                obtain ⟨A5, c5, hv9, hs5, hb5⟩ := hcut
                subst hv9
                have H10 := Lib.hid (H9.out.below hb5)
                have Hs5 := Lib.hid hs5
                have Hb5 := Lib.hid (Hb9.out.trans (hb5.mono Hb9.out.size))
                clear hs5 hb5
                go_wp2_with fail
                refine (refMost_T w A1 L c1 m i1 T1 A5 i1 c5 X _ H10.out Hok.out Hs5.out (by omega) HXn.out Hk.out).mono ?_
                rintro e w6 ⟨rfl, hb6, _⟩
                have hb7 := Hb5.out.trans (hb6.mono Hb5.out.size)
                have Hb7 := Lib.hid hb7
                clear hb6 hb7
                go_wp2_with fail
                go_roundg (gk - 1)
                case measure => omega
                case rel => exact ⟨j + 1, by omega, by go_num, Hb7.out⟩
            · have h9 := H8.out.below hb
              have Hf := Lib.hid (hR.out (.returned (.bool true)) wj ⟨rfl, h9.bel⟩)
              clear hb h9
              go_wp2
              exact Hf.out
  · have hb' : tabB T1 = false := by simpa using hb
    have Hb := Lib.hid hb'
    clear hb hb'
    go_wp2_with fail
    refine (hall_noT w A1 L c1 T1 _ h1 Hb.out).mono ?_
    rintro e w2 ⟨rfl, h2⟩
    go_wp2_with fail
    refine (refCheck_noT w A1 L c1 T1 _ h2 Hb.out).mono ?_
    rintro e w3 ⟨rfl, h3⟩
    go_wp2_with fail
    refine (lives_T w A1 L c1 T1 _ h3).mono ?_
    rintro e w6 ⟨rfl, h6⟩
    have Hf := Lib.hid (hR.out (.returned (.bool true)) w6 ⟨rfl, h6.bel⟩)
    clear h1 h2 h3 h6
    go_wp2
    exact Hf.out
end Go.Proofs.Ytjdhcdoekfikpaa
