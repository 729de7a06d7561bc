/-
  The law TopInstrument: whatever the steps, the base and the scaling: true.
-/
import Derived.Test.YtojbldoekalbnaaGreatDoorIG
namespace Go.Proofs.YtojbldoekalbnaaGreatDoor
section
open Go.RowKit
theorem box_set {W : World} {b i : Nat} {u : Array Value} {t : TypeId} (h : W.heap[b]? = some (.cells u t (0, 0))) (v : Value) : (W.setCell ⟨b, i, none⟩ v).heap[b]? = some (.cells (u.set! i v) t (0, 0)) := by simp [World.setCell, Array.getElem?_modify, h]
set_option maxRecDepth 16000 in
set_option maxHeartbeats 16000000 in
theorem instr_any (S : Option Addr) (ns sc : Nat) (steps : List Int) (base : Int) (A : Option Addr) (n c : Nat) (B : Option Addr) (m d : Nat) (G : Option Addr) (k e : Nat) (x : Sc) (w : World) (hS : SlE intE 1 w S ns steps) (hsn : ns ≤ 9223372036854775807) (h : ScM w A n c B m d G k e x) (hmd : m ≤ d) (hd : d ≤ 9223372036854775807) (hke : k ≤ e) (he : e ≤ 9223372036854775807)
    (hr : ∀ y ∈ x.co, InR y.T ∧ InR y.W) (ht : TabW w.heap.size w) :
    Calls Tryz.prog 3 #[.slice S ns sc, .int .i64 base, .agg (scA A n c B m d G k e x)] w fun e' w' => e' = .returned (.bool true) ∧ Below w.heap.size w w' := by
  refine calls_cps ?_
  intro R hR
  have HS := Lib.hid hS
  have H := Lib.hid h
  have Hr := Lib.hid hr
  have Ht := Lib.hid ht
  have HR := Lib.hid (fun W hb => hR.out (.returned (.bool true)) W ⟨rfl, hb⟩)
  have hsl := hS.1
  have HSL := Lib.hid hsl
  clear hS h hr ht hR hsl
  obtain ⟨co, me, ga, sf, ch⟩ := x
  unfold scA
  dsimp only at Hr ⊢
  obtain ⟨⟨bm0, bm1⟩, bl0, bl1⟩ := and_mask base
  obtain ⟨ba, hba⟩ : ∃ ba : Nat, bits .and .i64 base 262143 = (ba : Int) := ⟨(bits .and .i64 base 262143).toNat, by omega⟩
  obtain ⟨tl, htl⟩ : ∃ tl : Nat, bits .and .i64 base 255 = (tl : Int) := ⟨(bits .and .i64 base 255).toNat, by omega⟩
  rw [hba] at bm0 bm1
  rw [htl] at bl0 bl1
  have HTL := Lib.hid htl
  go_enter Tryz.func3, Tryz.ntmps3
  go_upto_region 1 with fail
  have Hb1 := Lib.hid (below_new w (.cells #[.slice A n c, .slice B m d, .slice G k e, .int .i64 sf, .int .i64 ch] 26))
  have Hx1 := Lib.hid (heap_alloc_new w (.cells #[.slice A n c, .slice B m d, .slice G k e, .int .i64 sf, .int .i64 ch] 26))
  obtain ⟨w1, hw1⟩ : ∃ w1, w.alloc (.cells #[.slice A n c, .slice B m d, .slice G k e, .int .i64 sf, .int .i64 ch] 26) = w1 := ⟨_, rfl⟩
  rw [hw1] at Hb1 Hx1 ⊢
  clear hw1
  obtain ⟨bx, hbx⟩ : ∃ bx, w.heap.size = bx := ⟨_, rfl⟩
  have Hbx := Lib.hid hbx
  rw [hbx] at Hx1 ⊢
  have hbl1 := (Array.getElem?_eq_some_iff.1 Hx1.out).1
  clear hbx
  go_upto_block 0 with fail
  have HO1 := Lib.hid (show (w1.alloc (.cells #[] 3)).ownsRow w1.heap.size 3 1 (.slice (some ⟨w1.heap.size, 0, none⟩) 0 0) 0 ((stL steps 0).flatMap intE) from own_at (heap_alloc_new w1 _) rfl (Nat.le_refl _) (by unfold maxLen; omega))
  have HW1 := Lib.hid (below_new w1 (.cells #[] 3))
  obtain ⟨w2, hw2⟩ : ∃ w2, w1.alloc (.cells #[] 3) = w2 := ⟨_, rfl⟩
  rw [hw2] at HO1 HW1 ⊢
  clear hw2
  go_cut [7, 8] from 32 to 49 (fun s7 s8 wx => ∃ (i : Nat) (oa : Option Addr) (oc : Nat), s7 = .slice oa i oc ∧ i ≤ ns ∧ i ≤ 8 ∧ Hid (wx.ownsRow w1.heap.size 3 1 (.slice oa i oc) i ((stL steps i).flatMap intE)) ∧ Hid (Below w1.heap.size w1 wx))
  case first =>
    go_wp2_with fail
    go_loopw [7, 8] (fun s7 s8 wx => ∃ (i : Nat) (oa : Option Addr) (oc : Nat), s8 = .int .i64 (i : Nat) ∧ s7 = .slice oa i oc ∧ i ≤ ns ∧ i ≤ 8 ∧ Hid (wx.ownsRow w1.heap.size 3 1 (.slice oa i oc) i ((stL steps i).flatMap intE)) ∧ Hid (Below w1.heap.size w1 wx)) (fun _ s8 _ => 8 - (intOf s8).toNat)
    case atStart => exact ⟨0, _, _, rfl, rfl, Nat.zero_le _, Nat.zero_le _, HO1, HW1⟩
    case round =>
      clear HO1 HW1
      obtain ⟨i, oa, oc, rfl, rfl, hi1, hi2, HO, HW⟩ := hrel
      by_cases hlt : i < ns
      · have i1 : (i : Int) < (ns : Int) := by omega
        by_cases hlt2 : i < 8
        · have i2 : (i : Int) < 8 := by omega
          obtain ⟨b, o, v, rfl, hbl, hv, q0⟩ := (HS.out.below (Hb1.out.trans (HW.out.mono Hb1.out.size))).at1 hlt
          have Hn := Lib.hid (stL_snoc hv)
          obtain ⟨tv, htv⟩ : ∃ tv, Int.tmod v 3 = tv := ⟨_, rfl⟩
          have htr := tmod3 v
          rw [htv] at Hn htr
          have hbase := HW.out.size
          clear hv
          go_wp2_with (at_builtin; refine wpList_app rfl (.tmp 42) (.tmp 48) _ rfl elemIntW w1.heap.size _ _ _ rfl (HO.out.kept (World.grownBy_alloc wr _ none) (by cases (Value.slice oa i oc).ownBlock <;> simp)) _ _ _ _ rfl (Sl.new _ _ _ 1 1 rfl) (by simp [Value.oneCell']) (by unfold maxLen; omega) (by omega) (by simp; omega) ?_; intro A1 c1 w7 ho7 hg7 _)
          have HW7 := Lib.hid (Kx.low HW.out (own_kxW HO.out hg7) (fun j h => h) hbase)
          have HO7 := Lib.hid (show w7.ownsRow w1.heap.size 3 1 (.slice A1 (i + 1) c1) (i + 1) ((stL steps (i + 1)).flatMap intE) from by rw [← Hn.out]; exact ho7)
          clear ho7 hg7
          exact ⟨⟨i + 1, A1, c1, by go_num, rfl, by omega, by omega, HO7, HW7⟩, by simp [intOf]; omega⟩
        · obtain rfl : i = 8 := by omega
          go_wp2_with fail
          go_meet
          exact ⟨8, oa, oc, rfl, hi1, hi2, HO, HW⟩
      · obtain rfl : i = ns := by omega
        have i1 : ¬ (i : Int) < (i : Int) := by omega
        go_wp2_with fail
        go_meet
        exact ⟨i, oa, oc, rfl, hi1, hi2, HO, HW⟩
  case rest =>
    clear HO1 HW1
    obtain ⟨i, oa, oc, e7, hi1, hi2, HO, HW⟩ := hcut
    subst e7
    obtain ⟨w3, rfl⟩ : ∃ w3 : World, w3 = wc := ⟨_, rfl⟩
    obtain ⟨nb, hnb⟩ : ∃ nb : Nat, (ba : Int) + 60000 = (nb : Int) := ⟨ba + 60000, by omega⟩
    have hnb2 : nb < 1152921504606846976 := by omega
    have hbase := HW.out.size
    go_upto_region 9 with (first | (at_builtin; refine wpList_app rfl (.tmp 55) (.tmp 56) _ rfl elemIntW w1.heap.size _ _ _ rfl (HO.out.kept (World.grownBy_alloc w3 _ none) (by cases (Value.slice oa i oc).ownBlock <;> simp)) _ _ _ _ rfl (Sl.new _ _ _ 1 1 rfl) (by simp [Value.oneCell']) (by unfold maxLen; omega) (by omega) (by simp; omega) ?_; intro A1 c1 w4 ho4 hg4 _; have HW4 := Lib.hid (Kx.low HW.out (own_kxW HO.out hg4) (fun j h => h) hbase); have Hcs := Lib.hid (scale_law (steps := steps) (nb := nb) (by rw [← HSL.out]; exact hi1) hi2 (by omega) hnb2 A1 c1 w4 ho4); clear ho4 hg4) | ((with_reducible refine Hcs.out.mono ?_); rintro e' w5 ⟨M, LA, lc, rfl, hl2, hb5⟩; have HM := Lib.hid hl2; have HW5 := Lib.hid (HW4.out.trans (hb5.mono HW4.out.size)); clear hl2 hb5) | ((with_reducible refine (tempers_any _).mono ?_); rintro e' w6 ⟨rfl, hb6⟩; have HM6 := Lib.hid (HM.out.below hb6); have HW6 := Lib.hid (HW5.out.trans (hb6.mono HW5.out.size)); clear hb6))
    have Hx6 := Lib.hid ((HW6.out.block _ hbl1).trans Hx1.out)
    have hbl6 := (Array.getElem?_eq_some_iff.1 Hx6.out).1
    have Hb6 := Lib.hid (show Below bx w w6 from by have h := Hb1.out.trans (HW6.out.mono Hb1.out.size); rwa [Hbx.out] at h)
    obtain ⟨u0, u1, u2, u3, u4, uf⟩ := cells5 Hx6.out
    clear HW5 HM HW4 HW HO Hcs hbase hnb hnb2 HS HSL Hb1
    go_upto_if 70 with fail
    go_cut [] from 71 to 74 (fun wx => ∃ k' : Nat, k' ≤ k ∧ k' ≤ 6 ∧ Hid (wx.heap[bx]? = some (.cells #[.slice A n c, .slice B m d, .slice G k' e, .int .i64 sf, .int .i64 ch] 26 (0, 0))) ∧ Hid (SlE u64E 1 wx LA (i + 1) M) ∧ Hid (Below bx w wx))
    case first =>
      by_cases h6 : 6 < k
      · have i6 : (6 : Int) < (k : Int) := by omega
        have i7 : (6 : Int) ≤ (e : Int) := by omega
        have i8 : 6 ≤ e := by omega
        have hk6 := kx_one w6 bx 2 (.slice G 6 e)
        have Hn := Lib.hid (show ((w6.setCell ⟨bx, 2, none⟩ (.slice G 6 e)).heap[bx]? = some (.cells #[.slice A n c, .slice B m d, .slice G 6 e, .int .i64 sf, .int .i64 ch] 26 (0, 0))) ∧ SlE u64E 1 (w6.setCell ⟨bx, 2, none⟩ (.slice G 6 e)) LA (i + 1) M ∧ Below bx w (w6.setCell ⟨bx, 2, none⟩ (.slice G 6 e)) from ⟨box_set Hx6.out _, frq_kx HM6.out Hx6.out hk6, Hb6.out.setCell (Nat.le_refl _) _⟩)
        clear hk6
        go_wp2_with fail
        go_meet
        exact ⟨6, by omega, by omega, Lib.hid Hn.out.1, Lib.hid Hn.out.2.1, Lib.hid Hn.out.2.2⟩
      · have i6 : ¬ (6 : Int) < (k : Int) := by omega
        go_wp2_with fail
        go_meet
        exact ⟨k, Nat.le_refl _, by omega, Hx6, HM6, Hb6⟩
    case rest =>
      clear u0 u1 u2 u3 u4 uf Hx6 HM6 Hb6 hbl6 HW6
      obtain ⟨k', hk1, hk2, Hx7, HM7, Hb7⟩ := hcut
      obtain ⟨w7, rfl⟩ : ∃ w7 : World, w7 = wc := ⟨_, rfl⟩
      have hbl7 := (Array.getElem?_eq_some_iff.1 Hx7.out).1
      obtain ⟨u0, u1, u2, u3, u4, uf⟩ := cells5 Hx7.out
      go_upto_if 78 with fail
      go_cut [] from 79 to 82 (fun wx => ∃ m' : Nat, m' ≤ m ∧ m' ≤ 3 ∧ Hid (wx.heap[bx]? = some (.cells #[.slice A n c, .slice B m' d, .slice G k' e, .int .i64 sf, .int .i64 ch] 26 (0, 0))) ∧ Hid (SlE u64E 1 wx LA (i + 1) M) ∧ Hid (Below bx w wx))
      case first =>
        by_cases h6 : 3 < m
        · have i6 : (3 : Int) < (m : Int) := by omega
          have i7 : (3 : Int) ≤ (d : Int) := by omega
          have i8 : 3 ≤ d := by omega
          have hk6 := kx_one w7 bx 1 (.slice B 3 d)
          have Hn := Lib.hid (show ((w7.setCell ⟨bx, 1, none⟩ (.slice B 3 d)).heap[bx]? = some (.cells #[.slice A n c, .slice B 3 d, .slice G k' e, .int .i64 sf, .int .i64 ch] 26 (0, 0))) ∧ SlE u64E 1 (w7.setCell ⟨bx, 1, none⟩ (.slice B 3 d)) LA (i + 1) M ∧ Below bx w (w7.setCell ⟨bx, 1, none⟩ (.slice B 3 d)) from ⟨box_set Hx7.out _, frq_kx HM7.out Hx7.out hk6, Hb7.out.setCell (Nat.le_refl _) _⟩)
          clear hk6
          go_wp2_with fail
          go_meet
          exact ⟨3, by omega, by omega, Lib.hid Hn.out.1, Lib.hid Hn.out.2.1, Lib.hid Hn.out.2.2⟩
        · have i6 : ¬ (3 : Int) < (m : Int) := by omega
          go_wp2_with fail
          go_meet
          exact ⟨m, Nat.le_refl _, by omega, Hx7, HM7, Hb7⟩
      case rest =>
        clear u0 u1 u2 u3 u4 uf Hx7 HM7 Hb7 hbl7
        obtain ⟨m', hm1, hm2, Hx8, HM8, Hb8⟩ := hcut
        obtain ⟨w8, rfl⟩ : ∃ w8 : World, w8 = wc := ⟨_, rfl⟩
        have hbl8 := (Array.getElem?_eq_some_iff.1 Hx8.out).1
        go_upto_block 2 with fail
        have HO8 := Lib.hid (show (w8.alloc (.cells #[] 34)).ownsRow w8.heap.size 34 4 (.slice (some ⟨w8.heap.size, 0, none⟩) 0 0) 0 ((reL M co 0).flatMap crsE) from own_at (heap_alloc_new w8 _) rfl (Nat.le_refl _) (by unfold maxLen; omega))
        have HW8 := Lib.hid (below_new w8 (.cells #[] 34))
        obtain ⟨w9, hw9⟩ : ∃ w9, w8.alloc (.cells #[] 34) = w9 := ⟨_, rfl⟩
        rw [hw9] at HO8 HW8 ⊢
        clear hw9
        go_cut [11, 12, 13] from 84 to 111 (fun s11 _ _ wx => ∃ (nc : Nat) (ca : Option Addr) (cc : Nat), s11 = .slice ca nc cc ∧ nc ≤ n ∧ nc ≤ i + 1 ∧ Hid (wx.ownsRow w8.heap.size 34 4 (.slice ca nc cc) nc ((reL M co nc).flatMap crsE)) ∧ Hid (Below w8.heap.size w8 wx))
        case first =>
          go_wp2_with fail
          go_loopw [11, 12, 13] (fun s11 s12 _ wx => ∃ (nc : Nat) (ca : Option Addr) (cc : Nat), s12 = .int .i64 (nc : Nat) ∧ s11 = .slice ca nc cc ∧ nc ≤ n ∧ nc ≤ i + 1 ∧ Hid (wx.ownsRow w8.heap.size 34 4 (.slice ca nc cc) nc ((reL M co nc).flatMap crsE)) ∧ Hid (Below w8.heap.size w8 wx)) (fun _ s12 _ _ => i + 1 - (intOf s12).toNat)
          case atStart => exact ⟨0, _, _, rfl, rfl, Nat.zero_le _, Nat.zero_le _, HO8, HW8⟩
          case round =>
            clear HO8 HW8
            obtain ⟨nc, ca, cc, rfl, rfl, hn1, hn2, HO, HW⟩ := hrel
            have hx9 := (HW.out.block _ hbl8).trans Hx8.out
            have hbl9 := (Array.getElem?_eq_some_iff.1 hx9).1
            obtain ⟨u0, u1, u2, u3, u4, -⟩ := cells5 hx9
            by_cases hlt : nc < i + 1
            · have i1 : (nc : Int) < ((i : Int) + 1) := by omega
              by_cases hlt2 : nc < n
              · have i2 : (nc : Int) < (n : Int) := by omega
                obtain ⟨b, o, y, rfl, hbl, hy, q0, q1, q2, q3⟩ := (H.out.below (show Below w.heap.size w wr from by have h := Hb8.out.trans (HW.out.mono (Nat.le_of_lt hbl8)); rwa [← Hbx.out] at h)).co.at4c hlt2
                obtain ⟨b2, o2, f, e2, hbl2, hf, r0⟩ := (HM8.out.below HW.out).atU hlt
                subst e2
                have hyre : crsE (reF M co nc) = [.int .i64 y.L, .int .i64 (IntKind.i64.wrap (f : Nat)), .int .i64 y.T, .int .i64 y.W] := by
                  unfold reF crsE
                  rw [List.getD_eq_getElem?_getD, List.getD_eq_getElem?_getD, hy, hf]
                  rfl
                have Hsn := Lib.hid (reL_snoc M co nc)
                rw [hyre] at Hsn
                obtain ⟨fi, hfi⟩ : ∃ fi : Int, IntKind.i64.wrap (f : Nat) = fi := ⟨_, rfl⟩
                rw [hfi] at Hsn
                have hbase := HW.out.size
                clear hy hf hyre
                go_upto_region 19 with fail
                have Hba := Lib.hid (below_new wr (.cells #[.int .i64 y.L, .int .i64 fi, .int .i64 y.T, .int .i64 y.W] 34))
                obtain ⟨v0, v1, v2, v3, -⟩ := cells4 (heap_alloc_new wr (.cells #[.int .i64 y.L, .int .i64 fi, .int .i64 y.T, .int .i64 y.W] 34))
                obtain ⟨wa, hwa⟩ : ∃ wa, wr.alloc (.cells #[.int .i64 y.L, .int .i64 fi, .int .i64 y.T, .int .i64 y.W] 34) = wa := ⟨_, rfl⟩
                have hlwa : wr.heap.size < wa.heap.size := by rw [← hwa]; simp
                rw [hwa] at Hba v0 v1 v2 v3 ⊢
                obtain ⟨nbx, hnbx⟩ : ∃ nbx, wr.heap.size = nbx := ⟨_, rfl⟩
                have HWa := Lib.hid (HW.out.trans (Hba.out.mono HW.out.size))
                have HOa := Lib.hid (ownsRow_below HO.out Hba.out)
                have hba2 := HWa.out.size
                rw [hnbx] at v0 v1 v2 v3 hlwa ⊢
                clear hwa hnbx u0 u1 u2 u3 u4 q0 q1 q2 q3 r0 HO HW Hba
                go_wp2_with (at_builtin; refine wpList_app rfl (.tmp 108) (.tmp 110) _ rfl elemCrs w8.heap.size _ _ _ rfl (HOa.out.kept (World.grownBy_alloc wa _ none) (by cases (Value.slice ca nc cc).ownBlock <;> simp)) _ _ _ _ rfl (Sl.new _ _ _ 4 1 rfl) (by simp [Value.oneCell']) (by unfold maxLen; omega) (by omega) (by simp; omega) ?_; intro A1 c1 w7' ho7 hg7 _)
                have HW7 := Lib.hid (Kx.low HWa.out (own_kxW HOa.out hg7) (fun j h => h) hba2)
                have HO7 := Lib.hid (show w7'.ownsRow w8.heap.size 34 4 (.slice A1 (nc + 1) c1) (nc + 1) ((reL M co (nc + 1)).flatMap crsE) from by rw [← Hsn.out]; exact ho7)
                clear ho7 hg7
                exact ⟨⟨nc + 1, A1, c1, by go_num, rfl, by omega, by omega, HO7, HW7⟩, by simp [intOf]; omega⟩
              · obtain rfl : nc = n := by omega
                have i2 : ¬ (nc : Int) < (nc : Int) := by omega
                go_wp2_with fail
                go_meet
                exact ⟨nc, ca, cc, rfl, hn1, hn2, HO, HW⟩
            · obtain rfl : nc = i + 1 := by omega
              have i1 : ¬ (i : Int) + 1 < (i : Int) + 1 := by omega
              go_wp2_with fail
              go_meet
              exact ⟨i + 1, ca, cc, rfl, hn1, hn2, HO, HW⟩
        case rest =>
          clear HO8 HW8
          obtain ⟨nc, ca, cc, e11, hn1, hn2, HO, HW⟩ := hcut
          subst e11
          obtain ⟨w10, rfl⟩ : ∃ w10 : World, w10 = wc := ⟨_, rfl⟩
          have Hx10 := Lib.hid ((HW.out.block _ hbl8).trans Hx8.out)
          have hbl10 := (Array.getElem?_eq_some_iff.1 Hx10.out).1
          obtain ⟨u0, u1, u2, u3, u4, uf⟩ := cells5 Hx10.out
          have Hx11 := Lib.hid (box_set (i := 0) Hx10.out (.slice ca nc cc))
          have hk11 := kx_one w10 bx 0 (.slice ca nc cc)
          have hbb : Below bx w (w10.setCell ⟨bx, 0, none⟩ (.slice ca nc cc)) := (Hb8.out.trans (HW.out.mono (Nat.le_of_lt hbl8))).setCell (Nat.le_refl _) _
          have Hb11 := Lib.hid hbb
          have hbb2 : Below w.heap.size w (w10.setCell ⟨bx, 0, none⟩ (.slice ca nc cc)) := by rw [Hbx.out]; exact hbb
          have HSC := Lib.hid (show ScM (w10.setCell ⟨bx, 0, none⟩ (.slice ca nc cc)) ca nc cc B m' d G k' e ⟨reL M co nc, me.take m', ga.take k', sf, ch⟩ from
            ⟨SlE.of_own (own_of_kxW HO.out hk11 (fun j hj e => by omega)) (reL_len M co nc).symm, (H.out.me.takeW hm1).below hbb2, (H.out.ga.takeW intE_len hk1).below hbb2, Nat.le_trans hn1 H.out.n, Nat.le_trans hm1 H.out.m, Nat.le_trans hk1 H.out.k⟩)
          have HRR := Lib.hid (reL_rng (M := M) Hr.out (show nc ≤ co.length from by have := H.out.co.1; dsimp only at this; omega))
          have HTA := Lib.hid (Ht.out.on hbb2)
          have HBW := Lib.hid hbb2
          clear hbb hbb2 hk11
          go_upto_region 21 with fail
          clear HO HW HM8 Hx10 hbl10 Hb8 Hx8 hbl8 Hx1 hbl1 H Hr Ht Hb11 uf u0 u1 u2 u3 u4
          obtain ⟨w11, hw11⟩ : ∃ w11, w10.setCell ⟨bx, 0, none⟩ (.slice ca nc cc) = w11 := ⟨_, rfl⟩
          obtain ⟨co', hco'⟩ : ∃ co', reL M co nc = co' := ⟨_, rfl⟩
          obtain ⟨me', hme'⟩ : ∃ me', me.take m' = me' := ⟨_, rfl⟩
          obtain ⟨ga', hga'⟩ : ∃ ga', ga.take k' = ga' := ⟨_, rfl⟩
          rw [hw11] at Hx11 HSC HTA HBW ⊢
          rw [hco'] at HSC HRR
          rw [hme', hga'] at HSC
          clear hw11 hco' hme' hga'
          have Hx11 := Lib.hid (show w11.heap[bx]? = some (.cells #[.slice ca nc cc, .slice B m' d, .slice G k' e, .int .i64 sf, .int .i64 ch] 26 (0, 0)) from Hx11.out)
          have Hbe := Lib.hid (wbest_any ca nc cc B m' d G k' e ⟨co', me', ga', sf, ch⟩ w11 HSC.out HRR.out)
          have Hpu := Lib.hid (fun P np pc L W (hb : Below w11.heap.size w11 W) h1 h2 h3 => wpull_any ca nc cc B m' d G k' e ⟨co', me', ga', sf, ch⟩ P np pc L W (HSC.out.below hb) h1 h2 h3 HRR.out)
          have Hck := Lib.hid (fun W (hb : Below w11.heap.size w11 W) => wcheck_any ca nc cc B m' d G k' e ⟨co', me', ga', sf, ch⟩ W (HSC.out.below hb))
          have Hne := Lib.hid (fun P pc tail L W (hb : Below w11.heap.size w11 W) h1 h2 h3 h4 h5 => wneeds_any ca nc cc B m' d G k' e ⟨co', me', ga', sf, ch⟩ P pc tail L W (HSC.out.below hb) h1 h2 HRR.out h3 h4 h5)
          have Hkp := Lib.hid (fun h : scB ⟨co', me', ga', sf, ch⟩ = true => (scB_ok (x := ⟨co', me', ga', sf, ch⟩) h HRR.out).k.1)
          have Hn9 := Lib.hid (fun h : scB ⟨co', me', ga', sf, ch⟩ = true => (scB_ok (x := ⟨co', me', ga', sf, ch⟩) h HRR.out).n.2)
          unfold scA at Hbe Hpu Hck Hne
          dsimp only at Hbe Hpu Hck Hne Hkp Hn9
          have hbl11 := (Array.getElem?_eq_some_iff.1 Hx11.out).1
          have hncl := HSC.out.co.1
          have hkcl := HSC.out.ga.1
          dsimp only at hncl hkcl
          have HNC := Lib.hid hncl
          have HKC := Lib.hid hkcl
          clear hncl hkcl
          obtain ⟨u0, u1, u2, u3, u4, -⟩ := cells5 Hx11.out
          go_upto_region 22 with ((with_reducible refine Hbe.out.mono ?_); rintro e' w12 ⟨hbo, hb12⟩; obtain ⟨P, np, pc, cost, f, L, rfl, hP, hLr, hnp, hfc⟩ := best_form hbo (fun h => by have := Hkp.out h; have := HKC.out; omega) Hn9.out; have HP := Lib.hid hP; have HLr := Lib.hid hLr; have Hfc := Lib.hid hfc; have HW12 := Lib.hid hb12; clear hbo hb12 hP hLr hfc)
          have Hx12 := Lib.hid ((HW12.out.block _ hbl11).trans Hx11.out)
          have hbl12 := (Array.getElem?_eq_some_iff.1 Hx12.out).1
          clear u0 u1 u2 u3 u4
          obtain ⟨u0, u1, u2, u3, u4, -⟩ := cells5 Hx12.out
          obtain ⟨pl, hpl1, hpl2⟩ := pull_form ⟨co', me', ga', sf, ch⟩ L np nc
          have Hpc := Lib.hid (Hpu.out P np pc L w12 HW12.out HP.out HLr.out hnp)
          rw [hpl1] at Hpc
          obtain ⟨pf, hpf⟩ : ∃ pf, fitC (scB ⟨co', me', ga', sf, ch⟩) np nc = pf := ⟨_, rfl⟩
          rw [hpf] at Hpc hpl2
          have Hpf := Lib.hid hpf
          have Hpl := Lib.hid hpl2
          clear hpl1 hpl2 hpf Hpu
          go_upto_region 23 with ((with_reducible refine Hpc.out.mono ?_); rintro e' w13 ⟨rfl, hb13⟩; have HW13 := Lib.hid (HW12.out.trans (hb13.mono HW12.out.size)); have HP13 := Lib.hid (HP.out.below hb13); have Hx13 := Lib.hid ((hb13.block _ hbl12).trans Hx12.out); clear hb13)
          have hbl13 := (Array.getElem?_eq_some_iff.1 Hx13.out).1
          clear u0 u1 u2 u3 u4 Hx12 hbl12 HW12 HP Hx11 hbl11 Hbe Hpc
          obtain ⟨u0, u1, u2, u3, u4, -⟩ := cells5 Hx13.out
          rcases Hfc.out with ⟨rfl, rfl, hB⟩ | ⟨rfl, rfl, hB⟩ | ⟨rfl, hnp2, hB, g, hL, hcost, hg⟩
          · have Hc := Lib.hid (Hck.out w13 HW13.out)
            rw [hB] at Hc
            clear hB
            go_wp2_with ((with_reducible refine Hc.out.mono ?_); rintro e' w14 ⟨rfl, hb14⟩; have HW14 := Lib.hid (HW13.out.trans (hb14.mono HW13.out.size)); clear hb14)
            exact HR.out _ (HBW.out.trans (HW14.out.mono HBW.out.size))
          · have Hc := Lib.hid (Hck.out w13 HW13.out)
            rw [hB] at Hc
            clear hB
            go_wp2_with ((with_reducible refine Hc.out.mono ?_); rintro e' w14 ⟨rfl, hb14⟩; have HW14 := Lib.hid (HW13.out.trans (hb14.mono HW13.out.size)); clear hb14)
            exact HR.out _ (HBW.out.trans (HW14.out.mono HBW.out.size))
          · have hnn : np = nc := hnp2.trans HNC.out.symm
            subst hnn
            have hpf0 : pf = 0 := by rw [← Hpf.out, hB]; unfold fitC; rw [if_pos rfl, if_pos rfl]
            subst hpf0
            have hlen : co'.length = np := HNC.out.symm
            rw [hlen] at hL hcost hg
            subst hL
            have Hplt := Lib.hid (show pl = sumL ((List.range np).map fun i => tgP ⟨co', me', ga', sf, ch⟩ i (g i / k', g i % k')) from by
              rw [Hpl.out rfl]
              congr 1
              refine List.map_congr_left fun i hi => ?_
              rw [gL_getD (List.mem_range.1 hi)])
            have Hcost := Lib.hid hcost
            have Hok := Lib.hid (scB_ok (x := ⟨co', me', ga', sf, ch⟩) hB HRR.out)
            have HMC := Lib.hid HSC.out.me.1
            have Hsf := Lib.hid (fun j (hj : j < np) => str_fact Hok.out HMC.out HKC.out HNC.out hj (hg j hj))
            have hnp1 := Hok.out.n
            dsimp only at hnp1
            rw [hlen] at hnp1
            have Hbp := Lib.hid (sumL_bd (f := fun i => tgP ⟨co', me', ga', sf, ch⟩ i (g i / k', g i % k')) (B := 4000000000000) np (fun i hi => by
              obtain ⟨p1, p2, mt, s, gg, y, t, hs, -, -⟩ := Hsf.out i hi
              rw [hs.e1, hs.e2, hs.tg]
              have := hs.lt
              omega))
            rw [← Hplt.out] at Hbp
            have Hbc := Lib.hid (sumL_bd (f := fun i => prN ⟨co', me', ga', sf, ch⟩ k' i (g i)) (B := 4000000000000000) np (fun i hi => by
              obtain ⟨p1, p2, mt, s, gg, y, t, hs, -, -⟩ := Hsf.out i hi
              exact hs.rng))
            rw [← Hcost.out] at Hbc
            have Hbl := Lib.hid (sumL_bd (f := fun i => (co'.getD i ⟨0, 0, 0, 0⟩).L + (tl : Int)) (B := 100255) np (fun i hi => by
              obtain ⟨p1, p2, mt, s, gg, y, t, hs, -, -⟩ := Hsf.out i hi
              have e : co'.getD i ⟨0, 0, 0, 0⟩ = y := by rw [List.getD_eq_getElem?_getD, hs.co]; rfl
              rw [e]
              have := hs.ok.L
              omega))
            have Hnc := Lib.hid (Hne.out P pc tl _ w13 HW13.out HP13.out HLr.out hB (by omega) ((HTA.out.on (HW13.out.mono HBW.out.size)).up (Nat.le_trans HBW.out.size HW13.out.size)))
            clear hlen hcost hg hnp2 hB Hne Hpl Hpf Hfc HLr Hck Hkp Hn9 HTA
            obtain ⟨bl0', bl1'⟩ : (0 : Int) ≤ (tl : Int) ∧ (tl : Int) ≤ 255 := ⟨by omega, by omega⟩
            go_upto_region 29 with ((with_reducible refine Hnc.out.mono ?_); rintro e' w14 ⟨Q, ln, qc, lots, rfl, hQ, hln, hlb, hls, hb14⟩; have HQ := Lib.hid hQ; have Hlb := Lib.hid hlb; have Hls := Lib.hid hls; have HW14 := Lib.hid (HW13.out.trans (hb14.mono HW13.out.size)); have HP14 := Lib.hid (HP13.out.below hb14); have Hx14 := Lib.hid ((hb14.block _ hbl13).trans Hx13.out); clear hQ hlb hls hb14)
            clear u0 u1 u2 u3 u4 Hx13 hbl13 HW13 HP13 Hnc
            go_wp2_with fail
            go_loopw [22, 23] (fun s22 s23 wr => ∃ (t : Nat) (s : Int), s23 = .int .i64 (t : Nat) ∧ t ≤ ln ∧ s22 = .int .i64 s ∧ 0 ≤ s ∧ s ≤ 100000000 * (t : Int) ∧ Hid (s = sumL ((lots.take t).map Prod.snd)) ∧ w14 = wr) (fun _ s23 _ => ln - (intOf s23).toNat)
            case atStart => exact ⟨0, 0, rfl, Nat.zero_le _, rfl, by omega, by omega, Lib.hid rfl, by trivial⟩
            case round =>
              obtain ⟨t, s, rfl, ht, rfl, hs0, hs1, Hs, rfl⟩ := hrel
              by_cases hlt : t < ln
              · have i1 : (t : Int) < (ln : Int) := by omega
                obtain ⟨b, o, l, rfl, hbl, hl, q0⟩ := HQ.out.at3q hlt
                have hlr := Hlb.out l (List.mem_of_getElem? hl)
                have Hn := Lib.hid (show s + l.2 = sumL ((lots.take (t + 1)).map Prod.snd) from by
                  rw [List.take_add_one, hl, List.map_append, Option.toList_some, List.map_singleton, sumL_snoc, ← Hs.out])
                obtain ⟨lq, hlq⟩ : ∃ lq, l.2 = lq := ⟨_, rfl⟩
                rw [hlq] at q0 hlr Hn
                clear hl hlq
                go_wp2_with fail
                exact ⟨⟨t + 1, s + lq, by go_num, by omega, rfl, by omega, by omega, Hn, by trivial⟩, by simp [intOf]; omega⟩
              · obtain rfl : t = ln := by omega
                have i1 : ¬ (t : Int) < (t : Int) := by omega
                have Hlen := Lib.hid (show s = sumL ((List.range np).map fun i => (co'.getD i ⟨0, 0, 0, 0⟩).L + (tl : Int)) from by
                  rw [← Hls.out, Hs.out, List.take_of_length_le (Nat.le_of_eq HQ.out.1.symm)])
                have Hbs := Lib.hid Hbl.out
                rw [← Hlen.out] at Hbs
                obtain ⟨bs0, bs1⟩ := Hbs.out
                obtain ⟨bp0, bp1⟩ := Hbp.out
                obtain ⟨bc0, bc1⟩ := Hbc.out
                clear Hs hs0 hs1 Hls Hlb Hbs Hbl
                go_wp2_with fail
                go_loopw [15, 17, 22, 24, 25, 26, 27, 28, 29, 30] (fun s15 s17 s22 s24 _ _ _ _ _ _ wr => ∃ (j : Nat) (a b l pa pb pl' : Int), s24 = .int .i64 (j : Nat) ∧ j ≤ np ∧ s17 = .int .i64 a ∧ s15 = .int .i64 b ∧ s22 = .int .i64 l ∧ a + pa = pl ∧ b + pb = cost ∧ l + pl' = s ∧ 0 ≤ pa ∧ pa ≤ 4000000000000 * (j : Int) ∧ 0 ≤ pb ∧ pb ≤ 4000000000000000 * (j : Int) ∧ 0 ≤ pl' ∧ pl' ≤ 100255 * (j : Int) ∧
                  Hid (pa = sumL ((List.range j).map fun i => tgP ⟨co', me', ga', sf, ch⟩ i (g i / k', g i % k'))) ∧ Hid (pb = sumL ((List.range j).map fun i => prN ⟨co', me', ga', sf, ch⟩ k' i (g i))) ∧ Hid (pl' = sumL ((List.range j).map fun i => (co'.getD i ⟨0, 0, 0, 0⟩).L + (tl : Int))) ∧ Hid (Below w14.heap.size w14 wr)) (fun _ _ _ s24 _ _ _ _ _ _ _ => np - (intOf s24).toNat)
                case atStart => exact ⟨0, pl, cost, s, 0, 0, 0, rfl, Nat.zero_le _, rfl, rfl, rfl, by omega, by omega, by omega, by omega, by omega, by omega, by omega, by omega, by omega, Lib.hid rfl, Lib.hid rfl, Lib.hid rfl, Lib.hid (Below.refl _ _)⟩
                case round =>
                  obtain ⟨j, a, b, l, pa, pb, pl', rfl, hj, rfl, rfl, rfl, ha, hb, hl, a0, a1, b0, b1, l0, l1, Ha, Hb, Hl, HW⟩ := hrel
                  have Hx15 := Lib.hid ((HW.out.block _ (Array.getElem?_eq_some_iff.1 Hx14.out).1).trans Hx14.out)
                  have hbl15 := (Array.getElem?_eq_some_iff.1 Hx15.out).1
                  by_cases hlj : j < np
                  · have i1 : (j : Int) < (np : Int) := by omega
                    obtain ⟨p1, p2, mt, ss, gg, y, tv, hs, hp1, hp2⟩ := Hsf.out j hlj
                    have Hsr := Lib.hid hs
                    have hbw : Below w11.heap.size w11 wr := HW14.out.trans (HW.out.mono HW14.out.size)
                    obtain ⟨pb', po, pl2, hpa, hpl2, hpg, c0, c1⟩ := (HP14.out.below HW.out).at2k hlj
                    have hpe := (gL_get (g := g) (k := k') hlj).symm.trans hpg
                    rw [hs.e1, hs.e2] at hpe
                    obtain rfl := Option.some.inj hpe
                    dsimp only at c0 c1
                    obtain ⟨cb, co2, y', hca, hcl, hy', q0, q1, q2, q3⟩ := (HSC.out.below hbw).co.at4c (k := j) hlj
                    obtain rfl := Option.some.inj (hy'.symm.trans hs.co)
                    obtain ⟨mb, mo, mt', Ai, ci, hba', hml, hmt, r0, r1, hss, hsl⟩ := (HSC.out.below hbw).me.at_ hp1
                    obtain rfl := Option.some.inj (hmt.symm.trans hs.pk.hme)
                    have hp2s : p2 < mt'.S.length := getE_lt hs.pk.hs
                    obtain ⟨sb, so, ss', hsa, hsbl, hss2, z0⟩ := hss.at1 hp2s
                    obtain rfl := Option.some.inj (hss2.symm.trans hs.pk.hs)
                    obtain ⟨gb, go', gg', hga2, hgbl, hgg, y0⟩ := (HSC.out.below hbw).ga.at1 hp2
                    obtain rfl := Option.some.inj (hgg.symm.trans hs.pk.hg)
                    obtain ⟨u0, u1, u2, u3, u4, -⟩ := cells5 Hx15.out
                    rw [hca] at u0
                    rw [hba'] at u1
                    rw [hga2] at u2
                    rw [hsa] at r1
                    have hpa' := hpa
                    obtain ⟨mD, hmD⟩ : ∃ mD, mt'.D = mD := ⟨_, rfl⟩
                    obtain ⟨sl, hsl2⟩ : ∃ sl, mt'.S.length = sl := ⟨_, rfl⟩
                    obtain ⟨yL, hyL⟩ : ∃ v, y'.L = v := ⟨_, rfl⟩
                    obtain ⟨yF, hyF⟩ : ∃ v, y'.F = v := ⟨_, rfl⟩
                    obtain ⟨yT, hyT⟩ : ∃ v, y'.T = v := ⟨_, rfl⟩
                    obtain ⟨yW, hyW⟩ : ∃ v, y'.W = v := ⟨_, rfl⟩
                    have hTn := tension_any mt'.D gg' y'.L y'.F
                    obtain ⟨most, hmo1, hmo2, hLn⟩ := longest_det mt'.D ss' y'.L y'.F sf hs.pk.D hs.pk.sr hs.ok.L hs.ok.F Hok.out.sf hs.hh
                    have HTn := Lib.hid (fun W => hTn W hs.pk.D hs.pk.gr hs.ok.L hs.ok.F)
                    rw [hs.et] at HTn
                    have HLn := Lib.hid hLn
                    have hLr := hs.ok.L
                    have hTr := hs.ok.T
                    have hWr := hs.ok.W
                    have htv := hs.lt
                    have Hna := Lib.hid (show pa + (tv : Int) = sumL ((List.range (j + 1)).map fun i => tgP ⟨co', me', ga', sf, ch⟩ i (g i / k', g i % k')) from by rw [sumL_range_succ, ← Ha.out, hs.e1, hs.e2, hs.tg])
                    have Hnb := Lib.hid (show pb + yW * max ((tv : Int) - yT) (yT - (tv : Int)) = sumL ((List.range (j + 1)).map fun i => prN ⟨co', me', ga', sf, ch⟩ k' i (g i)) from by rw [sumL_range_succ, ← Hb.out, hs.pr, hyT, hyW])
                    have Hnl := Lib.hid (show pl' + (yL + (tl : Int)) = sumL ((List.range (j + 1)).map fun i => (co'.getD i ⟨0, 0, 0, 0⟩).L + (tl : Int)) from by
                      have e : co'.getD j ⟨0, 0, 0, 0⟩ = y' := by rw [List.getD_eq_getElem?_getD, hy']; rfl
                      rw [sumL_range_succ, ← Hl.out, e, hyL])
                    have Hpr := Lib.hid hs.rng
                    rw [hs.pr, hyT, hyW] at Hpr
                    rw [hmD, hyL, hyF] at HTn
                    rw [hmD, hyF] at HLn
                    rw [hmD] at r0
                    rw [hsl2] at r1 hp2s
                    rw [hyL] at q0 hmo1 hLr
                    rw [hyF] at q1
                    rw [hyT] at q2 hTr
                    rw [hyW] at q3 hWr
                    clear hs hTn hLn hmD hsl2 hyL hyF hyT hyW hsl hss hss2 hgg hmt hy' hpg hbw hpa'
                    have Hca := Lib.hid hca
                    have Hba2 := Lib.hid hba'
                    have Hga2 := Lib.hid hga2
                    have Hpa := Lib.hid hpa
                    subst hpa
                    clear hca hba' hga2 hsa
                    go_upto_region 40 with fail
                    obtain ⟨wa, hwa⟩ : ∃ wa, wr.alloc (.cells #[.int .i64 yL, .int .i64 yF, .int .i64 yT, .int .i64 yW] 34) = wa := ⟨_, rfl⟩
                    have hba3 : Below wr.heap.size wr wa := by rw [← hwa]; exact below_new wr _
                    have hxa : wa.heap[wr.heap.size]? = some (.cells #[.int .i64 yL, .int .i64 yF, .int .i64 yT, .int .i64 yW] 34 (0, 0)) := by rw [← hwa]; exact heap_alloc_new wr _
                    have hbl0 : bx < wa.heap.size := Nat.lt_of_lt_of_le hbl15 hba3.size
                    have hbl1 : wr.heap.size < wa.heap.size := (Array.getElem?_eq_some_iff.1 hxa).1
                    have hbl2 : pb' < wa.heap.size := Nat.lt_of_lt_of_le hpl2 hba3.size
                    have hbl3 : mb < wa.heap.size := Nat.lt_of_lt_of_le hml hba3.size
                    have hbl4 : sb < wa.heap.size := Nat.lt_of_lt_of_le hsbl hba3.size
                    have hbl5 : gb < wa.heap.size := Nat.lt_of_lt_of_le hgbl hba3.size
                    obtain ⟨v0, v1, v2, v3, -⟩ := cells4 hxa
                    rw [hwa]
                    obtain ⟨nbx, hnbx⟩ : ∃ nbx, wr.heap.size = nbx := ⟨_, rfl⟩
                    have HWa := Lib.hid (HW.out.trans (hba3.mono HW.out.size))
                    rw [hnbx] at v0 v1 v2 v3 hbl1 ⊢
                    have HF := Lib.hid (fun W (hb : Below wa.heap.size wa W) => (⟨(hb.cell hbl0).trans ((hba3.cell hbl15).trans u0), (hb.cell hbl0).trans ((hba3.cell hbl15).trans u1), (hb.cell hbl0).trans ((hba3.cell hbl15).trans u2), (hb.cell hbl0).trans ((hba3.cell hbl15).trans u3),
                      (hb.cell hbl1).trans v0, (hb.cell hbl1).trans v1, (hb.cell hbl1).trans v2, (hb.cell hbl1).trans v3, (hb.cell hbl2).trans ((hba3.cell hpl2).trans c0), (hb.cell hbl2).trans ((hba3.cell hpl2).trans c1), (hb.cell hbl3).trans ((hba3.cell hml).trans r0), (hb.cell hbl3).trans ((hba3.cell hml).trans r1), (hb.cell hbl4).trans ((hba3.cell hsbl).trans z0), (hb.cell hbl5).trans ((hba3.cell hgbl).trans y0),
                      Nat.lt_of_lt_of_le hbl0 hb.size, Nat.lt_of_lt_of_le hbl1 hb.size, Nat.lt_of_lt_of_le hbl2 hb.size, Nat.lt_of_lt_of_le hbl3 hb.size, Nat.lt_of_lt_of_le hbl4 hb.size, Nat.lt_of_lt_of_le hbl5 hb.size⟩ : W.cell? ⟨bx, 0, none⟩ = some (.slice (some ⟨cb, co2, none⟩) np cc) ∧ W.cell? ⟨bx, 1, none⟩ = some (.slice (some ⟨mb, mo, none⟩) m' d) ∧ W.cell? ⟨bx, 2, none⟩ = some (.slice (some ⟨gb, go', none⟩) k' e) ∧ W.cell? ⟨bx, 3, none⟩ = some (.int .i64 sf) ∧ W.cell? ⟨nbx, 0, none⟩ = some (.int .i64 yL) ∧ W.cell? ⟨nbx, 1, none⟩ = some (.int .i64 yF) ∧ W.cell? ⟨nbx, 2, none⟩ = some (.int .i64 yT) ∧ W.cell? ⟨nbx, 3, none⟩ = some (.int .i64 yW) ∧ W.cell? ⟨pb', po + j * 2, none⟩ = some (.int .i64 (p1 : Nat)) ∧ W.cell? ⟨pb', po + j * 2 + 1, none⟩ = some (.int .i64 (p2 : Nat)) ∧ W.cell? ⟨mb, mo + p1 * 2, none⟩ = some (.int .i64 mD) ∧ W.cell? ⟨mb, mo + p1 * 2 + 1, none⟩ = some (.slice (some ⟨sb, so, none⟩) sl ci) ∧ W.cell? ⟨sb, so + p2, none⟩ = some (.int .i64 ss') ∧ W.cell? ⟨gb, go' + p2, none⟩ = some (.int .i64 gg') ∧ bx < W.heap.size ∧ nbx < W.heap.size ∧ pb' < W.heap.size ∧ mb < W.heap.size ∧ sb < W.heap.size ∧ gb < W.heap.size))
                    clear hwa hnbx hba3 hxa u0 u1 u2 u3 u4 v0 v1 v2 v3 c0 c1 r0 r1 z0 y0 q0 q1 q2 q3 hbl0 hbl1 hbl2 hbl3 hbl4 hbl5 hpl2 hml hsbl hgbl hcl HW Hx15 hbl15
                    have e1 : decide ((p1 : Int) < 0) = false := decide_eq_false (by omega)
                    have e2 : decide ((m' : Int) ≤ (p1 : Int)) = false := decide_eq_false (by omega)
                    have e3 : decide ((p2 : Int) < 0) = false := decide_eq_false (by omega)
                    have e4 : decide ((k' : Int) ≤ (p2 : Int)) = false := decide_eq_false (by omega)
                    have e5 : decide ((sl : Int) ≤ (p2 : Int)) = false := decide_eq_false (by omega)
                    have e6 : decide (m' ≤ p1) = false := decide_eq_false (by omega)
                    have e7 : decide (k' ≤ p2) = false := decide_eq_false (by omega)
                    have e8 : decide (sl ≤ p2) = false := decide_eq_false (by omega)
                    have i2 : (p1 : Int) < (m' : Int) := by omega
                    have i3 : (p2 : Int) < (k' : Int) := by omega
                    have i4 : (p2 : Int) < (sl : Int) := by omega
                    obtain ⟨ι, mk, hmk⟩ := cls_exW wa.heap.size wa
                    have hd' := hmk.drew
                    have hnei := hmk.ne
                    have FX := fun x => HF.out (mk x) (hmk.below x)
                    have u0 := fun x => (FX x).1
                    have u1 := fun x => (FX x).2.1
                    have u2 := fun x => (FX x).2.2.1
                    have u3 := fun x => (FX x).2.2.2.1
                    have v0 := fun x => (FX x).2.2.2.2.1
                    have v1 := fun x => (FX x).2.2.2.2.2.1
                    have v2 := fun x => (FX x).2.2.2.2.2.2.1
                    have v3 := fun x => (FX x).2.2.2.2.2.2.2.1
                    have c0 := fun x => (FX x).2.2.2.2.2.2.2.2.1
                    have c1 := fun x => (FX x).2.2.2.2.2.2.2.2.2.1
                    have r0 := fun x => (FX x).2.2.2.2.2.2.2.2.2.2.1
                    have r1 := fun x => (FX x).2.2.2.2.2.2.2.2.2.2.2.1
                    have z0 := fun x => (FX x).2.2.2.2.2.2.2.2.2.2.2.2.1
                    have y0 := fun x => (FX x).2.2.2.2.2.2.2.2.2.2.2.2.2.1
                    have Hbl' := Lib.hid (fun x => hmk.below x)
                    clear hmk FX
                    refine wp_region_clsW (C := fun w' => ∃ x, w' = mk x) (by kernel_rfl) (by kernel_rfl) hd' ?_
                    iterate 55 (go_big_quiet_step (fail))
                    refine wpQuiet_nil ?_
                    intro _ hw'
                    obtain ⟨x, rfl⟩ := hw'
                    have Hwb := Lib.hid (Hbl'.out x)
                    obtain ⟨wb, hwb⟩ : ∃ wb, mk x = wb := ⟨_, rfl⟩
                    rw [hwb] at Hwb ⊢
                    clear hwb u0 u1 u2 u3 v0 v1 v2 v3 c0 c1 r0 r1 z0 y0 Hbl' hd'
                    go_upto_region 42 with fail
                    obtain ⟨u0, u1, u2, u3, v0, v1, v2, v3, c0, c1, r0, r1, z0, y0, l0_, l1_, l2_, l3_, l4_, l5_⟩ := HF.out wb Hwb.out
                    go_region
                    obtain ⟨wc', hwc⟩ : ∃ wc', (wb.alloc (.cells #[.int .i64 mD, .slice (some ⟨sb, so, none⟩) sl ci] 49)).drew = wc' := ⟨_, rfl⟩
                    have hbc : Below wb.heap.size wb wc' := by rw [← hwc]; exact (below_new wb _).drew
                    have hxc : wc'.heap[wb.heap.size]? = some (.cells #[.int .i64 mD, .slice (some ⟨sb, so, none⟩) sl ci] 49 (0, 0)) := by rw [← hwc]; exact heap_alloc_new wb _
                    rw [hwc]
                    obtain ⟨mbx, hmbx⟩ : ∃ mbx, wb.heap.size = mbx := ⟨_, rfl⟩
                    have Hwc := Lib.hid (Hwb.out.trans (hbc.mono Hwb.out.size))
                    rw [hmbx] at hxc ⊢
                    obtain ⟨m0, m1, -⟩ := cells2 hxc
                    have hlm := (Array.getElem?_eq_some_iff.1 hxc).1
                    have HF2 := Lib.hid (fun W (hb : Below wc'.heap.size wc' W) => And.intro (HF.out W (Hwc.out.trans (hb.mono Hwc.out.size))) (And.intro ((hb.cell hlm).trans m0) ((hb.cell hlm).trans m1)))
                    clear hwc hbc hxc hmbx m0 m1 hlm Hwb u0 u1 u2 u3 v0 v1 v2 v3 c0 c1 r0 r1 z0 y0 l0_ l1_ l2_ l3_ l4_ l5_ e1 e2 e3 e4 e5 e6 e7 e8 HF
                    go_upto_region 43 with fail
                    obtain ⟨ι, mk, hmk⟩ := cls_exW wc'.heap.size wc'
                    have hd' := hmk.drew
                    have hnei := hmk.ne
                    have FX := fun x => HF2.out (mk x) (hmk.below x)
                    have u0 := fun x => (FX x).1.1
                    have u1 := fun x => (FX x).1.2.1
                    have u2 := fun x => (FX x).1.2.2.1
                    have u3 := fun x => (FX x).1.2.2.2.1
                    have v0 := fun x => (FX x).1.2.2.2.2.1
                    have v1 := fun x => (FX x).1.2.2.2.2.2.1
                    have v2 := fun x => (FX x).1.2.2.2.2.2.2.1
                    have v3 := fun x => (FX x).1.2.2.2.2.2.2.2.1
                    have c0 := fun x => (FX x).1.2.2.2.2.2.2.2.2.1
                    have c1 := fun x => (FX x).1.2.2.2.2.2.2.2.2.2.1
                    have r0 := fun x => (FX x).1.2.2.2.2.2.2.2.2.2.2.1
                    have r1 := fun x => (FX x).1.2.2.2.2.2.2.2.2.2.2.2.1
                    have z0 := fun x => (FX x).1.2.2.2.2.2.2.2.2.2.2.2.2.1
                    have y0 := fun x => (FX x).1.2.2.2.2.2.2.2.2.2.2.2.2.2.1
                    have m0 := fun x => (FX x).2.1
                    have m1 := fun x => (FX x).2.2
                    have HC := Lib.hid (fun x => hmk.call (HTn.out (mk x)))
                    have Hbl' := Lib.hid (fun x => hmk.below x)
                    clear hmk FX
                    refine wp_region_clsW (C := fun w' => ∃ x, w' = mk x) (by kernel_rfl) (by kernel_rfl) hd' ?_
                    repeat (go_big_quiet_step (with_reducible exact HC.out _))
                    refine wpQuiet_nil ?_
                    intro _ hw'
                    obtain ⟨x, rfl⟩ := hw'
                    have Hwd := Lib.hid (Hbl'.out x)
                    obtain ⟨wd, hwd⟩ : ∃ wd, mk x = wd := ⟨_, rfl⟩
                    rw [hwd] at Hwd ⊢
                    clear hwd u0 u1 u2 u3 v0 v1 v2 v3 c0 c1 r0 r1 z0 y0 m0 m1 Hbl' hd' HC
                    go_upto_region 44 with fail
                    obtain ⟨ι, mk, hmk⟩ := cls_exW wd.heap.size wd
                    have hd' := hmk.drew
                    have hnei := hmk.ne
                    have FX := fun x => HF2.out (mk x) (Hwd.out.trans ((hmk.below x).mono Hwd.out.size))
                    have u0 := fun x => (FX x).1.1
                    have u1 := fun x => (FX x).1.2.1
                    have u2 := fun x => (FX x).1.2.2.1
                    have u3 := fun x => (FX x).1.2.2.2.1
                    have v0 := fun x => (FX x).1.2.2.2.2.1
                    have v1 := fun x => (FX x).1.2.2.2.2.2.1
                    have v2 := fun x => (FX x).1.2.2.2.2.2.2.1
                    have v3 := fun x => (FX x).1.2.2.2.2.2.2.2.1
                    have c0 := fun x => (FX x).1.2.2.2.2.2.2.2.2.1
                    have c1 := fun x => (FX x).1.2.2.2.2.2.2.2.2.2.1
                    have r0 := fun x => (FX x).1.2.2.2.2.2.2.2.2.2.2.1
                    have r1 := fun x => (FX x).1.2.2.2.2.2.2.2.2.2.2.2.1
                    have z0 := fun x => (FX x).1.2.2.2.2.2.2.2.2.2.2.2.2.1
                    have y0 := fun x => (FX x).1.2.2.2.2.2.2.2.2.2.2.2.2.2.1
                    have m0 := fun x => (FX x).2.1
                    have m1 := fun x => (FX x).2.2
                    have HC := Lib.hid (fun x => hmk.call (HLn.out (mk x)))
                    have Hbl' := Lib.hid (fun x => hmk.below x)
                    clear hmk FX
                    refine wp_region_clsW (C := fun w' => ∃ x, w' = mk x) (by kernel_rfl) (by kernel_rfl) hd' ?_
                    repeat (go_big_quiet_step (with_reducible exact HC.out _))
                    refine wpQuiet_nil ?_
                    intro _ hw'
                    obtain ⟨x, rfl⟩ := hw'
                    have Hwe := Lib.hid (Hwd.out.trans ((Hbl'.out x).mono Hwd.out.size))
                    obtain ⟨we, hwe⟩ : ∃ we, mk x = we := ⟨_, rfl⟩
                    rw [hwe] at Hwe ⊢
                    clear hwe u0 u1 u2 u3 v0 v1 v2 v3 c0 c1 r0 r1 z0 y0 m0 m1 Hbl' hd' HC
                    obtain ⟨⟨u0, u1, u2, u3, v0, v1, v2, v3, c0, c1, r0, r1, z0, y0, l0_, l1_, l2_, l3_, l4_, l5_⟩, -, -⟩ := HF2.out we Hwe.out
                    have e1 : decide (most < yL) = false := decide_eq_false (by omega)
                    have e2 : ¬ most < yL := by omega
                    obtain ⟨hpr1, hpr2⟩ := Hpr.out
                    have HWe := Lib.hid (HWa.out.trans ((Hwc.out.trans (Hwe.out.mono Hwc.out.size)).mono HWa.out.size))
                    go_upto_region 47 with fail
                    go_wp2_with fail
                    exact ⟨⟨j + 1, a - tv, b - yW * max ((tv : Int) - yT) (yT - (tv : Int)), l - (yL + tl), pa + tv, pb + yW * max ((tv : Int) - yT) (yT - (tv : Int)), pl' + (yL + tl), by go_num, by omega, rfl, rfl, rfl, by omega, by omega, by omega, by omega, by omega, by omega, by omega, by omega, by omega, Hna, Hnb, Hnl, HWe⟩, by simp [intOf]; omega⟩
                  · obtain rfl : j = np := by omega
                    have i1 : ¬ (j : Int) < (j : Int) := by omega
                    have e1 : a = 0 := by have h1 := Ha.out; have h2 := Hplt.out; omega
                    have e2 : b = 0 := by have h1 := Hb.out; have h2 := Hcost.out; omega
                    have e3 : l = 0 := by have h1 := Hl.out; have h2 := Hlen.out; omega
                    subst e1 e2 e3
                    clear ha hb hl a0 a1 b0 b1 l0 l1 bs0 bs1 bp0 bp1 bc0 bc1
                    go_wp2_with fail
                    exact HR.out _ (HBW.out.trans ((HW14.out.trans (HW.out.mono HW14.out.size)).mono HBW.out.size))
end
end Go.Proofs.YtojbldoekalbnaaGreatDoor
