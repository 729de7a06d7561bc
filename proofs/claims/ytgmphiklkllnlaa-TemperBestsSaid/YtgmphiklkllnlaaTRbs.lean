/-
  Contract of the document's Best at a valid ring: all steps are tried; the conditions are those of a ring whose weights read.
-/
import Derived.Test.YtgmphiklkllnlaaTRef
import Derived.Test.YtgmphiklkllnlaaTBet
import Derived.Test.YtgmphiklkllnlaaTBcb
import Derived.Test.YtgmphiklkllnlaaTAcc
import Derived.Test.YtgmphiklkllnlaaTLk
import Derived.Deep.DeepCutAuto
namespace Go.Proofs.Ytgmphiklkllnlaa
open Go.RowKit
/-- What the trying has come to: the steps at hand, and the best of those tried. -/
structure Tri (r : Rg) (W : World) (base g c : Nat) (ps : List Int → List Int → Prop) (l b : List Int) (a7 : Option Addr) (n7 : Nat) (v : Int) : Prop where
  vl : VL r.low r.high r.N l
  acc : r.Acc (ps l) b v
  row : W.ownsRow base 3 1 (.slice (some ⟨g, 0, none⟩) r.N c) r.N (l.flatMap intE)
  sl : SlE intE 1 W a7 n7 b
  ne : ∀ a, a7 = some a → a.block ≠ g
theorem getD_mem' {l : List Int} {i : Nat} (h : i < l.length) : l.getD i 0 ∈ l := by
  rw [List.getD_eq_getElem?_getD, List.getElem?_eq_getElem h]
  exact List.getElem_mem h
theorem rk_low (lo : Int) : ∀ n, rk lo (List.replicate n lo) = 0
  | 0 => rfl
  | n + 1 => by rw [List.replicate_succ, rk, rk_low lo n]; simp
/-- The steps while they are turned on. -/
structure Hlf (r : Rg) (W : World) (base g c : Nat) (l b : List Int) (a7 : Option Addr) (n7 k : Nat) : Prop where
  hi : ∀ x ∈ l.drop k, x = r.high
  row : W.ownsRow base 3 1 (.slice (some ⟨g, 0, none⟩) r.N c) r.N ((half r.low r.N l k).flatMap intE)
  sl : SlE intE 1 W a7 n7 b
theorem Hlf.drewN {r : Rg} {W : World} {base g c : Nat} {l b : List Int} {a7 : Option Addr} {n7 k : Nat} (h : Hlf r W base g c l b a7 n7 k) (q : Nat) : Hlf r (W.drewN q) base g c l b a7 n7 k := ⟨h.hi, h.row, h.sl⟩
theorem own_below {W W' : World} {base e sz n : Nat} {v : Value} {xs : List Value} (h : W.ownsRow base e sz v n xs) (hb : Below W.heap.size W W') : W'.ownsRow base e sz v n xs :=
  own_of_kx h (S := fun _ => False) ((Kx.refl _ W).below hb) (fun _ _ h => h)
theorem Tri.below {r : Rg} {W W' : World} {base g c : Nat} {ps : List Int → List Int → Prop} {l b : List Int} {a7 : Option Addr} {n7 : Nat} {v : Int} (h : Tri r W base g c ps l b a7 n7 v) (hb : Below W.heap.size W W') : Tri r W' base g c ps l b a7 n7 v :=
  ⟨h.vl, h.acc, own_below h.row hb, h.sl.below hb, h.ne⟩
set_option maxRecDepth 8000 in
set_option maxHeartbeats 8000000 in
theorem refBest_any (r : Rg) (hr : r.Ok) (A B : Option Addr) (n c m d : Nat) (w : World) (hF : SlE intE 1 w A n r.fi) (hT : SlE intE 1 w B m r.th) :
    Calls Try.prog 21 #[.agg #[.int .i64 r.N, .int .i64 r.S, .int .i64 r.low, .int .i64 r.high, .int .i64 r.total, .int .i64 r.pure, .int .i64 r.worst, .slice A n c, .slice B m d]] w fun en w' => ((en = .returned (.tuple #[.slice none 0 0, .int .i64 0, .int .i64 6]) ∧ ∀ st, ¬ r.Good st) ∨
      ∃ (st : List Int) (cs : Int) (A' : Option Addr) (c' : Nat), en = .returned (.tuple #[.slice A' r.N c', .int .i64 cs, .int .i64 0]) ∧ r.Best st cs ∧ SlE intE 1 w' A' r.N st) ∧ Below w.heap.size w w' := by
  refine calls_cps ?_
  intro R hR
  have Hok := Lib.hid hr
  have Hbox := Lib.hid (heap_alloc_new w (.cells #[.int .i64 r.N, .int .i64 r.S, .int .i64 r.low, .int .i64 r.high, .int .i64 r.total, .int .i64 r.pure, .int .i64 r.worst, .slice A n c, .slice B m d] 24))
  have HF := Lib.hid (hF.alloc (.cells #[.int .i64 r.N, .int .i64 r.S, .int .i64 r.low, .int .i64 r.high, .int .i64 r.total, .int .i64 r.pure, .int .i64 r.worst, .slice A n c, .slice B m d] 24))
  have HT := Lib.hid (hT.alloc (.cells #[.int .i64 r.N, .int .i64 r.S, .int .i64 r.low, .int .i64 r.high, .int .i64 r.total, .int .i64 r.pure, .int .i64 r.worst, .slice A n c, .slice B m d] 24))
  have hN := hr.n2
  have hN1 := hr.n1
  have h1 := hr.l1
  have h2 := hr.l2
  have h3 := hr.h1
  have h4 := hr.h2
  clear hr hF hT
  go_enter Try.func21, Try.ntmps21
  go_wp2_with fail
  go_loopw [5, 6] (fun s5 s6 wr => ∃ (k : Nat) (A' : Option Addr) (c' : Nat), k ≤ r.N ∧ s6 = .int .i64 k ∧ s5 = .slice A' k c' ∧ wr.ownsRow (w.heap.size + 1) 3 1 (.slice A' k c') k ((List.replicate k r.low).flatMap intE) ∧ Below (w.alloc (.cells #[.int .i64 r.N, .int .i64 r.S, .int .i64 r.low, .int .i64 r.high, .int .i64 r.total, .int .i64 r.pure, .int .i64 r.worst, .slice A n c, .slice B m d] 24)).heap.size (w.alloc (.cells #[.int .i64 r.N, .int .i64 r.S, .int .i64 r.low, .int .i64 r.high, .int .i64 r.total, .int .i64 r.pure, .int .i64 r.worst, .slice A n c, .slice B m d] 24)) wr) (fun _ i _ => r.N - (intOf i).toNat)
  case atStart => exact ⟨0, _, _, Nat.zero_le _, rfl, rfl, own_newAt (w.alloc (.cells #[.int .i64 r.N, .int .i64 r.S, .int .i64 r.low, .int .i64 r.high, .int .i64 r.total, .int .i64 r.pure, .int .i64 r.worst, .slice A n c, .slice B m d] 24)) #[] 3 1 0 (w.heap.size + 1) rfl (by rw [World.size_alloc]; exact Nat.le_refl _) (by unfold maxLen; omega) (World.size_alloc ..).symm, below_new _ _⟩
  case round =>
    obtain ⟨k, A', c', hk, rfl, rfl, ho, hb⟩ := hrel
    obtain ⟨wo, rfl⟩ : ∃ wo : World, wo = wr := ⟨_, rfl⟩
    have hbox := below_cells hb (by simp) Hbox.out
    have hz : w.heap.size + 1 ≤ wo.heap.size := (Array.getElem?_eq_some_iff.1 hbox).1
    obtain ⟨c0, c1, c2, c3, c4, c5, c6, c7, c8, cf⟩ := ring9 hbox
    have HO := Lib.hid ho
    have HB := Lib.hid hb
    clear ho hb hbox
    by_cases hlt : k < r.N
    · have i1 : (k : Int) < (r.N : Int) := by omega
      go_wp2_with (at_builtin; refine wpList_app rfl (.tmp 18) (.tmp 21) _ rfl elemInt (w.heap.size + 1) _ _ _ rfl (HO.out.kept (World.grownBy_alloc wo _ none) (by cases (Value.slice A' k c').ownBlock <;> simp)) _ _ _ _ rfl (Sl.new _ _ _ 1 1 rfl) (by simp [Value.oneCell']) (by unfold maxLen; omega) (by omega) (by simp <;> omega) ?_; intro A4 c4' w4 ho4 hg4 _; have HB4 := Lib.hid (below_own (HB.out.alloc HB.out.size _) (HO.out.kept (World.grownBy_alloc wo _ none) (by cases (Value.slice A' k c').ownBlock <;> simp)) (by simp) (by simp <;> omega) hg4); have HO4 := Lib.hid ho4; clear ho4 hg4)
      exact ⟨⟨k + 1, A4, c4', by omega, by go_num, rfl, by rw [show List.replicate (k + 1) r.low = List.replicate k r.low ++ [r.low] from List.replicate_succ', List.flatMap_append]; exact HO4.out, HB4.out⟩, by simp [intOf]; omega⟩
    · obtain rfl : k = r.N := by omega
      obtain ⟨g, cg, hv, hg1, hg2⟩ := HO.out.form (by omega)
      have hA2 : A' = some ⟨g, 0, none⟩ := by injection hv
      subst hA2
      clear hv
      have HX := Lib.hid (fun (W : World) (hb : Below (w.heap.size + 1) (w.alloc (.cells #[.int .i64 r.N, .int .i64 r.S, .int .i64 r.low, .int .i64 r.high, .int .i64 r.total, .int .i64 r.pure, .int .i64 r.worst, .slice A n c, .slice B m d] 24)) W) => (show Bx w W w.heap.size r.N r.S r.low r.high r.total r.pure r.worst A B none n c m d 0 0 r.fi r.th [] from by
        have hb' : Below (w.alloc (.cells #[.int .i64 r.N, .int .i64 r.S, .int .i64 r.low, .int .i64 r.high, .int .i64 r.total, .int .i64 r.pure, .int .i64 r.worst, .slice A n c, .slice B m d] 24)).heap.size (w.alloc (.cells #[.int .i64 r.N, .int .i64 r.S, .int .i64 r.low, .int .i64 r.high, .int .i64 r.total, .int .i64 r.pure, .int .i64 r.worst, .slice A n c, .slice B m d] 24)) W := by rw [World.size_alloc]; exact hb
        exact ⟨below_cells hb' (by simp) Hbox.out, HF.out.below hb', HT.out.below hb', SlE.nil _ _, below_box hb'⟩))
      obtain ⟨z0, hz0⟩ : ∃ z0, w.heap.size + 1 = z0 := ⟨_, rfl⟩
      have hB0 : Below z0 (w.alloc (.cells #[.int .i64 r.N, .int .i64 r.S, .int .i64 r.low, .int .i64 r.high, .int .i64 r.total, .int .i64 r.pure, .int .i64 r.worst, .slice A n c, .slice B m d] 24)) wo := by rw [← hz0]; have := HB.out; rw [World.size_alloc] at this; exact this
      obtain ⟨W0, hW0⟩ : ∃ W0, w.alloc (.cells #[.int .i64 r.N, .int .i64 r.S, .int .i64 r.low, .int .i64 r.high, .int .i64 r.total, .int .i64 r.pure, .int .i64 r.worst, .slice A n c, .slice B m d] 24) = W0 := ⟨_, rfl⟩
      have hW0s : W0.heap.size = z0 := by rw [← hW0, World.size_alloc]; exact hz0
      rw [hW0] at hB0 HX
      rw [hz0] at HO hg1 hz HX
      have hbz : w.heap.size < z0 := by omega
      have hzz : z0 ≤ wo.heap.size := by omega
      have Hin := Lib.hid (hB0.alloc hzz (.cells #[] 3))
      have Hrow := Lib.hid (own_below HO.out (below_new wo (.cells #[] 3)))
      have H15 := Lib.hid (fun (l : List Int) (h : VL r.low r.high r.N l) => st_15 Hok.out h.2)
      have hBz : ∀ {W : World}, Below z0 W0 W → W0.heap.size ≤ W.heap.size := fun h => h.size
      clear HF HT Hbox HB HO hz0 hW0 hB0
      go_wp2_with fail
      go_loopg [7, 8, 9, 10] (4 ^ r.N) (fun gk s7 s8 _ _ wr => ∃ (l b : List Int) (a7 : Option Addr) (n7 c7 : Nat) (v : Int), s7 = .slice a7 n7 c7 ∧ s8 = .int .i64 v ∧ gk + rk r.low l = 4 ^ r.N ∧ -1 ≤ v ∧ v ≤ 1000000000 ∧ (v = -1 ∨ n7 = r.N) ∧ Hid (Tri r wr z0 g c' (fun l p => slex p l) l b a7 n7 v) ∧ Below z0 W0 wr)
      case atStart => exact ⟨List.replicate r.N r.low, [], _, 0, _, -1, rfl, rfl, by rw [rk_low]; rfl, by omega, by omega, .inl rfl, Lib.hid ⟨lows_VL Hok.out r.N, acc_start r rfl [], Hrow.out, SlE.nil _ _, fun a ha => by injection ha with ha; subst ha; show wo.heap.size ≠ g; omega⟩, Hin.out⟩
      case round =>
        clear Hrow Hin
        obtain ⟨l, b, a7, n7, c7, v, rfl, rfl, hgk, hv1, hv2, hvn, HR, hbw⟩ := hrel
        obtain ⟨wi, rfl⟩ : ∃ wi : World, wi = wr := ⟨_, rfl⟩
        have HBw := Lib.hid hbw
        have hszi : z0 ≤ wi.heap.size := by have := hbw.size; omega
        clear hbw
        have hll : l.length = r.N := HR.out.vl.1
        have hsg : SlE intE 1 wi (some ⟨g, 0, none⟩) r.N l := SlE.of_own HR.out.row hll.symm
        have Hsg := Lib.hid hsg
        obtain ⟨x0, x1, x2, x3, x4, x5, x6, x7, x8, -⟩ := cells9' (HX.out wi HBw.out).box
        have H5 := Lib.hid (fun (W : World) (h : SlE intE 1 W (some ⟨g, 0, none⟩) r.N l) => refFits_any r Hok.out A B (some ⟨g, 0, none⟩) n c m d r.N c' l W h (by omega))
        go_upto_region 7 with fail
        go_cut [31] (fun s31 wx => s31 = .bool (r.fitsB l && r.allowB l) ∧ Below wi.heap.size wi wx)
        case first =>
          cases hfit : r.fitsB l
          · simp only [hfit] at H5
            go_wp2_with (go_at_call 36; refine (H5.out _ Hsg.out).mono ?_; rintro e w2 ⟨rfl, hb2⟩)
            go_meet
            exact ⟨by simp [hfit], hb2⟩
          · have H6 := Lib.hid (fun (W : World) (h : SlE intE 1 W (some ⟨g, 0, none⟩) r.N l) => refAllowed_any r Hok.out A B (some ⟨g, 0, none⟩) n c m d r.N c' l W h hfit)
            simp only [hfit] at H5
            go_wp2_with (first
              | (go_at_call 36; refine (H5.out _ Hsg.out).mono ?_; rintro e w2 ⟨rfl, hb2⟩; have Hs2 := Lib.hid (Hsg.out.below hb2); have Hb2 := Lib.hid hb2; obtain ⟨y0, y1, y2, y3, y4, y5, y6, y7, y8, -⟩ := cells9' (HX.out w2 (HBw.out.trans (hb2.mono hszi))).box; clear hb2)
              | (go_at_call 38; refine (H6.out _ Hs2.out).mono ?_; rintro e w3 ⟨rfl, hb3⟩; have Hb3 := Lib.hid (Hb2.out.trans (hb3.mono Hb2.out.size)); clear hb3))
            go_meet
            exact ⟨by simp [hfit], Hb3.out⟩
        case rest =>
          obtain ⟨rfl, hb2⟩ := hcut
          obtain ⟨w2, rfl⟩ : ∃ w2 : World, w2 = wc := ⟨_, rfl⟩
          have HR2 := Lib.hid (HR.out.below hb2)
          have HB2 := Lib.hid (HBw.out.trans (hb2.mono hszi))
          have Hs2 := Lib.hid (Hsg.out.below hb2)
          have hszw := hb2.size
          clear HR HBw Hsg H5 hb2 x0 x1 x2 x3 x4 x5 x6 x7 x8
          obtain ⟨x0, x1, x2, x3, x4, x5, x6, x7, x8, -⟩ := cells9' (HX.out w2 HB2.out).box
          obtain ⟨bb, hbb⟩ : ∃ bb, (r.fitsB l && r.allowB l) = bb := ⟨_, rfl⟩
          rw [hbb]
          have Hbb := Lib.hid hbb
          clear hbb
          go_upto_if 31 with fail
          go_cut [7, 8, 9] (fun s7 s8 _ wx => ∃ (b : List Int) (a7 : Option Addr) (n7 c7 : Nat) (v : Int), s7 = .slice a7 n7 c7 ∧ s8 = .int .i64 v ∧ -1 ≤ v ∧ v ≤ 1000000000 ∧ (v = -1 ∨ n7 = r.N) ∧ Hid (Tri r wx z0 g c' (fun l p => lexI p l) l b a7 n7 v) ∧ Below z0 W0 wx)
          case first =>
            cases bb
            · have hng : ¬ r.Good l := fun h => by
                obtain ⟨k1, k2⟩ := good_iff.1 h
                have := Hbb.out
                rw [k1, k2] at this
                cases this
              have HT2 := Lib.hid (show Tri r w2 z0 g c' (fun l p => lexI p l) l b a7 n7 v from ⟨HR2.out.vl, acc_no HR2.out.vl HR2.out.acc hng, HR2.out.row, HR2.out.sl, HR2.out.ne⟩)
              clear hng
              go_wp2_with fail
              go_meet
              exact ⟨b, a7, n7, c7, v, rfl, rfl, hv1, hv2, hvn, HT2, HB2.out⟩
            · obtain ⟨hfit, hal⟩ := Bool.and_eq_true_iff.1 Hbb.out
              have hgd : r.Good l := good_iff.2 ⟨hfit, hal⟩
              have Hgd := Lib.hid hgd
              have hcb := cost_bd Hok.out hgd.rng
              have H6 := Lib.hid (refCost_any r Hok.out A B (some ⟨g, 0, none⟩) n c m d r.N c' l w2 (HX.out w2 HB2.out).F (HX.out w2 HB2.out).T Hs2.out hfit)
              obtain ⟨C, hC⟩ : ∃ C, r.cost l = C := ⟨_, rfl⟩
              rw [hC] at hcb H6
              have HC := Lib.hid hC
              obtain ⟨hc1, hc2⟩ := hcb
              clear hfit hal hgd hC
              by_cases htk : v < 0 ∨ C < v
              · have HA := Lib.hid (show r.Acc (fun p => lexI p l) l C from by rw [← HC.out]; exact acc_take (fun st h => (cost_bd Hok.out h.rng).1) HR2.out.vl HR2.out.acc Hgd.out (by rw [HC.out]; exact htk))
                have hszw2 : wi.heap.size ≤ w2.heap.size := hszw
                have key : True := trivial
                by_cases hv0 : v < 0
                all_goals
                  first | have i1 : C < v := (htk.resolve_left hv0) | skip
                  go_wp2_with (first
                    | (go_at_call 39; refine H6.out.mono ?_; rintro e w3 ⟨rfl, hb3⟩; have HR3 := Lib.hid (HR2.out.below hb3); have HB3 := Lib.hid (HB2.out.trans (hb3.mono (by omega))); have Hs3 := Lib.hid (Hs2.out.below hb3); have hsz3 := hb3.size; clear hb3)
                    | (at_builtin; refine wpList_app rfl (.tmp 42) (.tmp 43) _ rfl elemInt w3.heap.size _ _ _ rfl (own_new _ _ _ 1 0 _ (by simp) (Nat.le_refl _) (by unfold maxLen; omega)) _ _ _ _ rfl (Hs3.out.2.alloc _) (int_one _) (by unfold maxLen; omega) (by omega) (by simp) ?_; intro A4 c4 w4 ho4 hg4 _; rw [Nat.zero_add, List.nil_append] at ho4; have hb4 := app_below1 rfl hg4; have HR4 := Lib.hid (HR3.out.below hb4); have HB4 := Lib.hid (HB3.out.trans (hb4.mono (by omega))); have Ho4 := Lib.hid ho4; clear hg4 ho4 hb4))
                  go_meet
                  exact ⟨l, A4, r.N, c4, C, rfl, rfl, by omega, by omega, .inr rfl, Lib.hid ⟨HR4.out.vl, HA.out, HR4.out.row, SlE.of_own Ho4.out hll.symm, fun a ha => by have h6 := (own_bd Ho4.out a ha).1; have h5 := (own_bd HR3.out.row _ rfl).2; simp only at h5; omega⟩, HB4.out⟩
              · have HA := Lib.hid (show r.Acc (fun p => lexI p l) b v from acc_keep HR2.out.vl HR2.out.acc (by rw [HC.out]; exact htk))
                have i1 : ¬ v < 0 := fun h => htk (.inl h)
                have i2 : ¬ C < v := fun h => htk (.inr h)
                go_wp2_with (go_at_call 39; refine H6.out.mono ?_; rintro e w3 ⟨rfl, hb3⟩; have HR3 := Lib.hid (HR2.out.below hb3); have HB3 := Lib.hid (HB2.out.trans (hb3.mono (by omega))); clear hb3)
                go_meet
                exact ⟨b, a7, n7, c7, v, rfl, rfl, hv1, hv2, hvn, Lib.hid ⟨HR3.out.vl, HA.out, HR3.out.row, HR3.out.sl, HR3.out.ne⟩, HB3.out⟩
          case rest =>
            clear HR2 HB2 Hs2 Hbb x0 x1 x2 x3 x4 x5 x6 x7 x8 hszw hvn hv1 hv2
            obtain ⟨b, a7, n7, c7, v, rfl, rfl, hv1, hv2, hvn, HR, hbw⟩ := hcut
            obtain ⟨w3, rfl⟩ : ∃ w3 : World, w3 = wc := ⟨_, rfl⟩
            have HBw := Lib.hid hbw
            clear hbw
            obtain ⟨x0, x1, x2, x3, x4, x5, x6, x7, x8, -⟩ := cells9' (HX.out w3 HBw.out).box
            have hz3 : z0 ≤ w3.heap.size := by have := hBz HBw.out; omega
            have Hh := Lib.hid (show Hlf r w3 z0 g c' l b a7 n7 r.N from ⟨fun x hx => by rw [List.drop_eq_nil_of_le (by omega)] at hx; simp at hx, by rw [half_full hll]; exact HR.out.row, HR.out.sl⟩)
            have Hac := Lib.hid HR.out.acc
            have Hvl := Lib.hid HR.out.vl
            have Hne := Lib.hid HR.out.ne
            have Hxl := Lib.hid (H15.out l HR.out.vl)
            clear HR
            go_wp2_with fail
            go_loopw [10] (fun s10 wr => ∃ (k : Nat) (z : Int), s10 = .int .i64 z ∧ z = (k : Int) - 1 ∧ k ≤ r.N ∧ Hid (Hlf r wr z0 g c' l b a7 n7 k) ∧ Below z0 W0 wr) (fun s10 _ => (intOf s10 + 1).toNat)
            case atStart => exact ⟨r.N, _, rfl, by omega, Nat.le_refl _, Hh, HBw.out⟩
            case round =>
              clear Hh HBw x0 x1 x2 x3 x4 x5 x6 x7 x8 hz3
              obtain ⟨k, z, rfl, hzk, hk, HH, hbw⟩ := hrel
              obtain ⟨w4, rfl⟩ : ∃ w4 : World, w4 = wr := ⟨_, rfl⟩
              have HBw := Lib.hid hbw
              have hz4 : z0 ≤ w4.heap.size := by have := hBz hbw; omega
              clear hbw
              obtain ⟨x0, x1, x2, x3, x4, x5, x6, x7, x8, -⟩ := cells9' (HX.out w4 HBw.out).box
              by_cases hk0 : k = 0
              · subst hk0
                have hno : odo r.low r.high l = none := odo_highs (by have := HH.out.hi; rwa [List.drop_zero] at this)
                have hen := acc_end Hvl.out hno Hac.out
                have Hend := Lib.hid hen
                obtain rfl : z = -1 := by omega
                have HB5 := Lib.hid (HX.out w4 HBw.out).bel
                have Hsl := Lib.hid HH.out.sl
                clear hno hen HH Hac hzk
                go_wp2_with fail
                go_quiet (fail)
                rcases Hend.out with ⟨hv, hng⟩ | ⟨hv, hbe⟩
                · subst hv
                  have Hf := Lib.hid (hR.out (.returned (.tuple #[.slice none 0 0, .int .i64 0, .int .i64 6])) (w4.drewN nq) ⟨.inl ⟨rfl, hng⟩, below_drewN HB5.out nq⟩)
                  clear hR hng
                  go_wp2_with fail
                  refine bodyPost_ret (v := .tuple #[.slice none 0 0, .int .i64 0, .int .i64 6]) ?_ rfl Hf.out
                  simp [results, Try.results21, go_sem]
                · obtain rfl : n7 = r.N := hvn.resolve_left (by omega)
                  have hv0 : ¬ v < 0 := by omega
                  have Hf := Lib.hid (hR.out (.returned (.tuple #[.slice a7 r.N c7, .int .i64 v, .int .i64 0])) (w4.drewN nq) ⟨.inr ⟨b, v, a7, c7, rfl, hbe, Hsl.out⟩, below_drewN HB5.out nq⟩)
                  clear hR hbe
                  go_wp2_with fail
                  refine bodyPost_ret (v := .tuple #[.slice a7 r.N c7, .int .i64 v, .int .i64 0]) ?_ rfl Hf.out
                  simp [results, Try.results21, go_sem]
              · obtain ⟨k', rfl⟩ : ∃ k', k = k' + 1 := ⟨k - 1, by omega⟩
                have hkn : k' < r.N := by omega
                obtain ⟨q0, qf⟩ := own_cell HH.out.row (i := k') (by rw [half_len hll hk]; exact hkn)
                rw [half_get hll hkn] at q0
                have hxv := getD_bd Hxl.out (by omega) k'
                have hxr : r.low ≤ l.getD k' 0 ∧ l.getD k' 0 ≤ r.high := Hvl.out.2 _ (getD_mem' (by omega))
                obtain ⟨x, hx⟩ : ∃ x, l.getD k' 0 = x := ⟨_, rfl⟩
                rw [hx] at q0 hxv hxr
                have Hx := Lib.hid hx
                clear hx
                obtain rfl : z = (k' : Int) := by omega
                have i0 : (0 : Int) ≤ (k' : Int) := by omega
                have i1 : (k' : Int) < (r.N : Int) := by omega
                obtain ⟨hxv1, hxv2⟩ := hxv
                clear hzk hk0
                by_cases hxh : x = r.high
                · have hb0 : (x == r.high) = true := by simp [hxh]
                  have HKx := Lib.hid (fun q => kx_setg ((Kx.refl (fun j => j = g) w4).drewN q) k' (.int .i64 r.low))
                  have HH5 := Lib.hid (show ∀ q, Hlf r ((w4.drewN q).setCell ⟨g, k', none⟩ (.int .i64 r.low)) z0 g c' l b a7 n7 k' from fun q => ⟨drop_high (by omega) HH.out.hi (Hx.out.trans hxh), by
                    have := (own_store (HH.out.drewN q).row k' r.low).1
                    rwa [half_step hll hkn] at this, slE_kx HH.out.sl (HKx.out q) (fun a ha => Hne.out a ha)⟩)
                  have HBW := Lib.hid (show ∀ q, Below z0 W0 ((w4.drewN q).setCell ⟨g, k', none⟩ (.int .i64 r.low)) from fun q => Kx.low HBw.out (HKx.out q) (fun j hj => by omega) hz4)
                  go_wp2_with fail
                  go_quiet (fail)
                  go_wp2_with fail
                  exact ⟨⟨k', _, rfl, by omega, by omega, Lib.hid (HH5.out _), HBW.out _⟩, by simp [intOf]⟩
                · have hb0 : (x == r.high) = false := by simp [hxh]
                  have hlt : x < r.high := by omega
                  have hod := half_odo (low := r.low) (high := r.high) hll hkn HH.out.hi (by rw [Hx.out]; exact hlt)
                  rw [Hx.out] at hod
                  have HKx := Lib.hid (fun q => kx_setg ((Kx.refl (fun j => j = g) w4).drewN q) k' (.int .i64 (x + 1)))
                  have HBW := Lib.hid (show ∀ q, Below z0 W0 ((w4.drewN q).setCell ⟨g, k', none⟩ (.int .i64 (x + 1))) from fun q => Kx.low HBw.out (HKx.out q) (fun j hj => by omega) hz4)
                  have HT5 := Lib.hid (show ∀ q, Tri r ((w4.drewN q).setCell ⟨g, k', none⟩ (.int .i64 (x + 1))) z0 g c' (fun l p => slex p l) ((half r.low r.N l (k' + 1)).set k' (x + 1)) b a7 n7 v from fun q =>
                    ⟨(odo_some Hvl.out hod).1, acc_next Hvl.out hod Hac.out, (own_store (HH.out.drewN q).row k' (x + 1)).1, slE_kx HH.out.sl (HKx.out q) (fun a ha => Hne.out a ha), Hne.out⟩)
                  have hrk := rk_odo h4 Hvl.out hod
                  have hrl := rk_lt h4 (odo_some Hvl.out hod).1
                  obtain ⟨l2, hl2⟩ : ∃ l2, (half r.low r.N l (k' + 1)).set k' (x + 1) = l2 := ⟨_, rfl⟩
                  rw [hl2] at HT5 hrk hrl
                  obtain ⟨F, hF⟩ : ∃ F, 4 ^ r.N = F := ⟨_, rfl⟩
                  rw [hF] at hgk hrl
                  have HF := Lib.hid hF
                  clear hod hl2 hF
                  go_wp2_with fail
                  go_quiet (fail)
                  go_wp2_with fail
                  go_roundg (F - rk r.low l2)
                  case measure => omega
                  case rel => exact ⟨l2, b, a7, n7, c7, v, rfl, rfl, by rw [HF.out]; omega, hv1, hv2, hvn, Lib.hid (HT5.out _), HBW.out _⟩
end Go.Proofs.Ytgmphiklkllnlaa
