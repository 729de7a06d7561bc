/-
  Contracts of the document's Moved and Better; each states its condition.
-/
import Derived.Test.YtgmphiklkllnlaaTCls
namespace Go.Proofs.Ytgmphiklkllnlaa
open Go.RowKit
set_option maxRecDepth 8000 in
set_option maxHeartbeats 2000000 in
theorem moved_any (a : Addr) (n c : Nat) (st : List Int) (i j : Nat) (w : World) (hA : SlE intE 1 w (some a) n st) (hn : n ≤ 2000) (hi : i < n) (hj : j < n) (h15 : ∀ x ∈ st, -15 ≤ x ∧ x ≤ 15) :
    Calls Try.prog 44 #[.slice (some a) n c, .int .i64 (i : Int), .int .i64 (j : Int)] w fun e w' => ∃ g c', e = .returned (.slice (some ⟨g, 0, none⟩) n c') ∧ w'.ownsRow w.heap.size 3 1 (.slice (some ⟨g, 0, none⟩) n c') n ((mvd st i j).flatMap intE) ∧ Below w.heap.size w w' := by
  refine calls_cps ?_
  intro R hR
  have Hl := Lib.hid hA.1
  have hiN : i < st.length := by rw [← Hl.out]; exact hi
  have hjN : j < st.length := by rw [← Hl.out]; exact hj
  obtain ⟨⟨d1, d2⟩, d3, d4⟩ := mvd_bd h15 i j
  obtain ⟨X, hX⟩ : ∃ X, st.getD i 0 = X := ⟨_, rfl⟩
  rw [hX] at d1 d2 d3 d4
  obtain ⟨Y, hY⟩ : ∃ Y, (st.set i (X - 1)).getD j 0 = Y := ⟨_, rfl⟩
  rw [hY] at d3 d4
  have HY := Lib.hid hY
  have HX := Lib.hid hX
  clear hX hY
  go_enter Try.func44, Try.ntmps44
  go_upto_region 2 with (at_builtin; refine wpList_app rfl (.tmp 8) (.tmp 9) _ rfl elemInt w.heap.size _ _ _ rfl (own_new _ _ _ 1 0 _ (by simp) (Nat.le_refl _) (by unfold maxLen; omega)) _ _ _ _ rfl (hA.2.alloc _) (int_one _) (by unfold maxLen; omega) (by omega) (by simp) ?_; intro A3 c3 w3 ho3 hg3 _; rw [Nat.zero_add, List.nil_append] at ho3; have hb3 := app_below1 rfl hg3; clear hg3)
  obtain ⟨g, cg, hv, hg1, hg2⟩ := ho3.form (by omega)
  have hA2 : A3 = some ⟨g, 0, none⟩ := by injection hv
  subst hA2
  clear hv
  obtain ⟨k0, kf⟩ := own_cell ho3 hiN
  rw [HX.out] at k0
  obtain ⟨s1, s2⟩ := own_store ho3 i (X - 1)
  have Hs1 := Lib.hid s1
  have HB3 := Lib.hid (hb3.grown s2 (by have := hb3.size; omega) (fun k hk => by injection hk with hk; omega))
  clear s1 s2 ho3
  go_upto_region 3 with fail
  obtain ⟨W3, hW3⟩ : ∃ W3, w3.setCell ⟨g, i, none⟩ (.int .i64 (X - 1)) = W3 := ⟨_, rfl⟩
  rw [hW3] at Hs1 HB3 ⊢
  clear hW3 k0 kf
  obtain ⟨k0, kf⟩ := own_cell Hs1.out (i := j) (by simpa using hjN)
  rw [HY.out] at k0
  obtain ⟨s1, s2⟩ := own_store Hs1.out j (Y + 1)
  rw [show (st.set i (X - 1)).set j (Y + 1) = mvd st i j from by rw [← HY.out, ← HX.out]; rfl] at s1
  have Hf := Lib.hid (hR.out _ _ ⟨g, c3, rfl, s1, HB3.out.grown s2 HB3.out.size (fun k hk => by injection hk with hk; omega)⟩)
  clear s1 s2 Hs1 hR
  go_wp2_with fail
  exact Hf.out
set_option maxRecDepth 8000 in
set_option maxHeartbeats 8000000 in
theorem refBetter_ok (r : Rg) (hr : r.Ok) (A B D : Option Addr) (n c m d q e : Nat) (st : List Int) (w : World) (hF : SlE intE 1 w A n r.fi) (hT : SlE intE 1 w B m r.th) (hS : SlE intE 1 w D q st) (hgd : r.Good st) :
    Calls Try.prog 43 #[.agg #[.int .i64 r.N, .int .i64 r.S, .int .i64 r.low, .int .i64 r.high, .int .i64 r.total, .int .i64 r.pure, .int .i64 r.worst, .slice A n c, .slice B m d], .slice D q e] w fun en w' => ∃ x y : Int, en = .returned (.tuple #[.int .i64 x, .int .i64 y]) ∧ r.Btr st x y ∧ Below w.heap.size w w' := by
  refine calls_cps ?_
  intro R hR
  have Hbox := Lib.hid (heap_alloc_new w (.cells #[.int .i64 r.N, .int .i64 r.S, .int .i64 r.low, .int .i64 r.high, .int .i64 r.total, .int .i64 r.pure, .int .i64 r.worst, .slice A n c, .slice B m d] 24))
  have hN := hr.n2
  have hN1 := hr.n1
  have Hq := Lib.hid (hS.1.trans hgd.len)
  have hq : q ≤ 24 := by rw [Hq.out]; exact hN
  have Hl := Lib.hid hS.1
  have H15 := Lib.hid (st_15 hr hgd.rng)
  have Hfs := Lib.hid (good_iff.1 hgd).1
  obtain ⟨bd, od, rfl, -, -⟩ := hS.2.2 (by rw [Hq.out]; omega)
  have Hfin := Lib.hid (show ∀ x y W', r.Btr st x y → Below (w.alloc (.cells #[.int .i64 r.N, .int .i64 r.S, .int .i64 r.low, .int .i64 r.high, .int .i64 r.total, .int .i64 r.pure, .int .i64 r.worst, .slice A n c, .slice B m d] 24)).heap.size (w.alloc (.cells #[.int .i64 r.N, .int .i64 r.S, .int .i64 r.low, .int .i64 r.high, .int .i64 r.total, .int .i64 r.pure, .int .i64 r.worst, .slice A n c, .slice B m d] 24)) W' → R (.returned (.tuple #[.int .i64 x, .int .i64 y])) W' from fun x y W' h hb => hR.out _ _ ⟨x, y, rfl, h, below_box hb⟩)
  have HS1 := Lib.hid (hS.alloc (.cells #[.int .i64 r.N, .int .i64 r.S, .int .i64 r.low, .int .i64 r.high, .int .i64 r.total, .int .i64 r.pure, .int .i64 r.worst, .slice A n c, .slice B m d] 24))
  have HF1 := Lib.hid (hF.alloc (.cells #[.int .i64 r.N, .int .i64 r.S, .int .i64 r.low, .int .i64 r.high, .int .i64 r.total, .int .i64 r.pure, .int .i64 r.worst, .slice A n c, .slice B m d] 24))
  have HT1 := Lib.hid (hT.alloc (.cells #[.int .i64 r.N, .int .i64 r.S, .int .i64 r.low, .int .i64 r.high, .int .i64 r.total, .int .i64 r.pure, .int .i64 r.worst, .slice A n c, .slice B m d] 24))
  clear hgd hR hF hT hS
  go_enter Try.func43, Try.ntmps43
  go_wp2_with fail
  go_loopw [6] (fun s6 wr => ∃ (i : Nat), i ≤ r.N ∧ s6 = .int .i64 i ∧ Hid (r.noBtr st i 0) ∧ Below (w.alloc (.cells #[.int .i64 r.N, .int .i64 r.S, .int .i64 r.low, .int .i64 r.high, .int .i64 r.total, .int .i64 r.pure, .int .i64 r.worst, .slice A n c, .slice B m d] 24)).heap.size (w.alloc (.cells #[.int .i64 r.N, .int .i64 r.S, .int .i64 r.low, .int .i64 r.high, .int .i64 r.total, .int .i64 r.pure, .int .i64 r.worst, .slice A n c, .slice B m d] 24)) wr) (fun i _ => r.N - (intOf i).toNat)
  case atStart => exact ⟨0, Nat.zero_le _, rfl, Lib.hid (fun a b _ _ h => absurd h (by omega)), Below.refl _ _⟩
  case round =>
    obtain ⟨i, hi, rfl, Hnb, hb⟩ := hrel
    obtain ⟨wo, rfl⟩ : ∃ wo : World, wo = wr := ⟨_, rfl⟩
    obtain ⟨c0, c1, c2, c3, c4, c5, c6, c7, c8, cf⟩ := ring9 (below_cells hb (by simp) Hbox.out)
    by_cases hlt : i < r.N
    · go_wp2_with fail
      go_loopw [7] (fun s7 wr => ∃ (j : Nat), j ≤ r.N ∧ s7 = .int .i64 j ∧ Hid (r.noBtr st i j) ∧ Below (w.alloc (.cells #[.int .i64 r.N, .int .i64 r.S, .int .i64 r.low, .int .i64 r.high, .int .i64 r.total, .int .i64 r.pure, .int .i64 r.worst, .slice A n c, .slice B m d] 24)).heap.size (w.alloc (.cells #[.int .i64 r.N, .int .i64 r.S, .int .i64 r.low, .int .i64 r.high, .int .i64 r.total, .int .i64 r.pure, .int .i64 r.worst, .slice A n c, .slice B m d] 24)) wr) (fun i _ => r.N - (intOf i).toNat)
      case atStart => exact ⟨0, Nat.zero_le _, rfl, Hnb, hb⟩
      case round =>
        clear hb Hnb c0 c1 c2 c3 c4 c5 c6 c7 c8 cf
        obtain ⟨j, hj, rfl, Hnb, hb⟩ := hrel
        obtain ⟨wi, rfl⟩ : ∃ wi : World, wi = wr := ⟨_, rfl⟩
        have hbox := below_cells hb (by simp) Hbox.out
        have hzi : w.heap.size < wi.heap.size := (Array.getElem?_eq_some_iff.1 hbox).1
        obtain ⟨c0, c1, c2, c3, c4, c5, c6, c7, c8, cf⟩ := ring9 hbox
        by_cases hltj : j < r.N
        · by_cases hij : i = j
          · have hb0 : ((i : Int) == (j : Int)) = true := by simp [hij]
            have Hn := Lib.hid (Hnb.out.step (show r.btr st i j = false by unfold Rg.btr; simp [hij]))
            clear hij hbox
            go_wp2_with fail
            exact ⟨⟨j + 1, by omega, by go_num, Lib.hid Hn.out, hb⟩, by simp [intOf]; omega⟩
          · have hb0 : ((i : Int) == (j : Int)) = false := by simp; omega
            have Hbt := Lib.hid (show r.btr st i j = (r.fitsB (mvd st i j) && r.allowB (mvd st i j) && decide (r.cost (mvd st i j) < r.cost st)) by unfold Rg.btr; simp [hij])
            have hSi := HS1.out.below hb
            clear hij
            go_wp2_with fail
            (with_reducible refine (moved_any ⟨bd, od, none⟩ q e st i j _ hSi (by omega) (by rw [Hq.out]; exact hlt) (by rw [Hq.out]; exact hltj) H15.out).mono ?_)
            rintro en w2 ⟨g, c2', rfl, ho2, hb2⟩
            have HB2 := Lib.hid (hb.trans (hb2.mono hb.size))
            have Hx2 := Lib.hid (SlE.of_own ho2 (show q = (mvd st i j).length by rw [mvd_len]; exact Hl.out))
            have Hbox2 := Lib.hid (below_cells hb2 hzi hbox)
            have hz2 : w.heap.size < w2.heap.size := (Array.getElem?_eq_some_iff.1 Hbox2.out).1
            clear hb hb2 ho2 hSi hbox c0 c1 c2 c3 c4 c5 c6 c7 c8 cf
            obtain ⟨ι, mk, hmk⟩ := cls_ex w2.heap.size w2
            have Hmk := Lib.hid hmk
            have hd := hmk.drew
            have hne := hmk.ne
            have hkc : ∀ x, (mk x).cell? ⟨w.heap.size, 0, none⟩ = some (.int .i64 r.N) ∧ (mk x).cell? ⟨w.heap.size, 1, none⟩ = some (.int .i64 r.S) ∧ (mk x).cell? ⟨w.heap.size, 2, none⟩ = some (.int .i64 r.low) ∧ (mk x).cell? ⟨w.heap.size, 3, none⟩ = some (.int .i64 r.high) ∧ (mk x).cell? ⟨w.heap.size, 4, none⟩ = some (.int .i64 r.total) ∧
                (mk x).cell? ⟨w.heap.size, 5, none⟩ = some (.int .i64 r.pure) ∧ (mk x).cell? ⟨w.heap.size, 6, none⟩ = some (.int .i64 r.worst) ∧ (mk x).cell? ⟨w.heap.size, 7, none⟩ = some (.slice A n c) ∧ (mk x).cell? ⟨w.heap.size, 8, none⟩ = some (.slice B m d) ∧ (∀ j, (mk x).frozen? ⟨w.heap.size, j, none⟩ = false) := fun x => ring9 (below_cells (hmk.below x) hz2 Hbox2.out)
            have c0 := fun x => (hkc x).1
            have c1 := fun x => (hkc x).2.1
            have c2 := fun x => (hkc x).2.2.1
            have c3 := fun x => (hkc x).2.2.2.1
            have c4 := fun x => (hkc x).2.2.2.2.1
            have c5 := fun x => (hkc x).2.2.2.2.2.1
            have c6 := fun x => (hkc x).2.2.2.2.2.2.1
            have c7 := fun x => (hkc x).2.2.2.2.2.2.2.1
            have c8 := fun x => (hkc x).2.2.2.2.2.2.2.2.1
            have HFx := Lib.hid (fun x => (HF1.out.below HB2.out).below (hmk.below x))
            have HTx := Lib.hid (fun x => (HT1.out.below HB2.out).below (hmk.below x))
            have HSx := Lib.hid (fun x => (HS1.out.below HB2.out).below (hmk.below x))
            have HMx := Lib.hid (fun x => Hx2.out.below (hmk.below x))
            have Hbl := Lib.hid (fun x => HB2.out.trans ((hmk.below x).mono HB2.out.size))
            have HC1 := Lib.hid (fun x => hmk.call (refFits_any r hr A B (some ⟨g, 0, none⟩) n c m d q c2' (mvd st i j) (mk x) (HMx.out x) (by omega)))
            have HC2 := Lib.hid (fun (x : ι) (h : r.fitsB (mvd st i j) = true) => hmk.call (refAllowed_any r hr A B (some ⟨g, 0, none⟩) n c m d q c2' (mvd st i j) (mk x) (HMx.out x) h))
            have HC3 := Lib.hid (fun (x : ι) (h : r.fitsB (mvd st i j) = true) => hmk.call (refCost_any r hr A B (some ⟨g, 0, none⟩) n c m d q c2' (mvd st i j) (mk x) (HFx.out x) (HTx.out x) (HMx.out x) h))
            have HC4 := Lib.hid (fun (x : ι) => hmk.call (refCost_any r hr A B (some ⟨bd, od, none⟩) n c m d q e st (mk x) (HFx.out x) (HTx.out x) (HSx.out x) Hfs.out))
            clear Hbox2 Hx2 hkc hmk HFx HTx HSx HMx
            cases hfit : r.fitsB (mvd st i j)
            · have Hn := Lib.hid (Hnb.out.step (show r.btr st i j = false by rw [Hbt.out, hfit]; rfl))
              simp only [hfit] at HC1
              clear hfit Hbt HC2 HC3 HC4
              go_wp2_with fail
              refine wp_region_cls (C := fun w' => ∃ x, w' = mk x) (by kernel_rfl) (by kernel_rfl) hd ?_
              repeat (go_big_quiet_step ((go_at_call 36; exact HC1.out _)))
              refine wpQuiet_nil ?_
              intro _ hw'
              obtain ⟨x, rfl⟩ := hw'
              have hbl := Hbl.out x
              clear Hbl hd
              go_wp2_with fail
              exact ⟨⟨j + 1, by omega, by go_num, Lib.hid Hn.out, hbl⟩, by simp [intOf]; omega⟩
            · have HC2 := Lib.hid (fun x => HC2.out x hfit)
              have HC3 := Lib.hid (fun x => HC3.out x hfit)
              have Hbt := Lib.hid (show r.btr st i j = (r.allowB (mvd st i j) && decide (r.cost (mvd st i j) < r.cost st)) by rw [Hbt.out, hfit]; rfl)
              simp only [hfit] at HC1
              clear hfit
              cases hal : r.allowB (mvd st i j)
              · have Hn := Lib.hid (Hnb.out.step (show r.btr st i j = false by rw [Hbt.out, hal]; rfl))
                simp only [hal] at HC2
                clear hal Hbt HC3 HC4
                go_wp2_with fail
                refine wp_region_cls (C := fun w' => ∃ x, w' = mk x) (by kernel_rfl) (by kernel_rfl) hd ?_
                repeat (go_big_quiet_step ((first | (go_at_call 36; exact HC1.out _) | (go_at_call 38; exact HC2.out _))))
                refine wpQuiet_nil ?_
                intro _ hw'
                obtain ⟨x, rfl⟩ := hw'
                have hbl := Hbl.out x
                clear Hbl hd
                go_wp2_with fail
                exact ⟨⟨j + 1, by omega, by go_num, Lib.hid Hn.out, hbl⟩, by simp [intOf]; omega⟩
              · obtain ⟨C1, hC1⟩ : ∃ C1, r.cost st = C1 := ⟨_, rfl⟩
                obtain ⟨C2, hC2⟩ : ∃ C2, r.cost (mvd st i j) = C2 := ⟨_, rfl⟩
                have Hbt := Lib.hid (show r.btr st i j = decide (C2 < C1) by rw [Hbt.out, hal, hC1, hC2]; rfl)
                simp only [hal] at HC2
                simp only [hC2] at HC3
                simp only [hC1] at HC4
                clear hal hC1 hC2
                cases hlc : decide (C2 < C1)
                · have Hn := Lib.hid (Hnb.out.step (show r.btr st i j = false by rw [Hbt.out, hlc]))
                  go_wp2_with fail
                  refine wp_region_cls (C := fun w' => ∃ x, w' = mk x) (by kernel_rfl) (by kernel_rfl) hd ?_
                  repeat (go_big_quiet_step ((first | (go_at_call 36; exact HC1.out _) | (go_at_call 38; exact HC2.out _) | (go_at_call 39; first | with_reducible exact HC3.out _ | with_reducible exact HC4.out _))))
                  refine wpQuiet_nil ?_
                  intro _ hw'
                  obtain ⟨x, rfl⟩ := hw'
                  have hbl := Hbl.out x
                  clear Hbl hd
                  go_wp2_with fail
                  exact ⟨⟨j + 1, by omega, by go_num, Lib.hid Hn.out, hbl⟩, by simp [intOf]; omega⟩
                · have Hf := Lib.hid (fun x => Hfin.out (i : Int) (j : Int) (mk x) (.inr ⟨i, j, hlt, hltj, rfl, rfl, by rw [Hbt.out, hlc], Hnb.out⟩) (Hbl.out x))
                  go_wp2_with fail
                  refine wp_region_cls (C := fun w' => ∃ x, w' = mk x) (by kernel_rfl) (by kernel_rfl) hd ?_
                  repeat (go_big_quiet_step ((first | (go_at_call 36; exact HC1.out _) | (go_at_call 38; exact HC2.out _) | (go_at_call 39; first | with_reducible exact HC3.out _ | with_reducible exact HC4.out _))))
                  refine wpQuiet_nil ?_
                  intro _ hw'
                  obtain ⟨x, rfl⟩ := hw'
                  clear hd
                  go_wp2_with fail
                  exact Hf.out _
        · obtain rfl : j = r.N := by omega
          have Hn := Lib.hid (show r.noBtr st (i + 1) 0 from Hnb.out.row)
          go_wp2_with fail
          exact ⟨⟨i + 1, by omega, by go_num, Lib.hid Hn.out, hb⟩, by simp [intOf]; omega⟩
    · obtain rfl : i = r.N := by omega
      have Hf := Lib.hid (Hfin.out (-1) (-1) wo (.inl ⟨rfl, rfl, Hnb.out⟩) hb)
      go_wp2_with fail
      exact Hf.out
end Go.Proofs.Ytgmphiklkllnlaa
