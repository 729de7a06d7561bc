/-
  Contracts of slices.Clone at int, of temper's Better, and of the document's Moved and Better; each states its condition.
-/
import Derived.Test.YtgmphiklkllnlaaTRef
namespace Go.Proofs.Ytgmphiklkllnlaa
open Go.RowKit
set_option maxHeartbeats 1000000 in
set_option maxRecDepth 100000 in
theorem clone_any (a : Addr) (n c : Nat) (l : List Int) (w : World) (hA : SlE intE 1 w (some a) n l) (hn : n ≤ 2000) :
    Calls Try.prog 65 #[.slice (some a) n c] w fun e w' => ∃ A' c', e = .returned (.slice A' n c') ∧ w'.ownsRow w.heap.size 3 1 (.slice A' n c') n (l.flatMap intE) ∧ Below w.heap.size w w' := by
  refine calls_cps ?_
  intro R hR
  have hnil := fun (W : World) => Lib.run_eql_slice_nil (P := Try.prog) W 22 3 (some a) n c 0 0 Try.underlying22
  go_enter Try.func65, Try.ntmps65
  go_wp2_with (at_builtin; refine wpList_app rfl (.tmp 5) (.tmp 6) _ rfl elemInt w.heap.size _ _ _ rfl (own_new _ _ _ 1 0 _ (by simp) (Nat.le_refl _) (by unfold maxLen; omega)) _ _ _ _ rfl (hA.2.alloc _) (int_one _) (by unfold maxLen; omega) (by omega) (by simp) ?_; intro A3 c3 w3 ho3 hg3 _; rw [Nat.zero_add, List.nil_append] at ho3; have hb3 := app_below1 rfl hg3; clear hg3)
  exact hR.out _ _ ⟨_, _, rfl, ho3, hb3⟩
/-- Steps with one unit moved. -/
def mvd (st : List Int) (i j : Nat) : List Int := (st.set i (st.getD i 0 - 1)).set j ((st.set i (st.getD i 0 - 1)).getD j 0 + 1)
theorem mvd_len (st : List Int) (i j : Nat) : (mvd st i j).length = st.length := by simp [mvd]
def Rg.btr (r : Rg) (st : List Int) (i j : Nat) : Bool := decide (i ≠ j) && r.fitsB (mvd st i j) && r.allowB (mvd st i j) && decide (r.cost (mvd st i j) < r.cost st)
/-- No pair ahead of (i, j) is better. -/
def Rg.noBtr (r : Rg) (st : List Int) (i j : Nat) : Prop := ∀ a b, a < r.N → b < r.N → (a < i ∨ (a = i ∧ b < j)) → r.btr st a b = false
/-- What Better finds. -/
def Rg.Btr (r : Rg) (st : List Int) (x y : Int) : Prop := (x = -1 ∧ y = -1 ∧ r.noBtr st r.N 0) ∨ ∃ i j : Nat, i < r.N ∧ j < r.N ∧ x = i ∧ y = j ∧ r.btr st i j = true ∧ r.noBtr st i j
theorem Rg.noBtr.step {r : Rg} {st : List Int} {i j : Nat} (h : r.noBtr st i j) (hb : r.btr st i j = false) : r.noBtr st i (j + 1) := fun a b ha hb' hab => by
  by_cases e : a = i ∧ b = j
  · rw [e.1, e.2]; exact hb
  · exact h a b ha hb' (by omega)
theorem Rg.noBtr.row {r : Rg} {st : List Int} {i : Nat} (h : r.noBtr st i r.N) : r.noBtr st (i + 1) 0 := fun a b ha hb' hab => h a b ha hb' (by omega)
theorem Rg.Btr.uniq {r : Rg} {st : List Int} {x y x' y' : Int} (h : r.Btr st x y) (k : r.Btr st x' y') : x = x' ∧ y = y' := by
  rcases h with ⟨h1, h2, h3⟩ | ⟨i, j, h1, h2, h3, h4, h5, h6⟩
  · rcases k with ⟨k1, k2, k3⟩ | ⟨i, j, k1, k2, k3, k4, k5, k6⟩
    · omega
    · rw [h3 i j k1 k2 (.inl k1)] at k5; cases k5
  · rcases k with ⟨k1, k2, k3⟩ | ⟨a, b, k1, k2, k3, k4, k5, k6⟩
    · rw [k3 i j h1 h2 (.inl h1)] at h5; cases h5
    · have e : i = a ∧ j = b := by
        by_cases l : i < a ∨ (i = a ∧ j < b)
        · rw [k6 i j h1 h2 l] at h5; cases h5
        · by_cases l' : a < i ∨ (a = i ∧ b < j)
          · rw [h6 a b k1 k2 l'] at k5; cases k5
          · omega
      omega
set_option maxHeartbeats 1000000 in
theorem better_bad (x : Rn) (A B D : Option Addr) (n c m d q e : Nat) (fi th : List Int) (w : World) (hF : SlE intE 1 w A n fi) (hT : SlE intE 1 w B m th) (hn : n ≤ 9223372036854775807) (hm : m ≤ 9223372036854775807) (h : rgOk x fi th = false) :
    Calls Try.prog 42 #[.agg #[.int .i64 x.N, .int .i64 x.S, .int .i64 x.low, .int .i64 x.high, .int .i64 x.total, .int .i64 x.pure, .int .i64 x.worst, .slice A n c, .slice B m d], .slice D q e] w fun en w' => en = .returned (.tuple #[.int .i64 0, .int .i64 0, .int .i64 1]) ∧ Below w.heap.size w w' := by
  refine calls_cps ?_
  intro R hR
  go_enter Try.func42, Try.ntmps42
  go_wp2_with fail
  (with_reducible refine (cost_bad x A B D n c m d q e fi th _ (hF.alloc _) (hT.alloc _) hn hm h).mono ?_)
  rintro en w1 ⟨rfl, hb1⟩
  have Hf := Lib.hid (hR.out _ _ ⟨rfl, below_box hb1⟩)
  clear hR hb1
  go_wp2
  go_ret3
  exact Hf.out
set_option maxRecDepth 8000 in
set_option maxHeartbeats 1000000 in
theorem better_no (r : Rg) (hr : r.Ok) (A B D : Option Addr) (n c m d q e : Nat) (st : List Int) (w : World) (hF : SlE intE 1 w A n r.fi) (hT : SlE intE 1 w B m r.th) (hS : SlE intE 1 w D q st) (hq : q ≤ 1000000) (E : Int) (hE : E ≠ 0) (he : r.costR st = (0, E)) :
    Calls Try.prog 42 #[.agg #[.int .i64 r.N, .int .i64 r.S, .int .i64 r.low, .int .i64 r.high, .int .i64 r.total, .int .i64 r.pure, .int .i64 r.worst, .slice A n c, .slice B m d], .slice D q e] w fun en w' => en = .returned (.tuple #[.int .i64 0, .int .i64 0, .int .i64 E]) ∧ Below w.heap.size w w' := by
  refine calls_cps ?_
  intro R hR
  have He := Lib.hid he
  have hb0 : (E != 0) = true := by simp [hE]
  clear he hE
  go_enter Try.func42, Try.ntmps42
  go_wp2_with fail
  (with_reducible refine (cost_any r hr A B D n c m d q e st _ (hF.alloc _) (hT.alloc _) (hS.alloc _) hq).mono ?_)
  rintro en w1 ⟨rfl, hb1⟩
  rw [He.out]
  have Hf := Lib.hid (hR.out _ _ ⟨rfl, below_box hb1⟩)
  clear hR hb1
  go_wp2
  go_ret3
  exact Hf.out
theorem costR_ok {r : Rg} {st : List Int} (h : r.Good st) : r.costR st = (r.cost st, 0) := by
  obtain ⟨a, b⟩ := good_iff.1 h
  unfold Rg.costR
  rw [a, b]; rfl
theorem set_flat (l : List Int) (i : Nat) (v : Int) : (l.flatMap intE).set i (.int .i64 v) = (l.set i v).flatMap intE := by
  rw [flat_int, flat_int, List.map_set]
/-- An owned row of ints whose cells are known: one cell more is stored. -/
theorem own_store {W : World} {base g c n : Nat} {l : List Int} (h : W.ownsRow base 3 1 (.slice (some ⟨g, 0, none⟩) n c) n (l.flatMap intE)) (i : Nat) (v : Int) :
    (W.setCell ⟨g, i, none⟩ (.int .i64 v)).ownsRow base 3 1 (.slice (some ⟨g, 0, none⟩) n c) n ((l.set i v).flatMap intE) ∧ W.grownBy (W.setCell ⟨g, i, none⟩ (.int .i64 v)) (some g) := by
  obtain ⟨s1, s2⟩ := h.stored i (.int .i64 v)
  rw [set_flat] at s1
  exact ⟨s1, s2⟩
theorem own_cell {W : World} {base g c n : Nat} {l : List Int} (h : W.ownsRow base 3 1 (.slice (some ⟨g, 0, none⟩) n c) n (l.flatMap intE)) {i : Nat} (hi : i < l.length) :
    W.cell? ⟨g, i, none⟩ = some (.int .i64 (l.getD i 0)) ∧ W.frozen? ⟨g, i, none⟩ = false := by
  refine ⟨?_, h.frozenAt i⟩
  rw [h.cellAt i (by have := h.1; rw [flat_int] at this; simp at this; omega), flat_int, List.getElem?_map, List.getD_eq_getElem?_getD, List.getElem?_eq_getElem hi]
  rfl
theorem mvd_bd {st : List Int} (h : ∀ x ∈ st, -15 ≤ x ∧ x ≤ 15) (i j : Nat) : (-15 ≤ st.getD i 0 ∧ st.getD i 0 ≤ 15) ∧ -17 ≤ (st.set i (st.getD i 0 - 1)).getD j 0 ∧ (st.set i (st.getD i 0 - 1)).getD j 0 ≤ 17 := by
  have h1 := getD_bd h (by omega) i
  refine ⟨h1, ?_⟩
  by_cases e : i = j
  · subst e
    rw [List.getD_eq_getElem?_getD, List.getElem?_set_self']
    cases he : st[i]? with
    | none => simp
    | some y =>
      rw [List.getD_eq_getElem?_getD, he] at h1
      simp [he] at h1 ⊢
      omega
  · rw [List.getD_eq_getElem?_getD, List.getElem?_set_ne e, ← List.getD_eq_getElem?_getD]
    have := getD_bd h (by omega) j
    omega
set_option maxRecDepth 8000 in
set_option maxHeartbeats 4000000 in
theorem better_ok (r : Rg) (hr : r.Ok) (A B D : Option Addr) (n c m d q e : Nat) (st : List Int) (w : World) (hF : SlE intE 1 w A n r.fi) (hT : SlE intE 1 w B m r.th) (hS : SlE intE 1 w D q st) (hgd : r.Good st) :
    Calls Try.prog 42 #[.agg #[.int .i64 r.N, .int .i64 r.S, .int .i64 r.low, .int .i64 r.high, .int .i64 r.total, .int .i64 r.pure, .int .i64 r.worst, .slice A n c, .slice B m d], .slice D q e] w fun en w' => ∃ x y : Int, en = .returned (.tuple #[.int .i64 x, .int .i64 y, .int .i64 0]) ∧ r.Btr st x y ∧ Below w.heap.size w w' := by
  refine calls_cps ?_
  intro R hR
  have Hbox := Lib.hid (heap_alloc_new w (.cells #[.int .i64 r.N, .int .i64 r.S, .int .i64 r.low, .int .i64 r.high, .int .i64 r.total, .int .i64 r.pure, .int .i64 r.worst, .slice A n c, .slice B m d] 24))
  have hN := hr.n2
  have hN1 := hr.n1
  have Hq := Lib.hid (hS.1.trans hgd.len)
  have hq : q ≤ 24 := by rw [Hq.out]; exact hN
  have Hl := Lib.hid hS.1
  have H15 := Lib.hid (st_15 hr hgd.rng)
  have Hc := Lib.hid (costR_ok hgd)
  have Hgd := Lib.hid hgd
  obtain ⟨bd, od, rfl, -, -⟩ := hS.2.2 (by rw [Hq.out]; omega)
  clear hgd
  go_enter Try.func42, Try.ntmps42
  go_wp2_with fail
  (with_reducible refine (cost_any r hr A B _ n c m d q e st _ (hF.alloc _) (hT.alloc _) (hS.alloc _) (by omega)).mono ?_)
  rintro en w1 ⟨rfl, hb1⟩
  rw [Hc.out]
  have Hbox1 := Lib.hid (below_cells hb1 (by simp) Hbox.out)
  have HS1 := Lib.hid ((hS.alloc (.cells #[.int .i64 r.N, .int .i64 r.S, .int .i64 r.low, .int .i64 r.high, .int .i64 r.total, .int .i64 r.pure, .int .i64 r.worst, .slice A n c, .slice B m d] 24)).below hb1)
  have HF1 := Lib.hid ((hF.alloc (.cells #[.int .i64 r.N, .int .i64 r.S, .int .i64 r.low, .int .i64 r.high, .int .i64 r.total, .int .i64 r.pure, .int .i64 r.worst, .slice A n c, .slice B m d] 24)).below hb1)
  have HT1 := Lib.hid ((hT.alloc (.cells #[.int .i64 r.N, .int .i64 r.S, .int .i64 r.low, .int .i64 r.high, .int .i64 r.total, .int .i64 r.pure, .int .i64 r.worst, .slice A n c, .slice B m d] 24)).below hb1)
  have hz1 : w.heap.size < w1.heap.size := (Array.getElem?_eq_some_iff.1 Hbox1.out).1
  have Hfin := Lib.hid (show ∀ x y W', r.Btr st x y → Below w1.heap.size w1 W' → R (.returned (.tuple #[.int .i64 x, .int .i64 y, .int .i64 0])) W' from fun x y W' h hb => hR.out _ _ ⟨x, y, rfl, h, (below_box hb1).trans (hb.mono (below_box hb1).size)⟩)
  clear hR hb1 hF hT hS
  obtain ⟨C, hC⟩ : ∃ C, r.cost st = C := ⟨_, rfl⟩
  rw [hC]
  have HC := Lib.hid hC
  clear hC
  go_wp2_with fail
  go_loopw [25] (fun s25 wr => ∃ (i : Nat), i ≤ q ∧ s25 = .int .i64 i ∧ Hid (r.noBtr st i 0) ∧ Below w1.heap.size w1 wr) (fun i _ => q - (intOf i).toNat)
  case atStart => exact ⟨0, Nat.zero_le _, rfl, Lib.hid (fun a b _ _ h => absurd h (by omega)), Below.refl _ _⟩
  case round =>
    obtain ⟨i, hi, rfl, Hnb, hb⟩ := hrel
    obtain ⟨wo, rfl⟩ : ∃ wo : World, wo = wr := ⟨_, rfl⟩
    by_cases hlt : i < q
    · go_wp2_with fail
      go_loopw [30] (fun s30 wr => ∃ (j : Nat), j ≤ q ∧ s30 = .int .i64 j ∧ Hid (r.noBtr st i j) ∧ Below w1.heap.size w1 wr) (fun i _ => q - (intOf i).toNat)
      case atStart => exact ⟨0, Nat.zero_le _, rfl, Hnb, hb⟩
      case round =>
        clear hb Hnb
        obtain ⟨j, hj, rfl, Hnb, hb⟩ := hrel
        obtain ⟨wi, rfl⟩ : ∃ wi : World, wi = wr := ⟨_, rfl⟩
        by_cases hltj : j < q
        · have hiN : i < st.length := by rw [← Hl.out]; exact hlt
          have hjN : j < st.length := by rw [← Hl.out]; exact hltj
          obtain ⟨⟨d1, d2⟩, d3, d4⟩ := mvd_bd H15.out i j
          obtain ⟨X, hX⟩ : ∃ X, st.getD i 0 = X := ⟨_, rfl⟩
          rw [hX] at d1 d2 d3 d4
          obtain ⟨Y, hY⟩ : ∃ Y, (st.set i (X - 1)).getD j 0 = Y := ⟨_, rfl⟩
          rw [hY] at d3 d4
          have HY := Lib.hid hY
          have HX := Lib.hid hX
          clear hX hY
          go_wp2_with fail
          (with_reducible refine (clone_any ⟨bd, od, none⟩ q e st _ (HS1.out.below hb) (by omega)).mono ?_)
          rintro en w2 ⟨A2, c2, rfl, ho2, hb2⟩
          obtain ⟨g, cg, hv, hg1, hg2⟩ := ho2.form (by omega)
          have hA2 : A2 = some ⟨g, 0, none⟩ := by injection hv
          subst hA2
          clear hv
          have HB2 := Lib.hid (hb.trans (hb2.mono hb.size))
          have hwi := hb.size
          clear hb hb2
          obtain ⟨k0, kf⟩ := own_cell ho2 hiN
          rw [HX.out] at k0
          obtain ⟨s1, s2⟩ := own_store ho2 i (X - 1)
          have Hs1 := Lib.hid s1
          have HB3 := Lib.hid (HB2.out.grown s2 (by omega) (fun k hk => by injection hk with hk; omega))
          clear s1 s2 ho2
          go_upto_region 12 with fail
          obtain ⟨W3, hW3⟩ : ∃ W3, w2.setCell ⟨g, i, none⟩ (.int .i64 (X - 1)) = W3 := ⟨_, rfl⟩
          rw [hW3] at Hs1 HB3 ⊢
          have hg3 : g < W3.heap.size := by rw [← hW3]; simp [World.setCell]; exact hg2
          clear hW3 k0 kf
          obtain ⟨k0, kf⟩ := own_cell Hs1.out (i := j) (by simpa using hjN)
          rw [HY.out] at k0
          obtain ⟨s1, s2⟩ := own_store Hs1.out j (Y + 1)
          rw [show (st.set i (X - 1)).set j (Y + 1) = mvd st i j from by rw [← HY.out, ← HX.out]; rfl] at s1
          have Hs4 := Lib.hid s1
          have HB4 := Lib.hid (HB3.out.grown s2 (by omega) (fun k hk => by injection hk with hk; omega))
          clear s1 s2 Hs1
          go_upto_region 13 with fail
          obtain ⟨W4, hW4⟩ : ∃ W4, W3.setCell ⟨g, j, none⟩ (.int .i64 (Y + 1)) = W4 := ⟨_, rfl⟩
          rw [hW4] at Hs4 HB4 ⊢
          clear hW4 k0 kf
          obtain ⟨c0, c1, c2', c3, c4, c5, c6, c7, c8, cf⟩ := ring9 (below_cells HB4.out hz1 Hbox1.out)
          have hS4 := SlE.of_own Hs4.out (show q = (mvd st i j).length by rw [mvd_len]; exact Hl.out)
          have hz4 : w.heap.size < W4.heap.size := Nat.lt_of_lt_of_le hz1 HB4.out.size
          by_cases hij : i = j
          · have hb0 : ((i : Int) == (j : Int)) = true := by simp [hij]
            have Hn := Lib.hid (Hnb.out.step (show r.btr st i j = false by unfold Rg.btr; simp [hij]))
            clear hij hS4
            go_wp2_with fail
            exact ⟨⟨j + 1, by omega, by go_num, Lib.hid Hn.out, HB4.out⟩, by simp [intOf]; omega⟩
          · have hb0 : ((i : Int) == (j : Int)) = false := by simp; omega
            have hbt : r.btr st i j = (r.fitsB (mvd st i j) && r.allowB (mvd st i j) && decide (r.cost (mvd st i j) < r.cost st)) := by unfold Rg.btr; simp [hij]
            have Hbt := Lib.hid hbt
            have Hij := Lib.hid hij
            clear hij hbt
            go_wp2_with fail
            (with_reducible refine (fits_any r hr A B _ n c m d q c2 (mvd st i j) _ hS4 (by omega)).mono ?_)
            rintro en w5 ⟨rfl, hb5⟩
            have HB5 := Lib.hid (HB4.out.trans (hb5.mono HB4.out.size))
            cases hfit : r.fitsB (mvd st i j)
            · have Hn := Lib.hid (Hnb.out.step (show r.btr st i j = false by rw [Hbt.out, hfit]; rfl))
              clear hfit hS4 hb5
              go_wp2_with fail
              exact ⟨⟨j + 1, by omega, by go_num, Lib.hid Hn.out, HB5.out⟩, by simp [intOf]; omega⟩
            · have Hfit := Lib.hid hfit
              clear c0 c1 c2' c3 c4 c5 c6 c7 c8 cf hfit
              obtain ⟨c0, c1, c2', c3, c4, c5, c6, c7, c8, cf⟩ := ring9 (below_cells HB5.out hz1 Hbox1.out)
              have hS5 := hS4.below hb5
              have hF5 := HF1.out.below HB5.out
              have hT5 := HT1.out.below HB5.out
              clear hS4 hb5
              go_wp2_with fail
              (with_reducible refine (priced_any r hr A B _ n c m d q c2 (mvd st i j) _ hF5 hT5 hS5 Hfit.out).mono ?_)
              rintro en w6 ⟨rfl, hb6⟩
              have HB6 := Lib.hid (HB5.out.trans (hb6.mono HB5.out.size))
              clear hF5 hT5 hS5 hb6
              cases hal : r.allowB (mvd st i j)
              · have Hn := Lib.hid (Hnb.out.step (show r.btr st i j = false by rw [Hbt.out, hal]; simp))
                clear hal
                go_wp2_with fail
                exact ⟨⟨j + 1, by omega, by go_num, Lib.hid Hn.out, HB6.out⟩, by simp [intOf]; omega⟩
              · obtain ⟨C2, hC2⟩ : ∃ C2, r.cost (mvd st i j) = C2 := ⟨_, rfl⟩
                simp only [if_true, hC2]
                have Hbt2 := Lib.hid (show r.btr st i j = decide (C2 < C) by rw [Hbt.out, hal, Hfit.out, hC2, HC.out]; rfl)
                clear hal hC2
                by_cases hlc : C2 < C
                · have Hf := Lib.hid (Hfin.out (i : Int) (j : Int) w6 (.inr ⟨i, j, by rw [← Hq.out]; exact hlt, by rw [← Hq.out]; exact hltj, rfl, rfl, by rw [Hbt2.out]; simp [hlc], Hnb.out⟩) HB6.out)
                  go_wp2_with fail
                  go_ret3
                  exact Hf.out
                · have Hn := Lib.hid (Hnb.out.step (show r.btr st i j = false by rw [Hbt2.out]; simp [hlc]))
                  go_wp2_with fail
                  exact ⟨⟨j + 1, by omega, by go_num, Lib.hid Hn.out, HB6.out⟩, by simp [intOf]; omega⟩
        · obtain rfl : j = q := by omega
          have Hn := Lib.hid (show r.noBtr st (i + 1) 0 from by have := Hnb.out; rw [Hq.out] at this; exact this.row)
          go_wp2_with fail
          exact ⟨⟨i + 1, by omega, by go_num, Lib.hid Hn.out, hb⟩, by simp [intOf]; omega⟩
    · obtain rfl : i = q := by omega
      have Hf := Lib.hid (Hfin.out (-1) (-1) wo (.inl ⟨rfl, rfl, by have := Hnb.out; rw [Hq.out] at this; exact this⟩) hb)
      go_wp2_with fail
      go_ret3
      exact Hf.out
end Go.Proofs.Ytgmphiklkllnlaa
