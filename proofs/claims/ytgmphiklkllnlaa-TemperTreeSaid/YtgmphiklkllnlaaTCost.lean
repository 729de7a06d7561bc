/-
  Contracts of temper's Cost, and of the document's Fits, Errors, Allowed and Cost; each states its condition.
-/
import Derived.Test.YtgmphiklkllnlaaTErr2
namespace Go.Proofs.Ytgmphiklkllnlaa
open Go.RowKit
/-- What Cost returns of a valid ring. -/
def Rg.costR (r : Rg) (st : List Int) : Int × Int := if r.fitsB st = true then (if r.allowB st = true then (r.cost st, 0) else (0, 6)) else (0, 2)
set_option maxHeartbeats 1000000 in
theorem cost_bad (x : Rn) (A B D : Option Addr) (n c m d q e : Nat) (fi th : List Int) (w : World) (hF : SlE intE 1 w A n fi) (hT : SlE intE 1 w B m th) (hn : n ≤ 9223372036854775807) (hm : m ≤ 9223372036854775807) (h : rgOk x fi th = false) :
    Calls Try.prog 34 #[.agg #[.int .i64 x.N, .int .i64 x.S, .int .i64 x.low, .int .i64 x.high, .int .i64 x.total, .int .i64 x.pure, .int .i64 x.worst, .slice A n c, .slice B m d], .slice D q e] w fun en w' => en = .returned (.tuple #[.int .i64 0, .int .i64 1]) ∧ Below w.heap.size w w' := by
  refine calls_cps ?_
  intro R hR
  go_enter Try.func34, Try.ntmps34
  go_wp2_with fail
  (with_reducible refine (errors_bad x A B D n c m d q e fi th _ (hF.alloc _) (hT.alloc _) hn hm h).mono ?_)
  rintro en w1 ⟨rfl, hb1⟩
  have Hf := Lib.hid (hR.out _ _ ⟨rfl, below_box hb1⟩)
  clear hR hb1
  go_wp2
  exact Hf.out
set_option maxRecDepth 8000 in
set_option maxHeartbeats 2000000 in
theorem cost_any (r : Rg) (hr : r.Ok) (A B D : Option Addr) (n c m d q e : Nat) (st : List Int) (w : World) (hF : SlE intE 1 w A n r.fi) (hT : SlE intE 1 w B m r.th) (hS : SlE intE 1 w D q st) (hq : q ≤ 1000000) :
    Calls Try.prog 34 #[.agg #[.int .i64 r.N, .int .i64 r.S, .int .i64 r.low, .int .i64 r.high, .int .i64 r.total, .int .i64 r.pure, .int .i64 r.worst, .slice A n c, .slice B m d], .slice D q e] w fun en w' => en = .returned (.tuple #[.int .i64 (r.costR st).1, .int .i64 (r.costR st).2]) ∧ Below w.heap.size w w' := by
  refine calls_cps ?_
  intro R hR
  have Hbox := Lib.hid (heap_alloc_new w (.cells #[.int .i64 r.N, .int .i64 r.S, .int .i64 r.low, .int .i64 r.high, .int .i64 r.total, .int .i64 r.pure, .int .i64 r.worst, .slice A n c, .slice B m d] 24))
  cases hf : r.fitsB st
  · have Hr := Lib.hid (show r.costR st = (0, 2) by unfold Rg.costR; rw [hf]; rfl)
    have Hf0 := Lib.hid hf
    clear hf
    go_enter Try.func34, Try.ntmps34
    go_wp2_with fail
    (with_reducible refine (errors_no r hr A B D n c m d q e st _ (hF.alloc _) (hT.alloc _) (hS.alloc _) hq Hf0.out).mono ?_)
    rintro en w1 ⟨rfl, hb1⟩
    have Hf := Lib.hid (hR.out _ _ ⟨rfl, below_box hb1⟩)
    rw [Hr.out] at Hf
    clear hR hb1
    go_wp2
    exact Hf.out
  · have Hf0 := Lib.hid hf
    clear hf
    go_enter Try.func34, Try.ntmps34
    go_wp2_with fail
    (with_reducible refine (errors_ok r hr A B D n c m d q e st _ (hF.alloc _) (hT.alloc _) (hS.alloc _) Hf0.out).mono ?_)
    rintro en w1 ⟨A1, c1, rfl, -, hb1⟩
    obtain ⟨c0, c1, c2, c3, c4, c5, c6, c7, c8, cf⟩ := ring9 (below_cells hb1 (by simp) Hbox.out)
    have hF1 := (hF.alloc (.cells #[.int .i64 r.N, .int .i64 r.S, .int .i64 r.low, .int .i64 r.high, .int .i64 r.total, .int .i64 r.pure, .int .i64 r.worst, .slice A n c, .slice B m d] 24)).below hb1
    have hT1 := (hT.alloc (.cells #[.int .i64 r.N, .int .i64 r.S, .int .i64 r.low, .int .i64 r.high, .int .i64 r.total, .int .i64 r.pure, .int .i64 r.worst, .slice A n c, .slice B m d] 24)).below hb1
    have hS1 := (hS.alloc (.cells #[.int .i64 r.N, .int .i64 r.S, .int .i64 r.low, .int .i64 r.high, .int .i64 r.total, .int .i64 r.pure, .int .i64 r.worst, .slice A n c, .slice B m d] 24)).below hb1
    have Hb1 := Lib.hid (below_box hb1)
    clear hb1
    go_wp2_with fail
    (with_reducible refine (priced_any r hr A B D n c m d q e st _ hF1 hT1 hS1 Hf0.out).mono ?_)
    rintro en w2 ⟨rfl, hb2⟩
    have Hr := Lib.hid (show r.costR st = if r.allowB st = true then (r.cost st, 0) else (0, 6) by unfold Rg.costR; rw [Hf0.out]; rfl)
    have Hf := Lib.hid (hR.out _ _ ⟨rfl, Hb1.out.trans (hb2.mono Hb1.out.size)⟩)
    rw [Hr.out] at Hf
    clear hR hb2 hF1 hT1 hS1
    cases ha : r.allowB st
    all_goals
      rw [ha] at Hf
      have Ha := Lib.hid ha
      clear ha
      go_wp2
      exact Hf.out
/-- What the loop of the document's Fits sums. -/
def Sumd (st : List Int) (k : Nat) (T : Int) : Prop := T = (st.take k).sum
set_option maxHeartbeats 2000000 in
theorem refFits_any (r : Rg) (hr : r.Ok) (A B D : Option Addr) (n c m d q e : Nat) (st : List Int) (w : World) (hS : SlE intE 1 w D q st) (hq : q ≤ 1000000) :
    Calls Try.prog 36 #[.agg #[.int .i64 r.N, .int .i64 r.S, .int .i64 r.low, .int .i64 r.high, .int .i64 r.total, .int .i64 r.pure, .int .i64 r.worst, .slice A n c, .slice B m d], .slice D q e] w fun en w' => en = .returned (.bool (r.fitsB st)) ∧ Below w.heap.size w w' := by
  refine calls_cps ?_
  intro R hR
  have Hok := Lib.hid hr
  have Hfin := Lib.hid (show ∀ b, r.fitsB st = b → R (.returned (.bool b)) (w.alloc (.cells #[.int .i64 r.N, .int .i64 r.S, .int .i64 r.low, .int .i64 r.high, .int .i64 r.total, .int .i64 r.pure, .int .i64 r.worst, .slice A n c, .slice B m d] 24)) from fun b hb => hR.out _ _ ⟨by rw [hb], below_new _ _⟩)
  have Hl := Lib.hid hS.1
  have hq0 : q ≤ 9223372036854775807 := by omega
  clear hR
  cases ha : (decide ((q : Int) = r.N) && st.all (fun x => inB x r.low r.high))
  · have Hno := Lib.hid (Hfin.out false (by
      rw [Bool.and_comm, hS.1] at ha
      unfold Rg.fitsB
      rw [← Bool.and_assoc, show (st.all (fun x => decide (r.low ≤ x) && decide (x ≤ r.high)) && decide ((st.length : Int) = r.N)) = false from ha, Bool.false_and]))
    have Ha := Lib.hid ha
    clear ha
    go_enter Try.func36, Try.ntmps36
    go_wp2_with fail
    (with_reducible refine (all_any D q e st _ _ _ _ (hS.alloc _) hq0).mono ?_)
    rintro en w1 ⟨rfl, rfl⟩
    rw [Ha.out]
    go_wp2
    exact Hno.out
  · obtain ⟨hN, hall⟩ := Bool.and_eq_true_iff.1 ha
    have hg : ∀ x ∈ st, r.low ≤ x ∧ x ≤ r.high := fun x hx => inB_iff.1 (List.all_eq_true.1 hall x hx)
    have Hg := Lib.hid hg
    have Hq : Hid (∀ b, decide (st.sum = r.total) = b → r.fitsB st = b) := Lib.hid (fun b hb => by
      unfold Rg.fitsB
      rw [show st.all (fun x => decide (r.low ≤ x) && decide (x ≤ r.high)) = true from hall, ← hS.1, hN, hb]; rfl)
    have Ha := Lib.hid ha
    clear ha hN hall hg
    go_enter Try.func36, Try.ntmps36
    go_wp2_with fail
    (with_reducible refine (all_any D q e st _ _ _ _ (hS.alloc _) hq0).mono ?_)
    rintro en w1 ⟨rfl, rfl⟩
    rw [Ha.out]
    go_wp2_with fail
    go_loop [5, 6] (fun s5 s6 => ∃ (k : Nat) (T : Int), k ≤ q ∧ s6 = .int .i64 k ∧ s5 = .int .i64 T ∧ -(15 * (k : Int)) ≤ T ∧ T ≤ 15 * (k : Int) ∧ Hid (Sumd st k T)) (fun _ i => q - (intOf i).toNat)
    case atStart => exact ⟨0, 0, Nat.zero_le _, rfl, rfl, by omega, by omega, Lib.hid (by simp [Sumd])⟩
    case round =>
      obtain ⟨k, T, hk, rfl, rfl, T1, T2, HT⟩ := hrel
      by_cases hlt : k < q
      · obtain ⟨b, o, x, rfl, hbl, hs, c0⟩ := (hS.alloc (.cells #[.int .i64 r.N, .int .i64 r.S, .int .i64 r.low, .int .i64 r.high, .int .i64 r.total, .int .i64 r.pure, .int .i64 r.worst, .slice A n c, .slice B m d] 24)).at1 hlt
        have hx := st_15 Hok.out Hg.out x (List.mem_of_getElem? hs)
        have Hs := Lib.hid hs
        clear hs
        go_wp2_with fail
        exact ⟨⟨k + 1, T + x, by omega, by go_num, rfl, by omega, by omega, Lib.hid (by unfold Sumd; rw [sum_take _ _ _ Hs.out, show T = _ from HT.out])⟩, by simp [intOf]; omega⟩
      · obtain rfl : k = q := by omega
        have hT : T = st.sum := by
          have := HT.out
          unfold Sumd at this
          rwa [List.take_of_length_le (by rw [Hl.out]; exact Nat.le_refl _)] at this
        have HT' := Lib.hid hT
        clear hT
        by_cases hTo : T = r.total
        · have Hf := Lib.hid (Hfin.out true (Hq.out true (by rw [← HT'.out]; simp [hTo])))
          go_wp2
          exact bool_ret Hf.out (by simp)
        · have Hf := Lib.hid (Hfin.out false (Hq.out false (by rw [← HT'.out]; simp [hTo])))
          go_wp2
          exact bool_ret Hf.out (by simp [hTo])
set_option maxRecDepth 8000 in
set_option maxHeartbeats 4000000 in
theorem refErrors_any (r : Rg) (hr : r.Ok) (A B D : Option Addr) (n c m d q e : Nat) (st : List Int) (w : World) (hS : SlE intE 1 w D q st) (hq : q = r.N) (hg : ∀ x ∈ st, r.low ≤ x ∧ x ≤ r.high) :
    Calls Try.prog 37 #[.agg #[.int .i64 r.N, .int .i64 r.S, .int .i64 r.low, .int .i64 r.high, .int .i64 r.total, .int .i64 r.pure, .int .i64 r.worst, .slice A n c, .slice B m d], .slice D q e] w fun en w' => ∃ A' c', en = .returned (.slice A' r.N c') ∧ w'.ownsRow w.heap.size 3 1 (.slice A' r.N c') r.N ((r.errs st).flatMap intE) ∧ Below w.heap.size w w' := by
  refine calls_cps ?_
  intro R hR
  have Hbox := Lib.hid (heap_alloc_new w (.cells #[.int .i64 r.N, .int .i64 r.S, .int .i64 r.low, .int .i64 r.high, .int .i64 r.total, .int .i64 r.pure, .int .i64 r.worst, .slice A n c, .slice B m d] 24))
  have Hok := Lib.hid hr
  have Hg := Lib.hid hg
  have Hq := Lib.hid hq
  have HS := Lib.hid (hS.alloc (.cells #[.int .i64 r.N, .int .i64 r.S, .int .i64 r.low, .int .i64 r.high, .int .i64 r.total, .int .i64 r.pure, .int .i64 r.worst, .slice A n c, .slice B m d] 24))
  obtain ⟨n1, n2, s1, s2, s3, l1, l2, h1, h2, t1, t2, p1, p2, w1, w2, fl, tl, fw, tw⟩ := hr
  clear fl tl fw tw hg hq hS
  go_enter Try.func37, Try.ntmps37
  go_wp2_with fail
  go_loopw [5, 6] (fun s5 s6 wr => ∃ (k : Nat) (A' : Option Addr) (c' : Nat), k ≤ r.N ∧ s6 = .int .i64 k ∧ s5 = .slice A' k c' ∧ wr.ownsRow (w.heap.size + 1) 3 1 (.slice A' k c') k (((List.range k).map (fun i => r.err st i r.S)).flatMap intE) ∧ Below (w.alloc (.cells #[.int .i64 r.N, .int .i64 r.S, .int .i64 r.low, .int .i64 r.high, .int .i64 r.total, .int .i64 r.pure, .int .i64 r.worst, .slice A n c, .slice B m d] 24)).heap.size (w.alloc (.cells #[.int .i64 r.N, .int .i64 r.S, .int .i64 r.low, .int .i64 r.high, .int .i64 r.total, .int .i64 r.pure, .int .i64 r.worst, .slice A n c, .slice B m d] 24)) wr) (fun _ i _ => r.N - (intOf i).toNat)
  case atStart => exact ⟨0, _, _, Nat.zero_le _, rfl, rfl, own_newAt (w.alloc (.cells #[.int .i64 r.N, .int .i64 r.S, .int .i64 r.low, .int .i64 r.high, .int .i64 r.total, .int .i64 r.pure, .int .i64 r.worst, .slice A n c, .slice B m d] 24)) #[] 3 1 0 (w.heap.size + 1) rfl (by rw [World.size_alloc]; exact Nat.le_refl _) (by unfold maxLen; omega) (World.size_alloc ..).symm, below_new _ _⟩
  case round =>
    obtain ⟨k, A', c', hk, rfl, rfl, ho, hb⟩ := hrel
    obtain ⟨wo, rfl⟩ : ∃ wo : World, wo = wr := ⟨_, rfl⟩
    have hbox := below_cells hb (by simp) Hbox.out
    have hz : w.heap.size + 1 ≤ wo.heap.size := (Array.getElem?_eq_some_iff.1 hbox).1
    obtain ⟨c0, c1, c2, c3, c4, c5, c6, c7, c8, cf⟩ := ring9 hbox
    have hSo := HS.out.below hb
    have HO := Lib.hid ho
    have HB := Lib.hid hb
    clear ho hb hbox
    by_cases hlt : k < r.N
    · go_wp2_with fail
      go_loop [7, 8] (fun s7 s8 => ∃ (j : Nat) (E : Int), j ≤ r.S ∧ s8 = .int .i64 j ∧ s7 = .int .i64 E ∧ -160 ≤ E ∧ E ≤ 160 ∧ Hid (E = r.err st k j)) (fun _ i => r.S - (intOf i).toNat)
      case atStart => exact ⟨0, r.pure, Nat.zero_le _, rfl, rfl, by omega, by omega, Lib.hid rfl⟩
      case round =>
        obtain ⟨j, E, hj, rfl, rfl, E1, E2, HE⟩ := hrel
        by_cases hltj : j < r.S
        · have hmod : (k + j) % r.N < q := by rw [Hq.out]; exact Nat.mod_lt _ (by omega)
          have hmodI : ((k : Int) + j) % (r.N : Int) < (q : Int) := by have : (((k + j) % r.N : Nat) : Int) = ((k : Int) + j) % (r.N : Int) := by simp
                                                                       omega
          have hmod0 : 0 ≤ ((k : Int) + j) % (r.N : Int) := Int.emod_nonneg _ (by omega)
          obtain ⟨b, o, x, rfl, hbl, hs, s0⟩ := hSo.at1 hmod
          have Hs := Lib.hid hs
          have hx := st_15 Hok.out Hg.out x (List.mem_of_getElem? hs)
          have hb := err_bd Hok.out Hg.out k (j + 1) (by omega)
          rw [Rg.err, getD_some hs, ← HE.out] at hb
          clear hs
          go_wp2_with fail
          exact ⟨⟨j + 1, E - x, by omega, by go_num, rfl, by omega, by omega, Lib.hid (by rw [Rg.err, getD_some Hs.out, HE.out])⟩, by simp [intOf]; omega⟩
        · obtain rfl : j = r.S := by omega
          have hE := HE.out
          subst hE
          go_wp2_with (at_builtin; refine wpList_app rfl (.tmp 35) (.tmp 37) _ rfl elemInt (w.heap.size + 1) _ _ _ rfl (HO.out.kept (World.grownBy_alloc wo _ none) (by cases (Value.slice A' k c').ownBlock <;> simp)) _ _ _ _ rfl (Sl.new _ _ _ 1 1 rfl) (by simp [Value.oneCell']) (by unfold maxLen; omega) (by omega) (by simp; omega) ?_; intro A4 c4 w4 ho4 hg4 _; have HB4 := Lib.hid (below_own (HB.out.alloc HB.out.size _) (HO.out.kept (World.grownBy_alloc wo _ none) (by cases (Value.slice A' k c').ownBlock <;> simp)) (by simp) (by simp; omega) hg4); have HO4 := Lib.hid ho4; clear ho4 hg4)
          exact ⟨⟨k + 1, A4, c4, by omega, by go_num, rfl, by rw [errs_snoc, List.flatMap_append]; exact HO4.out, HB4.out⟩, by simp [intOf]; omega⟩
    · obtain rfl : k = r.N := by omega
      have Hf := Lib.hid (hR.out (.returned (.slice A' r.N c')) wo ⟨A', c', rfl, own_base HO.out (by omega), below_box HB.out⟩)
      clear hR
      go_wp2
      exact Hf.out
end Go.Proofs.Ytgmphiklkllnlaa
