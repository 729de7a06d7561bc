/-
  Contracts of the panel's bounds, more: the ceiling by the document, Sheets both ways; no condition but those that each contract states.
-/
import Derived.Test.YtfkpioibinpfhaaPCeilW
import Derived.BigQuiet
import Derived.Deep.QuietTactic
namespace Go.Proofs.Ytfkpioibinpfhaa
open Go.RowKit

set_option maxHeartbeats 1000000 in
theorem ceiling_no (W H k : Int) (B : Option Addr) (m d : Nat) (ss : List Shp) (w : World) (hS : SlE Shp.enc 4 w B m ss) (hm : m ≤ 9223372036854775807) (hp : panOk W H k ss = false) :
    Calls Try.prog 25 #[.int .i64 W, .int .i64 H, .int .i64 k, .slice B m d] w fun e w' => e = .returned (.tuple #[.int .i64 0, .int .i64 1]) ∧ Below w.heap.size w w' := by
  refine calls_cps ?_
  intro R hR
  go_enter Try.func25, Try.ntmps25
  go_wp2_with (go_at_call 22; refine (check_any _ _ _ _ _ _ ss _ hS hm).mono ?_; rw [hp]; rintro e w1 ⟨rfl, hb⟩)
  exact hR.out _ _ ⟨rfl, hb⟩
set_option maxHeartbeats 1000000 in
theorem refCeiling_any (W H k : Int) (B : Option Addr) (m d : Nat) (ss : List Shp) (w : World) (hS : SlE Shp.enc 4 w B m ss) (hp : panOk W H k ss = true) :
    Calls Try.prog 28 #[.int .i64 W, .int .i64 H, .slice B m d] w fun e w' => e = .returned (.int .i64 (ceilV W H ss)) ∧ Below w.heap.size w w' := by
  refine calls_cps ?_
  intro R hR
  obtain ⟨hW1, hW2, hH1, hH2, hk0, hk8, hss, hok⟩ := panOk_ok hp
  have Hok := Lib.hid hok
  have hm : m ≤ 16 := by rw [hS.1]; exact hss
  have Hm := Lib.hid hS.1
  clear hok hp
  go_enter Try.func28, Try.ntmps28
  go_wp2_with fail
  go_loopw [7, 8] (fun x i wr => ∃ (j : Nat) (q : Int), j ≤ m ∧ i = .int .i64 j ∧ x = .int .i64 q ∧ Hid (q = ceilV W H (ss.take j)) ∧ 0 ≤ q ∧ q ≤ 4096000000 ∧ Below w.heap.size w wr) (fun _ i _ => m - (intOf i).toNat)
  case atStart => exact ⟨0, 0, by omega, rfl, rfl, Lib.hid rfl, by omega, by omega, Below.refl _ _⟩
  case round =>
    obtain ⟨j, q, hj, rfl, rfl, Hq, hq0, hq1, hb⟩ := hrel
    by_cases hlt : j < m
    · obtain ⟨b, o, s, rfl, hbl, hs, c0, c1, c2, c3⟩ := (hS.below hb).at4 hlt
      obtain ⟨⟨a1, a2⟩, ⟨b1, b2⟩, v1, v2⟩ := Hok.out s (List.mem_of_getElem? hs)
      obtain ⟨p1, p2⟩ := mul_bd (a := W) (b := H) (by omega) (by omega) hW2 hH2
      obtain ⟨p3, p4⟩ := mul_bd p1 v1 p2 v2
      obtain ⟨p5, p6⟩ := mul_bd (a := s.W) (b := s.H) (by omega) (by omega) a2 b2
      have p7 : 1 ≤ s.W * s.H := by have := Int.mul_le_mul a1 b1 (by omega) (by omega); simpa using this
      have HN := Lib.hid (ceil_take W H ss j s hs)
      have HD := Lib.hid (ceilS_bd (m := q) ⟨hW1, hW2⟩ ⟨hH1, hH2⟩ ⟨⟨a1, a2⟩, ⟨b1, b2⟩, v1, v2⟩ ⟨hq0, hq1⟩)
      have Hs := Lib.hid hs
      clear hs
      obtain ⟨fb, hfb⟩ : ∃ fb, fitsB W H s = fb := ⟨_, rfl⟩
      have HF := Lib.hid hfb
      clear hfb
      obtain ⟨wo, rfl⟩ : ∃ wo : World, wo = wr := ⟨_, rfl⟩
      cases fb
      all_goals
        go_wp2_with (go_at_call 45; refine (refFits_any W H s _).mono ?_; rw [HF.out]; rintro e w2 ⟨rfl, hb2⟩; rw [World.size_alloc] at hb2; obtain ⟨d0, d1, d2, d3, _, hb3, hz3⟩ := boxed4 hb2; clear hb2)
        all_goals
          have hN := HN.out
          have hD := HD.out
          rw [← Hq.out] at hN
          unfold ceilS at hN hD
          rw [HF.out] at hN hD
          simp only [if_true, Bool.false_eq_true, if_false] at hN hD
          refine ⟨⟨j + 1, _, by omega, by go_num, rfl, Lib.hid ?_, ?_, ?_, hb.trans (hb3.mono hb.size)⟩, by simp [intOf]; omega⟩
          · rw [hN]
            try omega
          · omega
          · omega
    · obtain rfl : j = m := by omega
      have h := Hq.out
      rw [List.take_of_length_le (by rw [Hm.out]; exact Nat.le_refl _)] at h
      have Hfin := Lib.hid (hR.out (.returned (.int .i64 (ceilV W H ss))) wr ⟨rfl, hb⟩)
      rw [← h] at Hfin
      clear h Hq
      go_wp2
      exact Hfin.out

def sheetV (p : Bool) (W H : Int) (ss : List Shp) (ns : List Int) : Int := if (p && decide (ns.length = ss.length) && okWants ns) = true then (if fitAll W H ss ns = true then (areaV ss ns + W * H - 1) / (W * H) else 0) else 0
def sheetE (p : Bool) (W H : Int) (ss : List Shp) (ns : List Int) : Int := if (p && decide (ns.length = ss.length) && okWants ns) = true then (if fitAll W H ss ns = true then 0 else 6) else 1
def wantB (n : Int) : Bool := inB n 0 1000000
theorem okWants_eq (l : List Int) : okWants l = l.all wantB := rfl
theorem sheets_top {W H : Int} (hW : 1 ≤ W ∧ W ≤ 64) (hH : 1 ≤ H ∧ H ≤ 64) : 1 ≤ W * H ∧ W * H ≤ 4096 := by
  have h1 := Int.mul_le_mul hW.1 hH.1 (by omega) (by omega)
  have h2 := Int.mul_le_mul hW.2 hH.2 (by omega) (by omega)
  omega
set_option maxRecDepth 100000 in
set_option maxHeartbeats 2000000 in
theorem sheets_any (W H k : Int) (B A : Option Addr) (m d n c : Nat) (ss : List Shp) (ns : List Int) (w : World) (hS : SlE Shp.enc 4 w B m ss) (hN : SlE intE 1 w A n ns) (hm : m ≤ 9223372036854775807) (hn : n ≤ 9223372036854775807) :
    Calls Try.prog 26 #[.int .i64 W, .int .i64 H, .int .i64 k, .slice B m d, .slice A n c] w fun e w' => e = .returned (.tuple #[.int .i64 (sheetV (panOk W H k ss) W H ss ns), .int .i64 (sheetE (panOk W H k ss) W H ss ns)]) ∧ Below w.heap.size w w' := by
  refine calls_cps ?_
  intro R hR
  have Hm := Lib.hid hS.1
  have Hn := Lib.hid hN.1
  obtain ⟨pb, hpb⟩ : ∃ pb, panOk W H k ss = pb := ⟨_, rfl⟩
  rw [hpb] at hR
  have Hpb := Lib.hid hpb
  clear hpb
  obtain ⟨b0, hb0⟩ : ∃ b0, (pb && decide (n = m)) = b0 := ⟨_, rfl⟩
  have Hb0 := Lib.hid hb0
  clear hb0
  have Hno := Lib.hid (show ∀ W', (b0 && ns.all wantB) = false → Below w.heap.size w W' → R (.returned (.tuple #[.int .i64 0, .int .i64 1])) W' from fun W' h hb => by
    have h' : (pb && decide (ns.length = ss.length) && okWants ns) = false := by rw [okWants_eq, ← Hm.out, ← Hn.out, Hb0.out]; exact h
    exact hR.out _ _ ⟨by rw [sheetV, sheetE, h', if_neg (by simp), if_neg (by simp)], hb⟩)
  have Hyes := Lib.hid (show ∀ W' v, (b0 && ns.all wantB) = true → fitAll W H ss ns = true → v = (areaV ss ns + W * H - 1) / (W * H) → Below w.heap.size w W' → R (.returned (.tuple #[.int .i64 v, .int .i64 0])) W' from fun W' v h h2 hv hb => by
    have h' : (pb && decide (ns.length = ss.length) && okWants ns) = true := by rw [okWants_eq, ← Hm.out, ← Hn.out, Hb0.out]; exact h
    exact hR.out _ _ ⟨by rw [sheetV, sheetE, h', h2, hv]; rfl, hb⟩)
  have Hfit := Lib.hid (show ∀ W', (b0 && ns.all wantB) = true → fitAll W H ss ns = false → Below w.heap.size w W' → R (.returned (.tuple #[.int .i64 0, .int .i64 6])) W' from fun W' h h2 hb => by
    have h' : (pb && decide (ns.length = ss.length) && okWants ns) = true := by rw [okWants_eq, ← Hm.out, ← Hn.out, Hb0.out]; exact h
    exact hR.out _ _ ⟨by rw [sheetV, sheetE, h', h2]; rfl, hb⟩)
  clear hR
  go_enter Try.func26, Try.ntmps26
  go_upto_region 1 with fail
  go_cut [12] (fun s12 wx => s12 = .bool b0 ∧ Below w.heap.size w wx)
  case first =>
    have Hb0' := Lib.hid (show (pb && (((n : Nat) : Int) == ((m : Nat) : Int))) = b0 from by rw [← Hb0.out]; congr 1; rw [Bool.eq_iff_iff]; simp; omega)
    cases pb
    all_goals
      go_wp2_with (go_at_call 22; refine (check_any _ _ _ _ _ _ ss _ hS hm).mono ?_; rw [Hpb.out]; rintro e w1 ⟨rfl, hb1⟩)
      all_goals
        go_meet
        refine ⟨?_, hb1⟩
        rw [← Hb0'.out]
        simp_all
  case rest =>
    obtain ⟨hc1, hbc⟩ := hcut
    subst hc1
    go_wp2_with fail
    go_loopw [12, 14, 33] (fun s _ i wr => ∃ (j : Nat) (bk : Bool), j ≤ n ∧ i = .int .i64 j ∧ s = .bool bk ∧ Hid (bk = (b0 && (ns.take j).all wantB)) ∧ Below w.heap.size w wr) (fun _ _ i _ => n - (intOf i).toNat)
    case atStart => exact ⟨0, b0, Nat.zero_le _, rfl, rfl, Lib.hid (by simp), hbc⟩
    case round =>
      obtain ⟨j, bk, hj, rfl, rfl, Hbk, hb⟩ := hrel
      by_cases hlt : j < n
      · obtain ⟨b, o, x, rfl, hbl, hx, c0⟩ := (hN.below hb).at1 hlt
        have Hx := Lib.hid hx
        clear hx
        have HX := Lib.hid (show ∀ b', b' = (bk && wantB x) → b' = (b0 && (ns.take (j + 1)).all wantB) from fun b' h => by rw [h, Hbk.out, take_all_succ wantB ns j x Hx.out, Bool.and_assoc])
        cases bk
        all_goals
          go_wp2
        all_goals
          go_roundw
          case rel => exact ⟨j + 1, _, by omega, by go_num, rfl, Lib.hid (HX.out _ (by simp_all [wantB, inB] <;> omega)), hb⟩
          case measure => simp [intOf]; omega
      · obtain rfl : n = j := by omega
        have h := Hbk.out
        rw [List.take_of_length_le (by rw [Hn.out]; exact Nat.le_refl _)] at h
        cases bk
        · have Hfin := Lib.hid (Hno.out wr h.symm hb)
          clear h Hbk
          go_wp2
          exact Hfin.out
        · have Hall := Lib.hid h.symm
          have h1 : b0 = true ∧ ns.all wantB = true := by
            have := h.symm
            rwa [Bool.and_eq_true] at this
          have h2 := Hb0.out
          rw [h1.1, Bool.and_eq_true, decide_eq_true_eq] at h2
          have h3 := Hpb.out
          rw [h2.1] at h3
          obtain ⟨hW1, hW2, hH1, hH2, hk0, hk8, hss, hok⟩ := panOk_ok h3
          have Hok := Lib.hid hok
          have HW := Lib.hid (List.all_eq_true.1 h1.2)
          have hnm : n ≤ m := by omega
          have hm16 : m ≤ 16 := by rw [Hm.out]; exact hss
          obtain ⟨t1, t2⟩ := sheets_top ⟨hW1, hW2⟩ ⟨hH1, hH2⟩
          have HA := Lib.hid (fun (j : Nat) => areaV_bd (ss.take j) (ns.take j) (fun s hs => ⟨(Hok.out s (List.mem_of_mem_take hs)).1, (Hok.out s (List.mem_of_mem_take hs)).2.1⟩) (fun x hx => by
            have := HW.out x (List.mem_of_mem_take hx)
            simp only [wantB, inB, Bool.and_eq_true, decide_eq_true_eq] at this
            exact this))
          clear h h1 h2 h3 hok Hbk
          go_wp2_with fail
          go_loopw [15, 16, 17, 51] (fun q _ _ i wr => ∃ (j : Nat) (a : Int), j ≤ n ∧ i = .int .i64 j ∧ q = .int .i64 a ∧ Hid (a = areaV (ss.take j) (ns.take j)) ∧ 0 ≤ a ∧ a ≤ 65536000000 ∧ Hid (fitAll W H (ss.take j) (ns.take j) = true) ∧ Below w.heap.size w wr) (fun _ _ _ i _ => n - (intOf i).toNat)
          case atStart => exact ⟨0, 0, Nat.zero_le _, rfl, rfl, Lib.hid (by simp [areaV]), by omega, by omega, Lib.hid (by simp [fitAll]), hb⟩
          case round =>
            clear hb
            obtain ⟨j, a, hj, rfl, rfl, Ha, ha0, ha1, Hf, hb⟩ := hrel
            by_cases hlt : j < n
            · obtain ⟨bA, oA, x, rfl, hblA, hx, e0⟩ := (hN.below hb).at1 hlt
              obtain ⟨b, o, s, rfl, hbl, hs, c0, c1, c2, c3⟩ := (hS.below hb).at4 (k := j) (by omega)
              obtain ⟨⟨a1, a2⟩, ⟨b1, b2⟩, v1, v2⟩ := Hok.out s (List.mem_of_getElem? hs)
              have hx1 := HW.out x (List.mem_of_getElem? hx)
              simp only [wantB, inB, Bool.and_eq_true, decide_eq_true_eq] at hx1
              obtain ⟨x1, x2⟩ := hx1
              obtain ⟨p1, p2⟩ := mul_bd (a := x) (b := s.W) x1 (by omega) x2 a2
              obtain ⟨p3, p4⟩ := mul_bd (b := s.H) p1 (by omega) p2 b2
              have HAN := Lib.hid (areaV_take ss ns j s x hs hx)
              have HFN := Lib.hid (fitAll_take W H ss ns j s x hs hx)
              have HFF := Lib.hid (fitAll_false W H ss ns j s x hs hx)
              have hA1 := HA.out (j + 1)
              rw [HAN.out, ← Ha.out] at hA1
              have hle : (ss.take (j + 1)).length ≤ 16 := by rw [List.length_take]; omega
              have hmul : x * s.W * s.H = s.W * s.H * x := by rw [Int.mul_assoc, Int.mul_comm]
              rw [← hmul] at hA1
              have HMul := Lib.hid hmul
              obtain ⟨q1, q2⟩ := hA1
              have q3 : a + x * s.W * s.H ≤ 65536000000 := by omega
              have Hs := Lib.hid hs
              have Hx := Lib.hid hx
              clear hs hx hmul q2
              obtain ⟨fb, hfb⟩ : ∃ fb, fitsB W H s = fb := ⟨_, rfl⟩
              have HF := Lib.hid hfb
              clear hfb
              obtain ⟨wo, rfl⟩ : ∃ wo : World, wo = wr := ⟨_, rfl⟩
              have hFa := Lib.hid (show 0 < x → fb = false → fitAll W H ss ns = false from fun h1 h2 => HFF.out (by rw [HF.out, h2]; simp; omega))
              have HNx := Lib.hid (show (x ≤ 0 ∨ fb = true) → fitAll W H (ss.take (j + 1)) (ns.take (j + 1)) = true from fun h => by rw [HFN.out, Hf.out, HF.out]; rcases h with h | h <;> simp [h])
              have Hend := Lib.hid (show ∀ a', a' = a + x * s.W * s.H → a' = areaV (ss.take (j + 1)) (ns.take (j + 1)) ∧ 0 ≤ a' ∧ a' ≤ 65536000000 from fun a' h => by rw [HAN.out, h, ← Ha.out, HMul.out]; rw [HMul.out] at q1 q3; exact ⟨rfl, q1, q3⟩)
              clear HFN HFF Hf HAN Ha HMul
              by_cases hx0 : 0 < x
              · cases fb
                · have Hgo := Lib.hid (fun W' => Hfit.out W' Hall.out (hFa.out hx0 rfl))
                  clear hFa HNx Hend
                  go_wp2_with (go_at_call 44; refine (enters_any W H s _).mono ?_; rw [HF.out]; rintro e w2 ⟨rfl, hb2⟩)
                  exact Hgo.out _ (hb.trans (hb2.mono hb.size))
                · clear hFa
                  go_wp2_with (go_at_call 44; refine (enters_any W H s _).mono ?_; rw [HF.out]; rintro e w2 ⟨rfl, hb2⟩; have d0 := (hb2.cell (p := ⟨b, _, none⟩) hbl).trans c0; have d1 := (hb2.cell (p := ⟨b, _, none⟩) hbl).trans c1; clear c0 c1 c2 c3)
                  have i1 : (j : Int) < (m : Int) := by omega
                  have y1 : IntKind.i64.wrap (x * s.W) = x * s.W := IntWalk.i64_in _ (by omega)
                  have y2 : IntKind.i64.wrap (x * s.W * s.H) = x * s.W * s.H := IntWalk.i64_in _ (by omega)
                  have y3 : IntKind.i64.wrap (a + x * s.W * s.H) = a + x * s.W * s.H := IntWalk.i64_in _ (by omega)
                  go_quiet (fail)
                  clear y1 y2 y3
                  go_wp2
                  obtain ⟨z1, z2, z3⟩ := Hend.out _ rfl
                  exact ⟨⟨j + 1, _, by omega, by go_num, rfl, Lib.hid z1, z2, z3, Lib.hid (HNx.out (by simp)), below_drewN (hb.trans (hb2.mono hb.size)) _⟩, by simp [intOf]; omega⟩
              · have hx00 : x ≤ 0 := by omega
                clear hFa HF
                go_wp2_with fail
                have i1 : (j : Int) < (m : Int) := by omega
                have y1 : IntKind.i64.wrap (x * s.W) = x * s.W := IntWalk.i64_in _ (by omega)
                have y2 : IntKind.i64.wrap (x * s.W * s.H) = x * s.W * s.H := IntWalk.i64_in _ (by omega)
                have y3 : IntKind.i64.wrap (a + x * s.W * s.H) = a + x * s.W * s.H := IntWalk.i64_in _ (by omega)
                go_quiet (fail)
                clear y1 y2 y3
                go_wp2
                obtain ⟨z1, z2, z3⟩ := Hend.out _ rfl
                exact ⟨⟨j + 1, _, by omega, by go_num, rfl, Lib.hid z1, z2, z3, Lib.hid (HNx.out (.inl hx00)), below_drewN hb _⟩, by simp [intOf]; omega⟩
            · obtain rfl : n = j := by omega
              have ha := Ha.out
              have hf := Hf.out
              have hmn := Hall.out
              rw [Bool.and_eq_true] at hmn
              have hmn2 := Hb0.out
              rw [hmn.1, Bool.and_eq_true, decide_eq_true_eq] at hmn2
              have e1 : ss.take n = ss := List.take_of_length_le (by rw [← Hm.out, ← hmn2.2]; exact Nat.le_refl _)
              have e2 : ns.take n = ns := List.take_of_length_le (by rw [← Hn.out]; exact Nat.le_refl _)
              rw [e1, e2] at ha hf
              have Hgo := Lib.hid (fun v h => Hyes.out wr v Hall.out hf h hb)
              rw [← ha] at Hgo
              clear ha hf hmn hmn2 Ha Hf e1 e2
              go_wp2
              exact Hgo.out _ rfl
end Go.Proofs.Ytfkpioibinpfhaa
