/-
  The contract of the document's Sheets; no condition but those that it states.
-/
import Derived.Test.YtfkpioibinpfhaaPSheetW
namespace Go.Proofs.Ytfkpioibinpfhaa
open Go.RowKit

set_option maxRecDepth 100000 in
set_option maxHeartbeats 2000000 in
theorem refSheets_any (W H k : Int) (B A : Option Addr) (m d n c : Nat) (ss : List Shp) (ns : List Int) (w : World) (hS : SlE Shp.enc 4 w B m ss) (hN : SlE intE 1 w A n ns) (hp : panOk W H k ss = true) (hn : n ≤ 9223372036854775807) :
    Calls Try.prog 27 #[.int .i64 W, .int .i64 H, .slice B m d, .slice A n c] w fun e w' => e = .returned (.tuple #[.int .i64 (sheetV true W H ss ns), .int .i64 (sheetE true W H ss ns)]) ∧ Below w.heap.size w w' := by
  refine calls_cps ?_
  intro R hR
  obtain ⟨hW1, hW2, hH1, hH2, hk0, hk8, hss, hok⟩ := panOk_ok hp
  have hm16 : m ≤ 16 := by rw [hS.1]; exact hss
  have Hok := Lib.hid hok
  have Hm := Lib.hid hS.1
  have Hn := Lib.hid hN.1
  clear hok hp
  have Hno := Lib.hid (show ∀ W', (n ≠ m ∨ ns.all wantB = false) → Below w.heap.size w W' → R (.returned (.tuple #[.int .i64 0, .int .i64 1])) W' from fun W' h hb => by
    have h' : (true && decide (ns.length = ss.length) && okWants ns) = false := by
      rw [okWants_eq, ← Hm.out, ← Hn.out]
      rcases h with h | h <;> simp [h]
    exact hR.out _ _ ⟨by rw [sheetV, sheetE, h', if_neg (by simp), if_neg (by simp)], hb⟩)
  have Hyes := Lib.hid (show ∀ W' v, n = m → ns.all wantB = true → fitAll W H ss ns = true → v = (areaV ss ns + W * H - 1) / (W * H) → Below w.heap.size w W' → R (.returned (.tuple #[.int .i64 v, .int .i64 0])) W' from fun W' v h1 h h2 hv hb => by
    have h' : (true && decide (ns.length = ss.length) && okWants ns) = true := by rw [okWants_eq, ← Hm.out, ← Hn.out, h]; simp [h1]
    exact hR.out _ _ ⟨by rw [sheetV, sheetE, h', h2, hv]; rfl, hb⟩)
  have Hfit := Lib.hid (show ∀ W', n = m → ns.all wantB = true → fitAll W H ss ns = false → Below w.heap.size w W' → R (.returned (.tuple #[.int .i64 0, .int .i64 6])) W' from fun W' h1 h h2 hb => by
    have h' : (true && decide (ns.length = ss.length) && okWants ns) = true := by rw [okWants_eq, ← Hm.out, ← Hn.out, h]; simp [h1]
    exact hR.out _ _ ⟨by rw [sheetV, sheetE, h', h2]; rfl, hb⟩)
  clear hR
  by_cases hnm : n = m
  · have hb0 : ((n : Int) != (m : Int)) = false := by simp [hnm]
    have Hnm := Lib.hid hnm
    have hnm' : n ≤ m := by omega
    clear hnm
    go_enter Try.func27, Try.ntmps27
    go_wp2_with fail
    go_loopw [10] (fun i wr => ∃ (j : Nat), j ≤ n ∧ i = .int .i64 j ∧ Hid ((ns.take j).all wantB = true) ∧ Below w.heap.size w wr) (fun i _ => n - (intOf i).toNat)
    case atStart => exact ⟨0, Nat.zero_le _, rfl, Lib.hid (by simp), Below.refl _ _⟩
    case round =>
      obtain ⟨j, hj, rfl, Hall, hb⟩ := hrel
      by_cases hlt : j < n
      · obtain ⟨b, o, x, rfl, hbl, hx, c0⟩ := (hN.below hb).at1 hlt
        have Hx := Lib.hid hx
        clear hx
        obtain ⟨wb, hwb⟩ : ∃ wb, wantB x = wb := ⟨_, rfl⟩
        have hwb' : inB x 0 1000000 = wb := hwb
        have HWb := Lib.hid hwb
        have HWb' := Lib.hid hwb'
        clear hwb hwb'
        have Hf := Lib.hid (show wb = false → ns.all wantB = false from fun h => all_false_of wantB ns j x Hx.out (by rw [HWb.out, h]))
        have Ht := Lib.hid (show wb = true → (ns.take (j + 1)).all wantB = true from fun h => all_of_take wantB ns j x Hall.out Hx.out (by rw [HWb.out, h]))
        cases wb
        · have Hgo := Lib.hid (Hno.out wr (.inr (Hf.out rfl)) hb)
          clear Hf Ht
          go_wp2_with (go_at_call 40; refine (in_any _ _ _ _).mono ?_; rw [HWb'.out]; rintro e w' ⟨rfl, rfl⟩)
          exact Hgo.out
        · have Ht1 := Lib.hid (Ht.out rfl)
          clear Hf Ht
          go_wp2_with (go_at_call 40; refine (in_any _ _ _ _).mono ?_; rw [HWb'.out]; rintro e w' ⟨rfl, rfl⟩)
          exact ⟨⟨j + 1, by omega, by go_num, Ht1, hb⟩, by simp [intOf]; omega⟩
      · obtain rfl : n = j := by omega
        have h := Hall.out
        rw [List.take_of_length_le (by rw [Hn.out]; exact Nat.le_refl _)] at h
        have HA0 := Lib.hid h
        have HW := Lib.hid (List.all_eq_true.1 h)
        obtain ⟨t1, t2⟩ := sheets_top ⟨hW1, hW2⟩ ⟨hH1, hH2⟩
        have HA := Lib.hid (fun (j : Nat) => areaV_bd (ss.take j) (ns.take j) (fun s hs => ⟨(Hok.out s (List.mem_of_mem_take hs)).1, (Hok.out s (List.mem_of_mem_take hs)).2.1⟩) (fun x hx => by
          have := HW.out x (List.mem_of_mem_take hx)
          simp only [wantB, inB, Bool.and_eq_true, decide_eq_true_eq] at this
          exact this))
        clear h Hall
        go_wp2_with fail
        go_loopw [11, 12] (fun q i wr => ∃ (j : Nat) (a : Int), j ≤ n ∧ i = .int .i64 j ∧ q = .int .i64 a ∧ Hid (a = areaV (ss.take j) (ns.take j)) ∧ 0 ≤ a ∧ a ≤ 65536000000 ∧ Hid (fitAll W H (ss.take j) (ns.take j) = true) ∧ Below w.heap.size w wr) (fun _ i _ => n - (intOf i).toNat)
        case atStart => exact ⟨0, 0, Nat.zero_le _, rfl, rfl, Lib.hid (by simp [areaV]), by omega, by omega, Lib.hid (by simp [fitAll]), hb⟩
        case round =>
          clear hb
          obtain ⟨j, a, hj, rfl, rfl, Ha, ha0, ha1, Hf, hb⟩ := hrel
          by_cases hlt : j < n
          · obtain ⟨bA, oA, x, rfl, hblA, hx, e0⟩ := (hN.below hb).at1 hlt
            obtain ⟨b, o, s, rfl, hbl, hs, c0, c1, c2, c3⟩ := (hS.below hb).at4 (k := j) (by omega)
            obtain ⟨⟨a1, a2⟩, ⟨b1, b2⟩, v1, v2⟩ := Hok.out s (List.mem_of_getElem? hs)
            have hx1 := HW.out x (List.mem_of_getElem? hx)
            simp only [wantB, inB, Bool.and_eq_true, decide_eq_true_eq] at hx1
            obtain ⟨x1, x2⟩ := hx1
            obtain ⟨p1, p2⟩ := mul_bd (a := s.W) (b := s.H) (by omega) (by omega) a2 b2
            obtain ⟨p3, p4⟩ := mul_bd (b := x) p1 (by omega) p2 x2
            have HAN := Lib.hid (areaV_take ss ns j s x hs hx)
            have HFN := Lib.hid (fitAll_take W H ss ns j s x hs hx)
            have HFF := Lib.hid (fitAll_false W H ss ns j s x hs hx)
            have hA1 := HA.out (j + 1)
            rw [HAN.out, ← Ha.out] at hA1
            have hle : (ss.take (j + 1)).length ≤ 16 := by rw [List.length_take]; omega
            obtain ⟨q1, q2⟩ := hA1
            have q3 : a + s.W * s.H * x ≤ 65536000000 := by omega
            have Hs := Lib.hid hs
            have Hx := Lib.hid hx
            clear hs hx q2
            obtain ⟨fb, hfb⟩ : ∃ fb, fitsB W H s = fb := ⟨_, rfl⟩
            have HF := Lib.hid hfb
            clear hfb
            obtain ⟨wo, rfl⟩ : ∃ wo : World, wo = wr := ⟨_, rfl⟩
            have hFa := Lib.hid (show 0 < x → fb = false → fitAll W H ss ns = false from fun h1 h2 => HFF.out (by rw [HF.out, h2]; simp; omega))
            have HNx := Lib.hid (show (x ≤ 0 ∨ fb = true) → fitAll W H (ss.take (j + 1)) (ns.take (j + 1)) = true from fun h => by rw [HFN.out, Hf.out, HF.out]; rcases h with h | h <;> simp [h])
            have Hend := Lib.hid (show ∀ a', a' = a + s.W * s.H * x → a' = areaV (ss.take (j + 1)) (ns.take (j + 1)) ∧ 0 ≤ a' ∧ a' ≤ 65536000000 from fun a' h => by rw [HAN.out, h, ← Ha.out]; exact ⟨rfl, q1, q3⟩)
            clear HFN HFF Hf HAN Ha
            by_cases hx0 : 0 < x
            · cases fb
              · have Hgo := Lib.hid (fun W' => Hfit.out W' Hnm.out HA0.out (hFa.out hx0 rfl))
                clear hFa HNx Hend
                go_wp2_with (go_at_call 45; refine (refFits_any W H s _).mono ?_; rw [HF.out]; rintro e w2 ⟨rfl, hb2⟩)
                exact Hgo.out _ (hb.trans (hb2.mono hb.size))
              · clear hFa
                go_wp2_with (go_at_call 45; refine (refFits_any W H s _).mono ?_; rw [HF.out]; rintro e w2 ⟨rfl, hb2⟩; have d0 := (hb2.cell (p := ⟨b, _, none⟩) hbl).trans c0; have d1 := (hb2.cell (p := ⟨b, _, none⟩) hbl).trans c1; have d2 := (hb2.cell (p := ⟨bA, _, none⟩) hblA).trans e0; clear c0 c1 c2 c3 e0)
                have i1 : (j : Int) < (m : Int) := by omega
                have i2 : (j : Int) < (n : Int) := by omega
                have y1 : IntKind.i64.wrap (s.W * s.H) = s.W * s.H := IntWalk.i64_in _ (by omega)
                have y2 : IntKind.i64.wrap (s.W * s.H * x) = s.W * s.H * x := IntWalk.i64_in _ (by omega)
                have y3 : IntKind.i64.wrap (a + s.W * s.H * x) = a + s.W * s.H * x := IntWalk.i64_in _ (by omega)
                go_quiet (fail)
                clear y1 y2 y3
                go_wp2
                obtain ⟨z1, z2, z3⟩ := Hend.out _ rfl
                exact ⟨⟨j + 1, _, by omega, by go_num, rfl, Lib.hid z1, z2, z3, Lib.hid (HNx.out (by simp)), below_drewN (hb.trans (hb2.mono hb.size)) _⟩, by simp [intOf]; omega⟩
            · have hx00 : x ≤ 0 := by omega
              clear hFa HF
              go_wp2_with fail
              have i1 : (j : Int) < (m : Int) := by omega
              have i2 : (j : Int) < (n : Int) := by omega
              have y1 : IntKind.i64.wrap (s.W * s.H) = s.W * s.H := IntWalk.i64_in _ (by omega)
              have y2 : IntKind.i64.wrap (s.W * s.H * x) = s.W * s.H * x := IntWalk.i64_in _ (by omega)
              have y3 : IntKind.i64.wrap (a + s.W * s.H * x) = a + s.W * s.H * x := IntWalk.i64_in _ (by omega)
              go_quiet (fail)
              clear y1 y2 y3
              go_wp2
              obtain ⟨z1, z2, z3⟩ := Hend.out _ rfl
              exact ⟨⟨j + 1, _, by omega, by go_num, rfl, Lib.hid z1, z2, z3, Lib.hid (HNx.out (.inl hx00)), below_drewN hb _⟩, by simp [intOf]; omega⟩
          · obtain rfl : n = j := by omega
            have ha := Ha.out
            have hf := Hf.out
            have e1 : ss.take n = ss := List.take_of_length_le (by rw [← Hm.out, ← Hnm.out]; exact Nat.le_refl _)
            have e2 : ns.take n = ns := List.take_of_length_le (by rw [← Hn.out]; exact Nat.le_refl _)
            rw [e1, e2] at ha hf
            have Hgo := Lib.hid (fun v h => Hyes.out wr v Hnm.out HA0.out hf h hb)
            rw [← ha] at Hgo
            clear ha hf Ha Hf e1 e2
            go_wp2
            exact Hgo.out _ rfl
  · have hb0 : ((n : Int) != (m : Int)) = true := by simp; omega
    have Hgo := Lib.hid (Hno.out w (.inl hnm) (Below.refl _ _))
    clear hnm
    go_enter Try.func27, Try.ntmps27
    go_wp2
    exact Hgo.out
end Go.Proofs.Ytfkpioibinpfhaa
