/-
  The contract of clavecinlaw03.TemperTones (true at every input) and the statement, proved.
-/
import Derived.Test.YtojbldoekalbnaaGreatNSx
import Derived.Test.YtojbldoekalbnaaGreatTCut
import Derived.Test.YtojbldoekalbnaaGreatRows
import Derived.Test.YtojbldoekalbnaaGreatTOpen
namespace Go.Proofs.YtojbldoekalbnaaGreat
section
open Go.RowKit
theorem own_cap' {W : World} {base e sz n c : Nat} {A : Option Addr} {xs : List Value} (h : W.ownsRow base e sz (.slice A n c) n xs) : n ≤ c ∧ c ≤ 9223372036854775807 := by
  obtain ⟨A2, c2, e, h1, h2, _⟩ := own_slice h
  injection e with _ _ e3
  unfold maxLen at h2
  omega
set_option maxRecDepth 16000 in
set_option maxHeartbeats 4000000 in
theorem tonesLaw_any (A : Option Addr) (n c : Nat) (l : List Int) (u : Int) (w : World) (hS : SlE intE 1 w A n l) (hnc : n ≤ c) (hc : c ≤ 9223372036854775807) :
    Calls Tryz.prog 4 #[.slice A n c, .int .i64 u] w fun e w' => e = .returned (.bool true) ∧ Below w.heap.size w w' := by
  refine calls_cps ?_
  intro R hR
  have HR := Lib.hid (show ∀ W, Below w.heap.size w W → R (.returned (.bool true)) W from fun W h => hR.out _ _ ⟨rfl, h⟩)
  have Hcut := Lib.hid (cut_own A n c l 30 30 rfl (by omega) w hS hnc hc)
  obtain ⟨q, hq⟩ : ∃ q, l.take 30 = q := ⟨_, rfl⟩
  rw [hq] at Hcut
  have hk0 : q.length ≤ 30 := by rw [← hq, List.length_take]; omega
  obtain ⟨k, hk⟩ : ∃ k, q.length = k := ⟨_, rfl⟩
  rw [hk] at Hcut hk0
  have Hk := Lib.hid hk
  clear hR hq hk
  go_enter Tryz.func4, Tryz.ntmps4
  go_upto_region 2 with ((with_reducible refine Hcut.out.mono ?_); rintro e w1 ⟨A1, c1, rfl, ho1, hb1⟩)
  obtain ⟨of2, of3⟩ := own_cap' ho1
  have Hs1 := Lib.hid (SlE.of_own ho1 Hk.out.symm)
  have Hb1 := Lib.hid hb1
  have hk9 : k ≤ 9223372036854775807 := by omega
  clear ho1 hb1
  have Hcl := Lib.hid (fun W h => closes_any A1 k c1 q u W h hk9)
  have Hmay := Lib.hid (fun W h => rmay_any A1 k c1 q u W h hk9)
  have Hton := Lib.hid (fun W h => rtones_any A1 k c1 q u W h)
  have Hrcl := Lib.hid (fun W h => rcloses_any A1 k c1 q u W h)
  have Hpt := Lib.hid (fun W h => tones_any A1 k c1 q u W h of2 of3)
  cases hr : rightB q u with
  | false =>
    rw [hr] at Hcl Hmay
    replace Hcl := Lib.hid (show ∀ W, SlE intE 1 W A1 k q → Calls Tryz.prog 14 #[.slice A1 k c1, .int .i64 u] W fun e w' => e = .returned (.tuple #[.bool false, .int .i64 1]) ∧ W = w' from fun W h => (Hcl.out W h).mono fun e w' h2 => by simpa using h2)
    have Hr := Lib.hid hr
    clear hr
    go_wp2_with (first
      | (go_at_call 9; (with_reducible refine (Hpt.out _ Hs1.out).mono ?_); (rintro e w2 ⟨hb2, ⟨-, rfl⟩ | ⟨hx, -, rfl⟩ | ⟨L, A2, n2, c2, hx, -, -, rfl, -⟩⟩; rotate_left; exact absurd (Hr.out.symm.trans hx) (by simp); exact absurd (Hr.out.symm.trans hx) (by simp)); have Hs2 := Lib.hid (Hs1.out.below hb2); have Hb2 := Lib.hid (Hb1.out.trans (hb2.mono Hb1.out.size)); clear hb2)
      | (go_at_call 14; (with_reducible refine (Hcl.out _ Hs2.out).mono ?_); rintro e w' ⟨rfl, hw⟩; subst hw)
      | (go_at_call 15; (with_reducible refine (Hmay.out _ Hs2.out).mono ?_); rintro e w' ⟨rfl, hw⟩; subst hw)
      | (go_at_call 10; (with_reducible refine (lives_any _).mono ?_); rintro e w3 ⟨rfl, hb3⟩; have Hb3 := Lib.hid (Hb2.out.trans (hb3.mono Hb2.out.size)); clear hb3))
    exact HR.out _ Hb3.out
  | true =>
    rw [hr] at Hcl Hmay
    obtain ⟨p, hp⟩ : ∃ p, closesB q u = p := ⟨_, rfl⟩
    rw [hp] at Hcl
    replace Hcl := Lib.hid (show ∀ W, SlE intE 1 W A1 k q → Calls Tryz.prog 14 #[.slice A1 k c1, .int .i64 u] W fun e w' => e = .returned (.tuple #[.bool p, .int .i64 0]) ∧ W = w' from fun W h => (Hcl.out W h).mono fun e w' h2 => by simpa using h2)
    replace Hrcl := Lib.hid (fun W h => Hrcl.out W h hr)
    rw [hp] at Hrcl
    replace Hton := Lib.hid (fun W h => Hton.out W h hr)
    have Hr := Lib.hid hr
    clear hr hp
    obtain ⟨T, hT⟩ : ∃ T, tonesF u tn0 q.dropLast = T := ⟨_, rfl⟩
    unfold TonesP at Hton Hpt
    rw [hT] at Hton Hpt
    clear hT
    cases T with
    | none =>
      replace Hpt := Lib.hid (show ∀ W, SlE intE 1 W A1 k q → Calls Tryz.prog 9 #[.slice A1 k c1, .int .i64 u] W fun e w' => e = .returned (.tuple #[.slice none 0 0, .int .i64 5]) ∧ Below W.heap.size W w' from fun W h => (Hpt.out W h).mono fun e w' h2 => by
        obtain ⟨hb, ⟨hx, -⟩ | ⟨-, -, rfl⟩ | ⟨L, A2, n2, c2, -, hx, -⟩⟩ := h2
        · exact absurd (Hr.out.symm.trans hx) (by simp)
        · exact ⟨rfl, hb⟩
        · exact absurd hx (by simp))
      replace Hton := Lib.hid (show ∀ W, SlE intE 1 W A1 k q → Calls Tryz.prog 16 #[.slice A1 k c1, .int .i64 u] W fun e w' => e = .returned (.tuple #[.slice none 0 0, .int .i64 5]) ∧ Below W.heap.size W w' from fun W h => (Hton.out W h).mono fun e w' h2 => by
        obtain ⟨hb, ⟨hx, -⟩ | ⟨-, -, rfl⟩ | ⟨L, A2, n2, c2, -, hx, -⟩⟩ := h2
        · exact absurd (Hr.out.symm.trans hx) (by simp)
        · exact ⟨rfl, hb⟩
        · exact absurd hx (by simp))
      go_upto_region 7 with (first
        | (go_at_call 9; (with_reducible refine (Hpt.out _ Hs1.out).mono ?_); rintro e w2 ⟨rfl, hb2⟩; have Hs2 := Lib.hid (Hs1.out.below hb2); have Hb2 := Lib.hid (Hb1.out.trans (hb2.mono Hb1.out.size)); clear hb2)
        | (go_at_call 14; (with_reducible refine (Hcl.out _ Hs2.out).mono ?_); rintro e w' ⟨rfl, hw⟩; subst hw)
        | (go_at_call 15; (with_reducible refine (Hmay.out _ Hs2.out).mono ?_); rintro e w' ⟨rfl, hw⟩; subst hw)
        | (go_at_call 16; (with_reducible refine (Hton.out _ Hs2.out).mono ?_); rintro e w3 ⟨rfl, hb3⟩; have Hs3 := Lib.hid (Hs2.out.below hb3); have Hb3 := Lib.hid (Hb2.out.trans (hb3.mono Hb2.out.size)); clear hb3))
      cases p
      all_goals
        go_wp2_with (first
          | (go_at_call 17; (with_reducible refine (Hrcl.out _ Hs3.out).mono ?_); rintro e w' ⟨rfl, hw⟩; subst hw)
          | (go_at_call 10; (with_reducible refine (lives_any _).mono ?_); rintro e w4 ⟨rfl, hb4⟩; have Hb4 := Lib.hid (Hb3.out.trans (hb4.mono Hb3.out.size)); clear hb4))
        go_loopw [12] (fun s12 wr => s12 = .int .i64 0 ∧ wr = w4) (fun _ _ => 0)
        case atStart => exact ⟨rfl, rfl⟩
        case round =>
          obtain ⟨rfl, rfl⟩ := hrel
          go_wp2_with fail
          exact HR.out _ Hb4.out
    | some L =>
      replace Hpt := Lib.hid (show ∀ W, SlE intE 1 W A1 k q → Calls Tryz.prog 9 #[.slice A1 k c1, .int .i64 u] W fun e w' => ∃ A2 c2, e = .returned (.tuple #[.slice A2 (L.length + 1) c2, .int .i64 0]) ∧ SlE tnE 4 w' A2 (L.length + 1) (tn0 :: L) ∧ L.length + 1 ≤ 9223372036854775807 ∧ Below W.heap.size W w' from fun W h => (Hpt.out W h).mono fun e w' h2 => by
        obtain ⟨hb, ⟨hx, -⟩ | ⟨-, hx, -⟩ | ⟨L2, A2, n2, c2, -, hx, hn, rfl, ho⟩⟩ := h2
        · exact absurd (Hr.out.symm.trans hx) (by simp)
        · exact absurd hx (by simp)
        · obtain rfl := Option.some.inj hx
          subst hn
          exact ⟨A2, c2, rfl, SlE.of_own ho (by simp), by have := own_cap' ho; omega, hb⟩)
      replace Hton := Lib.hid (show ∀ W, SlE intE 1 W A1 k q → Calls Tryz.prog 16 #[.slice A1 k c1, .int .i64 u] W fun e w' => ∃ A2 c2, e = .returned (.tuple #[.slice A2 (L.length + 1) c2, .int .i64 0]) ∧ SlE tnE 4 w' A2 (L.length + 1) (tn0 :: L) ∧ L.length + 1 ≤ 9223372036854775807 ∧ Below W.heap.size W w' from fun W h => (Hton.out W h).mono fun e w' h2 => by
        obtain ⟨hb, ⟨hx, -⟩ | ⟨-, hx, -⟩ | ⟨L2, A2, n2, c2, -, hx, hn, rfl, ho⟩⟩ := h2
        · exact absurd (Hr.out.symm.trans hx) (by simp)
        · exact absurd hx (by simp)
        · obtain rfl := Option.some.inj hx
          subst hn
          exact ⟨A2, c2, rfl, SlE.of_own ho (by simp), by have := own_cap' ho; omega, hb⟩)
      obtain ⟨m, hm⟩ : ∃ m, L.length + 1 = m := ⟨_, rfl⟩
      rw [hm] at Hpt Hton
      have hm1 : 1 ≤ m := by omega
      clear hm
      go_upto_region 7 with (first
        | (go_at_call 9; (with_reducible refine (Hpt.out _ Hs1.out).mono ?_); rintro e w2 ⟨A2, c2, rfl, hL2, hm9, hb2⟩; have Hs2 := Lib.hid (And.intro (Hs1.out.below hb2) hL2); have Hb2 := Lib.hid (Hb1.out.trans (hb2.mono Hb1.out.size)); clear hb2 hL2)
        | (go_at_call 14; (with_reducible refine (Hcl.out _ Hs2.out.1).mono ?_); rintro e w' ⟨rfl, hw⟩; subst hw)
        | (go_at_call 15; (with_reducible refine (Hmay.out _ Hs2.out.1).mono ?_); rintro e w' ⟨rfl, hw⟩; subst hw)
        | (go_at_call 16; (with_reducible refine (Hton.out _ Hs2.out.1).mono ?_); rintro e w3 ⟨A3, c3, rfl, hL3, -, hb3⟩; have Hs3 := Lib.hid (And.intro (Hs2.out.1.below hb3) (And.intro (Hs2.out.2.below hb3) hL3)); have Hb3 := Lib.hid (Hb2.out.trans (hb3.mono Hb2.out.size)); clear hb3 hL3))
      cases p
      all_goals
        go_wp2_with (first
          | (go_at_call 17; (with_reducible refine (Hrcl.out _ Hs3.out.1).mono ?_); rintro e w' ⟨rfl, hw⟩; subst hw)
          | (go_at_call 10; (with_reducible refine (lives_any _).mono ?_); rintro e w4 ⟨rfl, hb4⟩; have Hb4 := Lib.hid (Hb3.out.trans (hb4.mono Hb3.out.size)); have Hs4 := Lib.hid (And.intro (Hs3.out.2.1.below hb4) (Hs3.out.2.2.below hb4)); clear hb4))
        go_loopw [12] (fun s12 wr => ∃ i : Nat, s12 = .int .i64 (i : Nat) ∧ i ≤ m ∧ Hid (Below w4.heap.size w4 wr)) (fun s12 _ => m - (intOf s12).toNat)
        case atStart => exact ⟨0, rfl, Nat.zero_le _, Lib.hid (Below.refl _ _)⟩
        case round =>
          obtain ⟨i, rfl, hi, HW⟩ := hrel
          by_cases hlt : i < m
          · have j1 : (i : Int) < (m : Int) := by omega
            have j0 : (0 : Int) ≤ (i : Int) := by omega
            obtain ⟨b2, o2, t, e2, hbl2, ht, p0, p1, p2, p3⟩ := (Hs4.out.1.below HW.out).at4' (k := i) hlt
            obtain ⟨b3, o3, t', e3, hbl3, ht', r0, r1, r2, r3⟩ := (Hs4.out.2.below HW.out).at4' (k := i) hlt
            rw [ht] at ht'
            obtain rfl := Option.some.inj ht'
            subst e2 e3
            clear ht ht'
            obtain ⟨t1, t2, t3, t4⟩ := t
            dsimp only at p0 p1 p2 p3 r0 r1 r2 r3
            go_upto_region 12 with fail
            go_quiet (fail)
            go_wp2_with fail
            exact ⟨⟨i + 1, by go_num, by omega, Lib.hid (below_drewN HW.out _)⟩, by simp [intOf]; omega⟩
          · obtain rfl : i = m := by omega
            have Hf := Lib.hid (HR.out wr (Hb4.out.trans (HW.out.mono Hb4.out.size)))
            go_wp2_with fail
            exact Hf.out
end
section
open Go.ChangeShapes Go.WideShapes Go.ChangeAt Go.RowKit

theorem Tryz.own : ownKnob Tryz.prog.godebug = none := by kernel_rfl
theorem Tryz.laidOut : laidOutB Tryz.prog = true := by kernel_rfl

set_option maxHeartbeats 800000 in
set_option maxRecDepth 100000 in
theorem temperTones_lifted (os : Os) (started : os.Started) (H : Type) (enc : TypeId × Value → H) :
    ReturnsInHanded {} Tryz.checked os 4 .any (Rows.temperTonesSpec.pre6 enc Tryz.prog Tryz.f4 Rows.temperTonesRow.domain false) (Rows.temperTonesSpec.post enc Tryz.prog Tryz.f4 false true false false) := by
  refine returnsInHanded_of_change (C := Tryz.checked) Tryz.own started (by kernel_rfl) Tryz.func4
    (ChangeSpec.witness6 (enc := enc) (C := Tryz.checked) false ⟨#[], #[.slice none 0 0, .int .i64 0], []⟩ 8 (by kernel_rfl) (by kernel_rfl) (by kernel_rfl) (by kernel_rfl)) ?_
  intro W base args ds gs before hval0 hW _ _
  have hval : ∀ (j : Nat) t v, Tryz.f4.params[j]? = some t → args[j]? = some v → Value.okWide Tryz.prog W .any base t v := hval0
  have hW' := hW
  obtain ⟨p, q, hA0, hV, rfl, _, _⟩ := hW
  have hA : DataW.TrodAll enc Tryz.prog W 0 (fun _ => true) true Tryz.f4.params.toList args.toList ds p := hA0
  rw [Tryz.params4] at hA hval
  obtain ⟨v0, v1, d0, d1, p0, p1, rfl, rfl, rfl, h0, h1⟩ := trodAll_two hA
  obtain ⟨rfl, rfl⟩ := trodVars_none hV
  clear hA0 hval0
  simp only [List.append_nil] at hW'
  have hlt : ∀ x ∈ p0 ++ p1, x.block < W.heap.size := fun x hx => hW'.lt x hx
  obtain ⟨A0, n0, c0, l0, rfl, hnc0, hc0, hS0⟩ := open_intsE (hval 0 22 v0 rfl rfl) h0
  obtain ⟨x1, rfl, _, _, wf1⟩ := open_int Tryz.underlying3 (hval 1 3 v1 rfl rfl) h1
  refine (tonesLaw_any A0 n0 c0 l0 x1 W hS0 hnc0 hc0).mono fun e W' ⟨he, hb⟩ => ?_
  subst he
  refine ⟨_, rfl, _, _, _, [], _, [], hW', ?_, trodAll_mk2 (Below.trod Tryz.laidOut (by kernel_rfl) (of_decide_eq_true (by kernel_rfl)) h0 hb (fun x hx => hlt x (by simp [hx]))) (Below.trod Tryz.laidOut (by kernel_rfl) (of_decide_eq_true (by kernel_rfl)) h1 hb (fun x hx => hlt x (by simp [hx]))), rfl, hb.frame _, fun h => by cases h⟩
  exact trodAll_mk1 (shut_bool Tryz.underlying4 _)

theorem temperTones_holds : Rows.TemperTonesSaid :=
  OpenClaim.holds_of_wide 4 Tryz.f4 rfl rfl rfl rfl rfl rfl rfl ⟨rfl, rfl, rfl, rfl, rfl⟩ rfl rfl rfl rfl rfl (by kernel_rfl) Tryz.func4 (by kernel_rfl)
    (of_decide_eq_true (by kernel_rfl)) (by unfold Func.isWrapper; rw [if_neg (by decide +kernel)]; exact ⟨rfl, rfl⟩)
    (fun os started H enc _ => temperTones_lifted os started H enc)
end
end Go.Proofs.YtojbldoekalbnaaGreat
