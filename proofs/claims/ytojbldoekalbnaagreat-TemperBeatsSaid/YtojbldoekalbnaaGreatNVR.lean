/-
  The contract of clavecinlaw03.TemperBeats (true at every input) and the statement, proved.
-/
import Derived.Test.YtojbldoekalbnaaGreatNUa
import Derived.Test.YtojbldoekalbnaaGreatTCut
import Derived.Test.YtojbldoekalbnaaGreatRows
import Derived.Test.YtojbldoekalbnaaGreatTOpen
namespace Go.Proofs.YtojbldoekalbnaaGreat
section
open Go.RowKit
theorem open_u64 {v : Value} {Q R : Int → Prop} (h : ∃ n, v = .int .u64 n ∧ Q n ∧ R n ∧ (Lit.int .u64 n).wf = true) : ∃ x : Nat, v = .int .u64 (x : Nat) ∧ x < 18446744073709551616 := by
  obtain ⟨n, e, -, -, hw⟩ := h
  simp [Lit.wf, IntKind.min, IntKind.max, IntKind.signed, IntKind.bits] at hw
  exact ⟨n.toNat, by rw [e, Int.toNat_of_nonneg hw.1], by omega⟩
set_option maxHeartbeats 1000000 in
theorem freqs_same (A B : Option Addr) (n c d : Nat) (M : List Nat) (w : World) (h1 : SlE u64E 1 w A n M) (h2 : SlE u64E 1 w B n M) (_hn : n ≤ 9223372036854775807) :
    Calls Tryz.prog 20 #[.slice A n c, .slice B n d] w fun e w' => e = .returned (.bool true) ∧ Qt w w' := by
  refine calls_cps ?_
  intro R hR
  have HR := Lib.hid (show ∀ W', Qt w W' → R (.returned (.bool true)) W' from fun _ hq => hR.out _ _ ⟨rfl, hq⟩)
  clear hR
  go_enter Tryz.func20, Tryz.ntmps20
  go_wp2_with fail
  go_loopw [5] (fun i wr => ∃ (k : Nat), k ≤ n ∧ i = .int .i64 k ∧ Qt w wr) (fun i _ => n - (intOf i).toNat)
  case atStart => exact ⟨0, Nat.zero_le _, rfl, Qt.refl _⟩
  case round =>
    obtain ⟨k, hk, rfl, hq⟩ := hrel
    by_cases hlt : k < n
    · obtain ⟨b, o, s, e1, hbl, hs, q0⟩ := (hq.sl h1).atU hlt
      obtain ⟨b', o', t, e2, hbl', ht, r0⟩ := (hq.sl h2).atU hlt
      rw [hs] at ht
      obtain rfl := Option.some.inj ht
      subst e1 e2
      have i1 : (k : Int) < (n : Int) := by omega
      have i0 : (0 : Int) ≤ (k : Int) := by omega
      clear hs ht
      go_wp2_with fail
      go_quiet (fail)
      go_wp2_with fail
      exact ⟨⟨k + 1, by omega, by go_num, hq.step _⟩, by simp [intOf]; omega⟩
    · obtain rfl : n = k := by omega
      have Hf := Lib.hid (HR.out wr hq)
      go_wp2_with fail
      exact Hf.out
set_option maxRecDepth 16000 in
set_option maxHeartbeats 4000000 in
theorem beatsLaw_any (base : Nat) (A : Option Addr) (n c : Nat) (l : List Int) (u : Int) (w : World) (hbase : base < 18446744073709551616) (hS : SlE intE 1 w A n l) (hnc : n ≤ c) (hc : c ≤ 9223372036854775807) :
    Calls Tryz.prog 7 #[.int .u64 (base : Nat), .slice A n c, .int .i64 u] w fun e w' => e = .returned (.bool true) ∧ Below w.heap.size w w' := by
  refine calls_cps ?_
  intro R hR
  have HR := Lib.hid (show ∀ W, Below w.heap.size w W → R (.returned (.bool true)) W from fun W h => hR.out _ _ ⟨rfl, h⟩)
  have Hcut := Lib.hid (cut_own A n c l 30 30 rfl (by omega) w hS hnc hc)
  obtain ⟨q, hq⟩ : ∃ q, l.take 30 = q := ⟨_, rfl⟩
  rw [hq] at Hcut
  have hk0 : q.length ≤ 30 := by rw [← hq, List.length_take]; omega
  obtain ⟨k, hk⟩ : ∃ k, q.length = k := ⟨_, rfl⟩
  rw [hk] at Hcut hk0
  have Hk := Lib.hid hk
  clear hR hq hk
  go_enter Tryz.func7, Tryz.ntmps7
  go_upto_region 2 with ((with_reducible refine Hcut.out.mono ?_); rintro e w1 ⟨A1, c1, rfl, ho1, hb1⟩)
  obtain ⟨of2, of3⟩ := own_caps ho1
  have Hs1 := Lib.hid (SlE.of_own ho1 Hk.out.symm)
  have Hb1 := Lib.hid hb1
  have hk9 : k ≤ 9223372036854775807 := by omega
  clear ho1 hb1
  have Hmay := Lib.hid (fun W h => rmay_any A1 k c1 q u W h hk9)
  have Hton := Lib.hid (fun W h hr => rbeats_any base A1 k c1 q u W h hr hbase)
  have Hpt := Lib.hid (fun W h => beats_any base A1 k c1 q u W h of2 of3 hbase)
  unfold ToldP at Hpt
  obtain ⟨O, hO⟩ : ∃ O, toldO (beatsF base u) base q u = O := ⟨_, rfl⟩
  rw [hO] at Hton Hpt
  clear hO
  cases hr : rightB q u with
  | false =>
    rw [hr] at Hmay
    replace Hpt := Lib.hid (show ∀ W, SlE intE 1 W A1 k q → Calls Tryz.prog 21 #[.int .u64 (base : Nat), .slice A1 k c1, .int .i64 u] W fun e w' => e = .returned (.tuple #[.slice none 0 0, .int .i64 1]) ∧ Below W.heap.size W w' from fun W h => (Hpt.out W h).mono fun e w' h2 => by
      rcases h2 with ⟨-, he, hb⟩ | ⟨hx, -⟩
      · exact ⟨he, hb⟩
      · exact absurd (hr.symm.trans hx) (by simp))
    clear hr Hton
    go_wp2_with (first
      | (go_at_call 21; (with_reducible refine (Hpt.out _ Hs1.out).mono ?_); rintro e w2 ⟨rfl, hb2⟩; have Hs2 := Lib.hid (Hs1.out.below hb2); have Hb2 := Lib.hid (Hb1.out.trans (hb2.mono Hb1.out.size)); clear hb2)
      | (go_at_call 15; (with_reducible refine (Hmay.out _ Hs2.out).mono ?_); rintro e w' ⟨rfl, hw⟩; subst hw)
      | (go_at_call 10; (with_reducible refine (lives_any _).mono ?_); rintro e w3 ⟨rfl, hb3⟩; have Hb3 := Lib.hid (Hb2.out.trans (hb3.mono Hb2.out.size)); clear hb3))
    exact HR.out _ Hb3.out
  | true =>
    rw [hr] at Hmay
    replace Hton := Lib.hid (fun W h => Hton.out W h hr)
    replace Hpt := Lib.hid (show ∀ W, SlE intE 1 W A1 k q → Calls Tryz.prog 21 #[.int .u64 (base : Nat), .slice A1 k c1, .int .i64 u] W (OutP W O) from fun W h => (Hpt.out W h).mono fun e w' h2 => (by
      rcases h2 with ⟨hx, -⟩ | ⟨-, h2⟩
      · exact absurd (hr.symm.trans hx) (by simp)
      · exact h2))
    clear hr
    cases O with
    | error ce =>
      unfold OutP at Hton Hpt
      dsimp only at Hton Hpt
      have Hfr := Lib.hid (fun W => freqs_same none none 0 0 0 [] W ⟨rfl, by simp [Sl]⟩ ⟨rfl, by simp [Sl]⟩ (by omega))
      go_wp2_with (first
        | (go_at_call 21; (with_reducible refine (Hpt.out _ Hs1.out).mono ?_); rintro e w2 ⟨hb2, rfl⟩; have Hs2 := Lib.hid (Hs1.out.below hb2); have Hb2 := Lib.hid (Hb1.out.trans (hb2.mono Hb1.out.size)); clear hb2)
        | (go_at_call 15; (with_reducible refine (Hmay.out _ Hs2.out).mono ?_); rintro e w' ⟨rfl, hw⟩; subst hw)
        | (go_at_call 22; (with_reducible refine (Hton.out _ Hs2.out).mono ?_); rintro e w3 ⟨hb3, rfl⟩; have Hb3 := Lib.hid (Hb2.out.trans (hb3.mono Hb2.out.size)); clear hb3)
        | (go_at_call 20; (with_reducible refine (Hfr.out _).mono ?_); rintro e w4 ⟨rfl, hq4⟩; have Hb4 := Lib.hid (Hb3.out.trans (hq4.below.mono Hb3.out.size)); clear hq4)
        | (go_at_call 10; (with_reducible refine (lives_any _).mono ?_); rintro e w5 ⟨rfl, hb5⟩; have Hb5 := Lib.hid (Hb4.out.trans (hb5.mono Hb4.out.size)); clear hb5))
      exact HR.out _ Hb5.out
    | ok M =>
      unfold OutP at Hton Hpt
      dsimp only at Hton Hpt
      obtain ⟨m, hm⟩ : ∃ m, M.length = m := ⟨_, rfl⟩
      have Hm := Lib.hid hm
      rw [hm] at Hton Hpt
      clear hm
      go_wp2_with (first
        | (go_at_call 21; (with_reducible refine (Hpt.out _ Hs1.out).mono ?_); rintro e w2 ⟨hb2, A2, n2, c2, rfl, rfl, ho2⟩; have hn2 := own_caps ho2; obtain ⟨hn3, hn4⟩ := hn2; have Hs2 := Lib.hid (And.intro (Hs1.out.below hb2) (SlE.of_own (enc := u64E) ho2 Hm.out.symm)); have Hb2 := Lib.hid (Hb1.out.trans (hb2.mono Hb1.out.size)); clear hb2 ho2)
        | (go_at_call 15; (with_reducible refine (Hmay.out _ Hs2.out.1).mono ?_); rintro e w' ⟨rfl, hw⟩; subst hw)
        | (go_at_call 22; (with_reducible refine (Hton.out _ Hs2.out.1).mono ?_); rintro e w3 ⟨hb3, A3, n3, c3, rfl, rfl, ho3⟩; have Hs3 := Lib.hid (And.intro (Hs2.out.2.below hb3) (SlE.of_own (enc := u64E) ho3 Hm.out.symm)); have Hb3 := Lib.hid (Hb2.out.trans (hb3.mono Hb2.out.size)); clear hb3 ho3)
        | (go_at_call 20; (with_reducible refine (freqs_same _ _ _ _ _ M _ Hs3.out.1 Hs3.out.2 (by omega)).mono ?_); rintro e w4 ⟨rfl, hq4⟩; have Hb4 := Lib.hid (Hb3.out.trans (hq4.below.mono Hb3.out.size)); clear hq4)
        | (go_at_call 10; (with_reducible refine (lives_any _).mono ?_); rintro e w5 ⟨rfl, hb5⟩; have Hb5 := Lib.hid (Hb4.out.trans (hb5.mono Hb4.out.size)); clear hb5))
      exact HR.out _ Hb5.out
end
section
open Go.ChangeShapes Go.WideShapes Go.ChangeAt Go.RowKit

theorem Tryz.own : ownKnob Tryz.prog.godebug = none := by kernel_rfl
theorem Tryz.laidOut : laidOutB Tryz.prog = true := by kernel_rfl

set_option maxHeartbeats 800000 in
set_option maxRecDepth 100000 in
theorem temperBeats_lifted (os : Os) (started : os.Started) (H : Type) (enc : TypeId × Value → H) :
    ReturnsInHanded {} Tryz.checked os 7 .any (Rows.temperBeatsSpec.pre6 enc Tryz.prog Tryz.f7 Rows.temperBeatsRow.domain false) (Rows.temperBeatsSpec.post enc Tryz.prog Tryz.f7 false true false false) := by
  refine returnsInHanded_of_change (C := Tryz.checked) Tryz.own started (by kernel_rfl) Tryz.func7
    (ChangeSpec.witness6 (enc := enc) (C := Tryz.checked) false ⟨#[], #[.int .u64 0, .slice none 0 0, .int .i64 0], []⟩ 8 (by kernel_rfl) (by kernel_rfl) (by kernel_rfl) (by kernel_rfl)) ?_
  intro W base args ds gs before hval0 hW _ _
  have hval : ∀ (j : Nat) t v, Tryz.f7.params[j]? = some t → args[j]? = some v → Value.okWide Tryz.prog W .any base t v := hval0
  have hW' := hW
  obtain ⟨p, q, hA0, hV, rfl, _, _⟩ := hW
  have hA : DataW.TrodAll enc Tryz.prog W 0 (fun _ => true) true Tryz.f7.params.toList args.toList ds p := hA0
  rw [Tryz.params7] at hA hval
  obtain ⟨v0, v1, v2, d0, d1, d2, p0, p1, p2, rfl, rfl, rfl, h0, h1, h2⟩ := trodAll_three hA
  obtain ⟨rfl, rfl⟩ := trodVars_none hV
  clear hA0 hval0
  simp only [List.append_nil] at hW'
  have hlt : ∀ x ∈ p0 ++ p1 ++ p2, x.block < W.heap.size := fun x hx => hW'.lt x hx
  obtain ⟨x0, rfl, wf0⟩ := open_u64 (open_int Tryz.underlying39 (hval 0 39 v0 rfl rfl) h0)
  obtain ⟨A1, n1, c1, l1, rfl, hnc1, hc1, hS1⟩ := open_intsE (hval 1 22 v1 rfl rfl) h1
  obtain ⟨x2, rfl, _, _, wf2⟩ := open_int Tryz.underlying3 (hval 2 3 v2 rfl rfl) h2
  refine (beatsLaw_any x0 A1 n1 c1 l1 x2 W wf0 hS1 hnc1 hc1).mono fun e W' ⟨he, hb⟩ => ?_
  subst he
  refine ⟨_, rfl, _, _, _, [], _, [], hW', ?_, trodAll_mk3 (Below.trod Tryz.laidOut (by kernel_rfl) (of_decide_eq_true (by kernel_rfl)) h0 hb (fun x hx => hlt x (by simp [hx]))) (Below.trod Tryz.laidOut (by kernel_rfl) (of_decide_eq_true (by kernel_rfl)) h1 hb (fun x hx => hlt x (by simp [hx]))) (Below.trod Tryz.laidOut (by kernel_rfl) (of_decide_eq_true (by kernel_rfl)) h2 hb (fun x hx => hlt x (by simp [hx]))), rfl, hb.frame _, fun h => by cases h⟩
  exact trodAll_mk1 (shut_bool Tryz.underlying4 _)

theorem temperBeats_holds : Rows.TemperBeatsSaid :=
  OpenClaim.holds_of_wide 7 Tryz.f7 rfl rfl rfl rfl rfl rfl rfl ⟨rfl, rfl, rfl, rfl, rfl⟩ rfl rfl rfl rfl rfl (by kernel_rfl) Tryz.func7 (by kernel_rfl)
    (of_decide_eq_true (by kernel_rfl)) (by unfold Func.isWrapper; rw [if_neg (by decide +kernel)]; exact ⟨rfl, rfl⟩)
    (fun os started H enc _ => temperBeats_lifted os started H enc)
end
end Go.Proofs.YtojbldoekalbnaaGreat
