/-
  The law's freqs at two slices of one list, and the contract of clavecinlaw03.TemperScales: true at every input.
-/
import Derived.Test.YtojbldoekalbnaaGreatWSa
import Derived.Test.YtojbldoekalbnaaGreatTCut
namespace Go.Proofs.YtojbldoekalbnaaGreat
section
open Go.RowKit
theorem open_u64 {v : Value} {Q R : Int → Prop} (h : ∃ n, v = .int .u64 n ∧ Q n ∧ R n ∧ (Lit.int .u64 n).wf = true) : ∃ x : Nat, v = .int .u64 (x : Nat) ∧ x < 18446744073709551616 := by
  obtain ⟨n, e, -, -, hw⟩ := h
  simp [Lit.wf, IntKind.min, IntKind.max, IntKind.signed, IntKind.bits] at hw
  exact ⟨n.toNat, by rw [e, Int.toNat_of_nonneg hw.1], by omega⟩
set_option maxHeartbeats 1000000 in
theorem freqs_same (A B : Option Addr) (n c d : Nat) (M : List Nat) (w : World) (h1 : SlE u64E 1 w A n M) (h2 : SlE u64E 1 w B n M) (_hn : n ≤ 9223372036854775807) :
    Calls Tryz.prog 20 #[.slice A n c, .slice B n d] w fun e w' => e = .returned (.bool true) ∧ Qt w w' := by
  refine calls_cps ?_
  intro R hR
  have HR := Lib.hid (show ∀ W', Qt w W' → R (.returned (.bool true)) W' from fun _ hq => hR.out _ _ ⟨rfl, hq⟩)
  clear hR
  go_enter Tryz.func20, Tryz.ntmps20
  go_wp2_with fail
  go_loopw [5] (fun i wr => ∃ (k : Nat), k ≤ n ∧ i = .int .i64 k ∧ Qt w wr) (fun i _ => n - (intOf i).toNat)
  case atStart => exact ⟨0, Nat.zero_le _, rfl, Qt.refl _⟩
  case round =>
    obtain ⟨k, hk, rfl, hq⟩ := hrel
    by_cases hlt : k < n
    · obtain ⟨b, o, s, e1, hbl, hs, q0⟩ := (hq.sl h1).atU hlt
      obtain ⟨b', o', t, e2, hbl', ht, r0⟩ := (hq.sl h2).atU hlt
      rw [hs] at ht
      obtain rfl := Option.some.inj ht
      subst e1 e2
      have i1 : (k : Int) < (n : Int) := by omega
      have i0 : (0 : Int) ≤ (k : Int) := by omega
      clear hs ht
      go_wp2_with fail
      go_quiet (fail)
      go_wp2_with fail
      exact ⟨⟨k + 1, by omega, by go_num, hq.step _⟩, by simp [intOf]; omega⟩
    · obtain rfl : n = k := by omega
      have Hf := Lib.hid (HR.out wr hq)
      go_wp2_with fail
      exact Hf.out
set_option maxRecDepth 16000 in
set_option maxHeartbeats 4000000 in
theorem scalesLaw_any (base : Nat) (A : Option Addr) (n c : Nat) (l : List Int) (u : Int) (w : World) (hbase : base < 18446744073709551616) (hS : SlE intE 1 w A n l) (hnc : n ≤ c) (hc : c ≤ 9223372036854775807) :
    Calls Tryz.prog 5 #[.int .u64 (base : Nat), .slice A n c, .int .i64 u] w fun e w' => e = .returned (.bool true) ∧ Below w.heap.size w w' := by
  refine calls_cps ?_
  intro R hR
  have HR := Lib.hid (show ∀ W, Below w.heap.size w W → R (.returned (.bool true)) W from fun W h => hR.out _ _ ⟨rfl, h⟩)
  have Hcut := Lib.hid (cut_own A n c l 30 30 rfl (by omega) w hS hnc hc)
  obtain ⟨q, hq⟩ : ∃ q, l.take 30 = q := ⟨_, rfl⟩
  rw [hq] at Hcut
  have hk0 : q.length ≤ 30 := by rw [← hq, List.length_take]; omega
  obtain ⟨k, hk⟩ : ∃ k, q.length = k := ⟨_, rfl⟩
  rw [hk] at Hcut hk0
  have Hk := Lib.hid hk
  clear hR hq hk
  go_enter Tryz.func5, Tryz.ntmps5
  go_upto_region 2 with ((with_reducible refine Hcut.out.mono ?_); rintro e w1 ⟨A1, c1, rfl, ho1, hb1⟩)
  obtain ⟨of2, of3⟩ := own_caps ho1
  have Hs1 := Lib.hid (SlE.of_own ho1 Hk.out.symm)
  have Hb1 := Lib.hid hb1
  have hk9 : k ≤ 9223372036854775807 := by omega
  clear ho1 hb1
  have Hmay := Lib.hid (fun W h => rmay_any A1 k c1 q u W h hk9)
  have Hton := Lib.hid (fun W h hr => rscale_any base A1 k c1 q u W h hr hbase)
  have Hpt := Lib.hid (fun W h => scale_any base A1 k c1 q u W h of2 of3 hbase)
  unfold ToldR at Hpt
  obtain ⟨O, hO⟩ : ∃ O, toldO (scaleF base) base q u = O := ⟨_, rfl⟩
  rw [hO] at Hton Hpt
  clear hO
  cases hr : rightB q u with
  | false =>
    rw [hr] at Hmay
    replace Hpt := Lib.hid (show ∀ W, SlE intE 1 W A1 k q → Calls Tryz.prog 18 #[.int .u64 (base : Nat), .slice A1 k c1, .int .i64 u] W fun e w' => e = .returned (.tuple #[.slice none 0 0, .int .i64 1]) ∧ Below W.heap.size W w' from fun W h => (Hpt.out W h).mono fun e w' h2 => by
      rcases h2 with ⟨-, he, hb⟩ | ⟨hx, -⟩
      · exact ⟨he, hb⟩
      · exact absurd (hr.symm.trans hx) (by simp))
    clear hr Hton
    go_wp2_with (first
      | (go_at_call 18; (with_reducible refine (Hpt.out _ Hs1.out).mono ?_); rintro e w2 ⟨rfl, hb2⟩; have Hs2 := Lib.hid (Hs1.out.below hb2); have Hb2 := Lib.hid (Hb1.out.trans (hb2.mono Hb1.out.size)); clear hb2)
      | (go_at_call 15; (with_reducible refine (Hmay.out _ Hs2.out).mono ?_); rintro e w' ⟨rfl, hw⟩; subst hw)
      | (go_at_call 10; (with_reducible refine (lives_any _).mono ?_); rintro e w3 ⟨rfl, hb3⟩; have Hb3 := Lib.hid (Hb2.out.trans (hb3.mono Hb2.out.size)); clear hb3))
    exact HR.out _ Hb3.out
  | true =>
    rw [hr] at Hmay
    replace Hton := Lib.hid (fun W h => Hton.out W h hr)
    replace Hpt := Lib.hid (show ∀ W, SlE intE 1 W A1 k q → Calls Tryz.prog 18 #[.int .u64 (base : Nat), .slice A1 k c1, .int .i64 u] W (OutR W O) from fun W h => (Hpt.out W h).mono fun e w' h2 => (by
      rcases h2 with ⟨hx, -⟩ | ⟨-, h2⟩
      · exact absurd (hr.symm.trans hx) (by simp)
      · exact h2))
    clear hr
    cases O with
    | error ce =>
      unfold OutR at Hton Hpt
      dsimp only at Hton Hpt
      have Hfr := Lib.hid (fun W => freqs_same none none 0 0 0 [] W ⟨rfl, by simp [Sl]⟩ ⟨rfl, by simp [Sl]⟩ (by omega))
      go_wp2_with (first
        | (go_at_call 18; (with_reducible refine (Hpt.out _ Hs1.out).mono ?_); rintro e w2 ⟨hb2, rfl⟩; have Hs2 := Lib.hid (Hs1.out.below hb2); have Hb2 := Lib.hid (Hb1.out.trans (hb2.mono Hb1.out.size)); clear hb2)
        | (go_at_call 15; (with_reducible refine (Hmay.out _ Hs2.out).mono ?_); rintro e w' ⟨rfl, hw⟩; subst hw)
        | (go_at_call 19; (with_reducible refine (Hton.out _ Hs2.out).mono ?_); rintro e w3 ⟨hb3, rfl⟩; have Hb3 := Lib.hid (Hb2.out.trans (hb3.mono Hb2.out.size)); clear hb3)
        | (go_at_call 20; (with_reducible refine (Hfr.out _).mono ?_); rintro e w4 ⟨rfl, hq4⟩; have Hb4 := Lib.hid (Hb3.out.trans (hq4.below.mono Hb3.out.size)); clear hq4)
        | (go_at_call 10; (with_reducible refine (lives_any _).mono ?_); rintro e w5 ⟨rfl, hb5⟩; have Hb5 := Lib.hid (Hb4.out.trans (hb5.mono Hb4.out.size)); clear hb5))
      exact HR.out _ Hb5.out
    | ok M =>
      unfold OutR at Hton Hpt
      dsimp only at Hton Hpt
      obtain ⟨m, hm⟩ : ∃ m, M.length = m := ⟨_, rfl⟩
      have Hm := Lib.hid hm
      rw [hm] at Hton Hpt
      clear hm
      go_wp2_with (first
        | (go_at_call 18; (with_reducible refine (Hpt.out _ Hs1.out).mono ?_); rintro e w2 ⟨hb2, A2, n2, c2, rfl, hn3, hn4, rfl, ho2⟩; have Hs2 := Lib.hid (And.intro (Hs1.out.below hb2) ho2); have Hb2 := Lib.hid (Hb1.out.trans (hb2.mono Hb1.out.size)); clear hb2 ho2)
        | (go_at_call 15; (with_reducible refine (Hmay.out _ Hs2.out.1).mono ?_); rintro e w' ⟨rfl, hw⟩; subst hw)
        | (go_at_call 19; (with_reducible refine (Hton.out _ Hs2.out.1).mono ?_); rintro e w3 ⟨hb3, A3, n3, c3, rfl, -, -, rfl, ho3⟩; have Hs3 := Lib.hid (And.intro (Hs2.out.2.below hb3) ho3); have Hb3 := Lib.hid (Hb2.out.trans (hb3.mono Hb2.out.size)); clear hb3 ho3)
        | (go_at_call 20; (with_reducible refine (freqs_same _ _ _ _ _ M _ Hs3.out.1 Hs3.out.2 (by omega)).mono ?_); rintro e w4 ⟨rfl, hq4⟩; have Hb4 := Lib.hid (Hb3.out.trans (hq4.below.mono Hb3.out.size)); clear hq4)
        | (go_at_call 10; (with_reducible refine (lives_any _).mono ?_); rintro e w5 ⟨rfl, hb5⟩; have Hb5 := Lib.hid (Hb4.out.trans (hb5.mono Hb4.out.size)); clear hb5))
      exact HR.out _ Hb5.out
end
end Go.Proofs.YtojbldoekalbnaaGreat
