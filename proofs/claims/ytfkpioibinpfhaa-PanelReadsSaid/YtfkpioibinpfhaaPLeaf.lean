/-
  Contracts of the small functions of the panel: in, within, both Checks, as, part; no condition but those that each contract states.
-/
import Derived.Test.YtfkpioibinpfhaaPMem
namespace Go.Proofs.Ytfkpioibinpfhaa
open Go.RowKit

set_option maxHeartbeats 400000 in
theorem in_any (v lo hi : Int) (w : World) :
    Calls Try.prog 40 #[.int .i64 v, .int .i64 lo, .int .i64 hi] w fun e w' => e = .returned (.bool (inB v lo hi)) ∧ w = w' := by
  unfold inB
  by_cases h1 : lo ≤ v <;> by_cases h2 : v ≤ hi
  all_goals
    go_enter Try.func40, Try.ntmps40
    go_wp2
    go_ret
    exact ⟨by simp [*], rfl⟩
set_option maxHeartbeats 400000 in
theorem within_any (v hi : Int) (w : World) :
    Calls Try.prog 42 #[.int .i64 v, .int .i64 hi] w fun e w' => e = .returned (.bool (inB v 1 hi)) ∧ w = w' := by
  unfold inB
  by_cases h1 : 1 ≤ v <;> by_cases h2 : v ≤ hi
  all_goals
    go_enter Try.func42, Try.ntmps42
    go_wp2
    go_ret
    exact ⟨by simp [*], rfl⟩
set_option maxHeartbeats 1000000 in
theorem refCheck_any (W H K : Int) (A : Option Addr) (n c : Nat) (ss : List Shp) (w : World) (hS : SlE Shp.enc 4 w A n ss) (hn : n ≤ 9223372036854775807) :
    Calls Try.prog 17 #[.int .i64 W, .int .i64 H, .int .i64 K, .slice A n c] w fun e w' => e = .returned (.int .i64 (if panOk W H K ss then 0 else 1)) ∧ Below w.heap.size w w' := by
  refine calls_cps ?_
  intro R hR
  have hP : Hid (panOk W H K ss = (inB W 1 64 && inB H 1 64 && inB K 0 8 && decide (n ≤ 16) && ss.all shpOk)) := by rw [hS.1]; rfl
  have hL := Lib.hid hS.1
  go_enter Try.func17, Try.ntmps17
  go_wp2_with (first | (go_at_call 40; refine (in_any _ _ _ _).mono ?_; rintro e w' ⟨rfl, rfl⟩))
  · have h4 : (n : Int) > 16 := by assumption
    refine hR.out _ _ ⟨ret_int (a := 1) ?_, Below.refl _ _⟩
    rw [hP.out, if_neg]
    simp
    omega
  · have h1 : inB W 1 64 = true := by assumption
    have h2 : inB H 1 64 = true := by assumption
    have h3 : inB K 0 8 = true := by assumption
    have h4 : (n : Int) ≤ 16 := by assumption
    have HB := Lib.hid (show (inB W 1 64 && inB H 1 64 && inB K 0 8 && decide (n ≤ 16)) = true by simp [h1, h2, h3]; omega)
    clear h1 h2 h3
    go_loopw [9, 10] (fun i _ wr => ∃ k : Nat, k ≤ n ∧ i = .int .i64 k ∧ Below w.heap.size w wr ∧ (ss.take k).all shpOk = true) (fun i _ _ => n - (intOf i).toNat)
    case atStart => exact ⟨0, Nat.zero_le _, rfl, Below.refl _ _, by simp⟩
    case round =>
      obtain ⟨k, hk, rfl, hb, hall⟩ := hrel
      have Hall := Lib.hid hall
      clear hall
      by_cases hlt : k < n
      · obtain ⟨b, o, s, rfl, hbl, hs, c0, c1, c2, c3⟩ := (hS.below hb).at4 hlt
        have Hs := Lib.hid hs
        clear hs
        have hno : ∀ W', shpOk s = false → Below w.heap.size w W' → R (.returned (.int .i64 1)) W' := fun W' h hbw => hR.out _ _ ⟨ret_int (by rw [hP.out, all_false_of shpOk ss k s Hs.out h, if_neg]; simp), hbw⟩
        have Hno := Lib.hid hno
        clear hno
        go_wp2_with (first | (go_at_call 40; refine (in_any _ _ _ _).mono ?_; rintro e w' ⟨rfl, rfl⟩))
        case roundEnd =>
          have hok : shpOk s = true := by simp_all [shpOk]
          exact ⟨⟨k + 1, by omega, by go_num, hb.alloc hb.size _, all_of_take shpOk ss k s Hall.out Hs.out hok⟩, by simp [intOf]; omega⟩
        all_goals exact Hno.out _ (by simp_all [shpOk]) (hb.alloc hb.size _)
      · obtain rfl : k = n := by omega
        go_wp2
        refine hR.out _ _ ⟨ret_int (a := 0) ?_, hb⟩
        have h := Hall.out
        rw [List.take_of_length_le (by rw [hL.out]; exact Nat.le_refl _)] at h
        rw [hP.out, HB.out, h]
        rfl
  all_goals
    refine hR.out _ _ ⟨ret_int (a := 1) ?_, Below.refl _ _⟩
    rw [hP.out, if_neg]
    simp_all
end Go.Proofs.Ytfkpioibinpfhaa
