/-
  Contracts of the small functions of temper: in, within, weights; no condition but those that each contract states.
-/
import Derived.Test.YtndcijkgaadpgaaGreatDoorMMem
namespace Go.Proofs.YtndcijkgaadpgaaGreatDoor
open Go.RowKit
def inBT (v lo hi : Int) : Bool := decide (lo ≤ v) && decide (v ≤ hi)
theorem all_of_takeT {α : Type} (p : α → Bool) (l : List α) (k : Nat) (x : α) (h : (l.take k).all p = true) (hx : l[k]? = some x) (hp : p x = true) : (l.take (k + 1)).all p = true := by
  obtain ⟨hk, rfl⟩ := List.getElem?_eq_some_iff.1 hx
  rw [List.take_succ_eq_append_getElem hk, List.all_append, h]
  simp [hp]
theorem all_false_ofT {α : Type} (p : α → Bool) (l : List α) (k : Nat) (x : α) (hx : l[k]? = some x) (hp : p x = false) : l.all p = false := by
  rw [List.all_eq_false]
  exact ⟨x, List.mem_of_getElem? hx, by simp [hp]⟩
set_option maxHeartbeats 400000 in
theorem withinT_any (v lo hi : Int) (w : World) :
    Calls Tryz.prog 199 #[.int .i64 v, .int .i64 lo, .int .i64 hi] w fun e w' => e = .returned (.bool (inBT v lo hi)) ∧ w = w' := by
  unfold inBT
  by_cases h1 : lo ≤ v <;> by_cases h2 : v ≤ hi
  all_goals
    go_enter Tryz.func199, Tryz.ntmps199
    go_wp2
    go_ret
    exact ⟨by simp [*], rfl⟩
set_option maxHeartbeats 1000000 in
theorem weights_any (A : Option Addr) (n c : Nat) (l : List Int) (m : Int) (w : World) (hS : SlE intE 1 w A n l) (hn : n ≤ 9223372036854775807) :
    Calls Tryz.prog 200 #[.slice A n c, .int .i64 m] w fun e w' => e = .returned (.bool (l.all (fun x => inBT x 0 1000) && decide ((n : Int) = m))) ∧ w = w' := by
  refine calls_cps ?_
  intro R hR
  have hL := Lib.hid hS.1
  go_enter Tryz.func200, Tryz.ntmps200
  go_upto_region 1 with fail
  go_wp2_with fail
  go_loopw [9] (fun i wr => ∃ k : Nat, k ≤ n ∧ i = .int .i64 k ∧ wr = w ∧ Hid ((l.take k).all (fun x => inBT x 0 1000) = true)) (fun i _ => n - (intOf i).toNat)
  case atStart => exact ⟨0, Nat.zero_le _, rfl, rfl, Lib.hid (by simp)⟩
  case round =>
    obtain ⟨k, hk, rfl, rfl, Hall⟩ := hrel
    by_cases hlt : k < n
    · obtain ⟨b, o, x, rfl, hbl, hs, c0⟩ := hS.at1 hlt
      have Hs := Lib.hid hs
      clear hs
      go_wp2_with (first | (go_at_call 199; refine (withinT_any _ _ _ _).mono ?_; rintro e w' ⟨rfl, rfl⟩))
      · have hx : inBT x 0 1000 = false := by simp_all
        refine hR.out _ _ ⟨ret_bool ?_, rfl⟩
        rw [all_false_ofT _ _ _ _ Hs.out hx]
        rfl
      case roundEnd =>
        have hx : inBT x 0 1000 = true := by simp_all
        exact ⟨⟨k + 1, by omega, by go_num, by trivial, Lib.hid (all_of_takeT _ _ _ _ Hall.out Hs.out hx)⟩, by simp [intOf]; omega⟩
    · obtain rfl : k = n := by omega
      have h := Hall.out
      rw [List.take_of_length_le (by rw [hL.out]; exact Nat.le_refl _)] at h
      have Hfin := Lib.hid (show ∀ b : Bool, b = decide ((k : Int) = m) → R (.returned (.bool b)) _ from fun b hb' => hR.out _ _ ⟨ret_bool (by rw [h, hb']; rfl), rfl⟩)
      by_cases hm : (k : Int) = m
      all_goals
        go_wp2
        exact Hfin.out _ (by simp [hm])
end Go.Proofs.YtndcijkgaadpgaaGreatDoor
