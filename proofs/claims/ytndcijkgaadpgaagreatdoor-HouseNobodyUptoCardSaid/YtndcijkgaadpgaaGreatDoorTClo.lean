/-
  Contracts of temper.right and temper.Closes: what they answer to any steps and units; the condition is that the slice reads as a list.
-/
import Derived.Test.YtndcijkgaadpgaaGreatDoorTLeaf
namespace Go.Proofs.YtndcijkgaadpgaaGreatDoor
open Go.RowKit
theorem sum_takeC (l : List Int) (k : Nat) (x : Int) (hx : l[k]? = some x) : (l.take (k + 1)).sum = (l.take k).sum + x := by
  obtain ⟨hk, rfl⟩ := List.getElem?_eq_some_iff.1 hx
  rw [List.take_succ_eq_append_getElem hk, List.sum_append]
  simp
def rightB (l : List Int) (u : Int) : Bool := l.all (fun x => inBT x (-12) 12) && (inBT (l.length : Int) 1 24 && inBT u 1 24)
set_option maxHeartbeats 2000000 in
theorem right_any (A : Option Addr) (n c : Nat) (l : List Int) (u : Int) (w : World) (hS : SlE intE 1 w A n l) (hn : n ≤ 9223372036854775807) :
    Calls Tryz.prog 210 #[.slice A n c, .int .i64 u] w fun e w' => e = .returned (.bool (rightB l u)) ∧ w = w' := by
  refine calls_cps ?_
  intro R hR
  have hL := Lib.hid hS.1
  have HR := Lib.hid (show ∀ b : Bool, b = (l.all (fun x => inBT x (-12) 12) && (inBT (n : Int) 1 24 && inBT u 1 24)) → R (.returned (.bool b)) w from fun b hb => hR.out _ _ ⟨by rw [hb]; unfold rightB; rw [hL.out], rfl⟩)
  clear hR
  go_enter Tryz.func210, Tryz.ntmps210
  go_upto_region 1 with fail
  go_wp2_with fail
  go_loopw [9] (fun i wr => ∃ k : Nat, k ≤ n ∧ i = .int .i64 k ∧ wr = w ∧ Hid ((l.take k).all (fun x => inBT x (-12) 12) = true)) (fun i _ => n - (intOf i).toNat)
  case atStart => exact ⟨0, Nat.zero_le _, rfl, rfl, Lib.hid (by simp)⟩
  case round =>
    obtain ⟨k, hk, rfl, rfl, Hall⟩ := hrel
    by_cases hlt : k < n
    · obtain ⟨b, o, x, rfl, hbl, hs, c0⟩ := hS.at1 hlt
      have Hs := Lib.hid hs
      clear hs
      go_wp2_with (first | (go_at_call 199; refine (withinT_any _ _ _ _).mono ?_; rintro e w' ⟨rfl, rfl⟩))
      · have hx : inBT x (-12) 12 = false := by simp_all
        refine HR.out _ ?_
        rw [all_false_ofT _ _ _ _ Hs.out hx]
        rfl
      case roundEnd =>
        have hx : inBT x (-12) 12 = true := by simp_all
        exact ⟨⟨k + 1, by omega, by go_num, by trivial, Lib.hid (all_of_takeT _ _ _ _ Hall.out Hs.out hx)⟩, by simp [intOf]; omega⟩
    · obtain rfl : k = n := by omega
      have h := Hall.out
      rw [List.take_of_length_le (by rw [hL.out]; exact Nat.le_refl _)] at h
      rw [h] at HR
      cases h1 : inBT (k : Int) 1 24
      all_goals
        have Hfin := Lib.hid (show ∀ b : Bool, b = (true && (inBT (k : Int) 1 24 && inBT u 1 24)) → R (.returned (.bool b)) _ from HR.out)
        rw [h1] at Hfin
        go_wp2_with (first | (go_at_call 199; refine (withinT_any _ _ _ _).mono ?_; rintro e w' ⟨rfl, rfl⟩; (try rw [h1])))
        exact Hfin.out _ (by simp)
/-- Whether all fifths together are whole octaves. -/
def closesB (l : List Int) (u : Int) : Bool := decide ((l.length : Int) * u - 12 * l.sum = 0) && decide (Int.tmod (19 * l.sum - (l.length : Int) * u) u = 0)
structure TwTh (l : List Int) (u : Int) (k : Nat) (X Y : Int) : Prop where
  two : X = 19 * (l.take k).sum - (k : Int) * u
  three : Y = (k : Int) * u - 12 * (l.take k).sum
theorem TwTh.step {l : List Int} {u : Int} {k : Nat} {X Y x : Int} (h : TwTh l u k X Y) (hx : l[k]? = some x) : TwTh l u (k + 1) (X + (19 * x - u)) (Y + (u - 12 * x)) := by
  have e : ((k + 1 : Nat) : Int) * u = (k : Int) * u + u := by rw [Int.natCast_add, Int.add_mul]; simp
  have h1 := h.two
  have h2 := h.three
  exact ⟨by rw [sum_takeC _ _ _ hx, e]; omega, by rw [sum_takeC _ _ _ hx, e]; omega⟩
set_option maxRecDepth 8000 in
set_option maxHeartbeats 4000000 in
theorem closes_any (A : Option Addr) (n c : Nat) (l : List Int) (u : Int) (w : World) (hS : SlE intE 1 w A n l) (hn : n ≤ 9223372036854775807) :
    Calls Tryz.prog 145 #[.slice A n c, .int .i64 u] w fun e w' => e = .returned (if rightB l u = true then .tuple #[.bool (closesB l u), .int .i64 0] else .tuple #[.bool false, .int .i64 1]) ∧ w = w' := by
  refine calls_cps ?_
  intro R hR
  have hL := Lib.hid hS.1
  have Hr := Lib.hid (right_any A n c l u w hS hn)
  cases hr : rightB l u
  · rw [hr] at Hr
    have Hf := Lib.hid (hR.out _ w ⟨rfl, rfl⟩)
    rw [hr] at Hf
    clear hR hr
    go_enter Tryz.func145, Tryz.ntmps145
    go_wp2_with (go_at_call 210; refine Hr.out.mono ?_; rintro e w1 ⟨rfl, rfl⟩)
    exact Hf.out
  · rw [hr] at Hr
    have hu : (∀ x ∈ l, -12 ≤ x ∧ x ≤ 12) ∧ (n : Int) ≤ 24 ∧ 1 ≤ u ∧ u ≤ 24 := by
      unfold rightB inBT at hr
      simp only [Bool.and_eq_true, decide_eq_true_eq, List.all_eq_true] at hr
      rw [hL.out]
      exact ⟨hr.1, hr.2.1.2, hr.2.2⟩
    obtain ⟨hx12, hn24, hu1, hu2⟩ := hu
    have Hx12 := Lib.hid hx12
    have HR := Lib.hid (show ∀ b : Bool, b = closesB l u → R (.returned (.tuple #[.bool b, .int .i64 0])) w from fun b hb => by
      have := hR.out (.returned (.tuple #[.bool (closesB l u), .int .i64 0])) w ⟨by simp [hr], rfl⟩
      rw [hb]; exact this)
    clear hR hr hx12
    go_enter Tryz.func145, Tryz.ntmps145
    go_wp2_with (go_at_call 210; refine Hr.out.mono ?_; rintro e w1 ⟨rfl, rfl⟩)
    go_loopw [6, 7, 16] (fun s6 s7 i wr => ∃ (k : Nat) (X Y : Int), k ≤ n ∧ i = .int .i64 k ∧ s6 = .int .i64 X ∧ s7 = .int .i64 Y ∧ wr = w ∧ -(252 * (k : Int)) ≤ X ∧ X ≤ 252 * (k : Int) ∧ -(168 * (k : Int)) ≤ Y ∧ Y ≤ 168 * (k : Int) ∧ Hid (TwTh l u k X Y)) (fun _ _ i _ => n - (intOf i).toNat)
    case atStart => exact ⟨0, 0, 0, Nat.zero_le _, rfl, rfl, rfl, rfl, by omega, by omega, by omega, by omega, Lib.hid ⟨by simp, by simp⟩⟩
    case round =>
      obtain ⟨k, X, Y, hk, rfl, rfl, rfl, rfl, hX1, hX2, hY1, hY2, HT⟩ := hrel
      by_cases hlt : k < n
      · obtain ⟨b, o, x, rfl, hbl, hs, c0⟩ := hS.at1 hlt
        have hx := Hx12.out x (List.mem_of_getElem? hs)
        have Hs := Lib.hid hs
        clear hs
        go_wp2_with fail
        exact ⟨⟨k + 1, _, _, by omega, by go_num, rfl, rfl, by trivial, by omega, by omega, by omega, by omega, Lib.hid (HT.out.step Hs.out)⟩, by simp [intOf]; omega⟩
      · obtain rfl : k = n := by omega
        have h1 := HT.out.two
        have h2 := HT.out.three
        rw [List.take_of_length_le (by rw [hL.out]; exact Nat.le_refl _)] at h1 h2
        have HF := Lib.hid (show ∀ b : Bool, b = (decide (Y = 0) && decide (Int.tmod X u = 0)) → R (.returned (.tuple #[.bool b, .int .i64 0])) wr from fun b hb => HR.out b (by rw [hb, h1, h2]; unfold closesB; rw [← hL.out]))
        obtain ⟨z, hz⟩ : ∃ z, Int.tmod X u = z := ⟨_, rfl⟩
        have hu0 : ¬ u = 0 := by omega
        rw [hz] at HF
        clear h1 h2 HR
        by_cases hY : Y = 0 <;> by_cases hZ : z = 0
        all_goals
          go_wp2_with fail
          exact HF.out _ (by simp [hY, hZ])
end Go.Proofs.YtndcijkgaadpgaaGreatDoor
