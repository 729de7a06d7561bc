/-
  Contracts of the small functions of the panel: Check; no condition but those that each contract states.
-/
import Derived.Test.YtfkpioibinpfhaaPLeaf
namespace Go.Proofs.Ytfkpioibinpfhaa
open Go.RowKit

theorem take_all_succ {α : Type} (p : α → Bool) (l : List α) (k : Nat) (x : α) (hx : l[k]? = some x) : (l.take (k + 1)).all p = ((l.take k).all p && p x) := by
  obtain ⟨hk, rfl⟩ := List.getElem?_eq_some_iff.1 hx
  rw [List.take_succ_eq_append_getElem hk, List.all_append]
  simp
set_option maxHeartbeats 1000000 in
theorem check_any (W H K : Int) (A : Option Addr) (n c : Nat) (ss : List Shp) (w : World) (hS : SlE Shp.enc 4 w A n ss) (hn : n ≤ 9223372036854775807) :
    Calls Try.prog 22 #[.int .i64 W, .int .i64 H, .int .i64 K, .slice A n c] w fun e w' => e = .returned (.int .i64 (if panOk W H K ss then 0 else 1)) ∧ Below w.heap.size w w' := by
  refine calls_cps ?_
  intro R hR
  have hL := Lib.hid hS.1
  obtain ⟨B0, hB0⟩ : ∃ B0, (inB W 1 64 && inB H 1 64 && inB K 0 8 && decide (n ≤ 16)) = B0 := ⟨_, rfl⟩
  have hP : Hid (panOk W H K ss = (B0 && ss.all shpOk)) := by rw [← hB0, hS.1]; rfl
  have HB0 := Lib.hid hB0
  clear hB0
  go_enter Try.func22, Try.ntmps22
  go_upto_region 1 with fail
  go_cut [9] (fun s9 wx => s9 = .bool B0 ∧ wx = w)
  case first =>
    go_wp2_with (first | (go_at_call 42; refine (within_any _ _ _).mono ?_; rintro e w' ⟨rfl, rfl⟩))
    all_goals
      go_meet
      refine ⟨?_, rfl⟩
      rw [← HB0.out]
      simp_all [inB]
      try omega
  case rest =>
    obtain ⟨rfl, rfl⟩ := hcut
    go_wp2_with fail
    go_loopw [9, 33] (fun s i wr => ∃ (k : Nat) (bk : Bool), k ≤ n ∧ i = .int .i64 k ∧ s = .bool bk ∧ Hid (bk = (B0 && (ss.take k).all shpOk)) ∧ Below wc.heap.size wc wr) (fun _ i _ => n - (intOf i).toNat)
    case atStart => exact ⟨0, B0, Nat.zero_le _, rfl, rfl, Lib.hid (by simp), Below.refl _ _⟩
    case round =>
      obtain ⟨k, bk, hk, rfl, rfl, Hbk, hb⟩ := hrel
      by_cases hlt : k < n
      · obtain ⟨b, o, s, rfl, hbl, hs, c0, c1, c2, c3⟩ := (hS.below hb).at4 hlt
        have Hs := Lib.hid hs
        clear hs
        have Hn := Lib.hid (show ∀ b', b' = (bk && shpOk s) → b' = (B0 && (ss.take (k + 1)).all shpOk) from fun b' h => by rw [h, Hbk.out, take_all_succ shpOk ss k s Hs.out, Bool.and_assoc])
        cases bk
        all_goals
          go_wp2_with (first | (go_at_call 42; refine (within_any _ _ _).mono ?_; rintro e w' ⟨rfl, rfl⟩))
        all_goals
          go_roundw
          case rel => exact ⟨k + 1, _, by omega, by go_num, rfl, Lib.hid (Hn.out _ (by simp_all [shpOk, inB] <;> omega)), hb.alloc hb.size _⟩
          case measure => simp [intOf]; omega
      · obtain rfl : k = n := by omega
        have h := Hbk.out
        rw [List.take_of_length_le (by rw [hL.out]; exact Nat.le_refl _)] at h
        have Hfin := Lib.hid (show ∀ i W', i = (if bk then 0 else 1) → Below wc.heap.size wc W' → R (.returned (.int .i64 i)) W' from fun i W' h1 h2 => hR.out _ _ ⟨ret_int (by rw [h1, h, ← hP.out]), h2⟩)
        clear h Hbk
        cases bk
        all_goals
          go_wp2
          exact Hfin.out _ _ rfl hb
end Go.Proofs.Ytfkpioibinpfhaa
