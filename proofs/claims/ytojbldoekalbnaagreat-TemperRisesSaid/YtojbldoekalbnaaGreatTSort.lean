/-
  Contract of slices.SortStableFunc with kruskal's comparison; conditions: the numbers are links, at most nineteen of them, and of as light ones the one ahead has the lower number.
-/
import Derived.Test.YtojbldoekalbnaaGreatTRoot
namespace Go.Proofs.YtojbldoekalbnaaGreat
open Go.RowKit
theorem cmpv {bl : Nat} : (Value.func (.func 85) #[] #[.pointer (some ⟨bl, 0, none⟩)]) = (Value.func (.func 85) #[] #[.pointer (some ⟨bl, 0, none⟩)]) := rfl
set_option maxRecDepth 8000 in
set_option maxHeartbeats 4000000 in
theorem ins_none (bl N cap a : Nat) (A : Option Addr) (w : World) (ha : a ≤ 100000) :
    Calls Tryz.prog 155 #[.slice A N cap, .int .i64 (a : Nat), .int .i64 (a : Nat), .func (.func 85) #[] #[.pointer (some ⟨bl, 0, none⟩)]] w
      fun e w' => e = .returned (.tuple #[]) ∧ ∃ q, w' = w.drewN q := by
  refine calls_cps ?_
  intro R hR
  have Hf := Lib.hid (show ∀ q, R (.returned (.tuple #[])) (w.drewN q) from fun q => hR.out _ _ ⟨rfl, q, rfl⟩)
  clear hR
  have hlt : ¬ ((a : Int) + 1 < (a : Int)) := by omega
  have hu : IntKind.i64.wrap ((a : Int) + 1) = (a : Int) + 1 := IntWalk.i64_in _ (by omega)
  go_enter Tryz.func155, Tryz.ntmps155
  go_wp2_with fail
  go_loopw [8] (fun s8 wr => s8 = .int .i64 ((a : Int) + 1) ∧ wr = w) (fun _ _ => 0)
  case atStart => exact ⟨by go_num, rfl⟩
  case round =>
    obtain ⟨rfl, rfl⟩ := hrel
    go_wp2_with fail
    go_end0
    exact Hf.out 0
def SB : Nat := 19
set_option maxRecDepth 8000 in
set_option maxHeartbeats 4000000 in
theorem stb_any (L : List Lk) (A : Option Addr) (n c bl g N cap : Nat) (seg : List Int) (w : World) (hS : Srt w L A n c bl g) (hB : Blk w g seg) (hN : N = seg.length) (hNs : N ≤ SB) (hcap : N ≤ cap)
    (hv : ∀ x ∈ seg, 0 ≤ x ∧ x < n) (hst : Stb L seg) :
    Calls Tryz.prog 125 #[.slice (some ⟨g, 0, none⟩) N cap, .int .i64 (N : Nat), .func (.func 85) #[] #[.pointer (some ⟨bl, 0, none⟩)]] w
      fun e w' => e = .returned (.tuple #[]) ∧ ∃ r, Ris L r ∧ r.Perm seg ∧ Blk w' g r ∧ Kx (fun j => j = g) w w' := by
  refine calls_cps ?_
  intro R hR
  have hc : Calls Tryz.prog 155 #[.slice (some ⟨g, 0, none⟩) N cap, .int .i64 0, .int .i64 (N : Nat), .func (.func 85) #[] #[.pointer (some ⟨bl, 0, none⟩)]] w fun e w' => e = .returned (.tuple #[]) ∧ ∃ r, Ris L r ∧ r.Perm seg ∧ Blk w' g r ∧ Kx (fun j => j = g) w w' := by
    by_cases hs : seg = []
    · subst hs
      subst hN
      refine (ins_none bl 0 cap 0 _ w (by omega)).mono ?_
      rintro e w' ⟨h1, q, rfl⟩
      exact ⟨h1, [], List.Pairwise.nil, List.Perm.refl _, hB, (Kx.refl _ _).drewN q⟩
    · have := ins_any L A n c bl g N cap [] seg [] w hS (by simpa using hB) (by simpa using hN) (by unfold SB at hNs; omega) hcap hv hst hs
      simp only [List.nil_append, List.append_nil, List.length_nil, Nat.zero_add, ← hN] at this
      exact this
  have Hc := Lib.hid hc
  unfold SB at hNs
  have h20 : ¬ ((20 : Int) ≤ (N : Int)) := by omega
  have h21 : ¬ ((20 : Int) < (N : Int)) := by omega
  clear hS hB hN hv hst hc
  go_enter Tryz.func125, Tryz.ntmps125
  go_wp2_with fail
  go_loopw [7, 8] (fun s7 s8 wr => s7 = .int .i64 0 ∧ s8 = .int .i64 20 ∧ wr = w) (fun _ _ _ => 0)
  case atStart => exact ⟨rfl, rfl, rfl⟩
  case round =>
    obtain ⟨rfl, rfl, rfl⟩ := hrel
    go_wp2_with (go_at_call 155; refine Hc.out.mono ?_; rintro e w1 ⟨rfl, hq⟩)
    have Hf := Lib.hid (hR.out _ _ ⟨rfl, hq⟩)
    clear hR hq
    go_loopw [6] (fun s6 wr => s6 = .int .i64 20 ∧ wr = w1) (fun _ _ => 0)
    case atStart => exact ⟨rfl, rfl⟩
    case round =>
      obtain ⟨rfl, rfl⟩ := hrel
      go_wp2_with fail
      go_end0
      exact Hf.out
set_option maxRecDepth 8000 in
set_option maxHeartbeats 4000000 in
theorem sort_any (L : List Lk) (A : Option Addr) (n c bl g N cap : Nat) (seg : List Int) (w : World) (hS : Srt w L A n c bl g) (hB : Blk w g seg) (hN : N = seg.length) (hNs : N ≤ SB) (hcap : N ≤ cap)
    (hv : ∀ x ∈ seg, 0 ≤ x ∧ x < n) (hst : Stb L seg) :
    Calls Tryz.prog 84 #[.slice (some ⟨g, 0, none⟩) N cap, .func (.func 85) #[] #[.pointer (some ⟨bl, 0, none⟩)]] w
      fun e w' => e = .returned (.tuple #[]) ∧ ∃ r, Ris L r ∧ r.Perm seg ∧ Blk w' g r ∧ Kx (fun j => j = g) w w' := by
  refine calls_cps ?_
  intro R hR
  have Hc := Lib.hid (stb_any L A n c bl g N cap seg w hS hB hN hNs hcap hv hst)
  unfold SB at hNs
  clear hS hB hN hv hst
  go_enter Tryz.func84, Tryz.ntmps84
  go_wp2_with (go_at_call 125; refine Hc.out.mono ?_; rintro e w1 ⟨rfl, hq⟩)
  have Hf := Lib.hid (hR.out _ _ ⟨rfl, hq⟩)
  clear hR hq Hc
  go_end0
  exact Hf.out
end Go.Proofs.YtojbldoekalbnaaGreat
