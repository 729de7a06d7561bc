/-
  The contracts of the law's own helpers: cuts, lives; no condition but those that each contract states.
-/
import Derived.Test.YtfkpioibinpfhaaPBest
namespace Go.Proofs.Ytfkpioibinpfhaa
open Go.RowKit

theorem best_ok (W H k : Int) (B : Option Addr) (m d : Nat) (ss : List Shp) (w : World) (hS : SlE Shp.enc 4 w B m ss) (hp : panOk W H k ss = true) :
    Calls Try.prog 16 #[.int .i64 W, .int .i64 H, .int .i64 k, .slice B m d] w fun e w' => ∃ v, e = .returned (.tuple #[v, .int .i64 (val k ss W H), .int .i64 0]) ∧ PlanRet w' w.heap.size v (planL k ss W H) ∧ Below w.heap.size w w' := by
  obtain ⟨h1, _, h3, _⟩ := panOk_ok hp
  obtain ⟨W', rfl⟩ : ∃ n : Nat, W = n := ⟨W.toNat, by omega⟩
  obtain ⟨H', rfl⟩ : ∃ n : Nat, H = n := ⟨H.toNat, by omega⟩
  exact best_yes W' H' k B m d ss w hS hp
theorem refBest_ok (W H k : Int) (B : Option Addr) (m d : Nat) (ss : List Shp) (w : World) (hS : SlE Shp.enc 4 w B m ss) (hp : panOk W H k ss = true) :
    Calls Try.prog 19 #[.int .i64 W, .int .i64 H, .int .i64 k, .slice B m d] w fun e w' => ∃ v, e = .returned (.tuple #[v, .int .i64 (val k ss W H)]) ∧ PlanRet w' w.heap.size v (planL k ss W H) ∧ Below w.heap.size w w' := by
  obtain ⟨h1, _, h3, _⟩ := panOk_ok hp
  obtain ⟨W', rfl⟩ : ∃ n : Nat, W = n := ⟨W.toNat, by omega⟩
  obtain ⟨H', rfl⟩ : ∃ n : Nat, H = n := ⟨H.toNat, by omega⟩
  exact refBest_any W' H' k B m d ss w hS hp

theorem take_eq_of {α : Type} [DecidableEq α] (l1 l2 : List α) (k : Nat) (x y : α) (h : l1.take k = l2.take k) (hx : l1[k]? = some x) (hy : l2[k]? = some y) (hxy : x = y) : l1.take (k + 1) = l2.take (k + 1) := by
  obtain ⟨h1, rfl⟩ := List.getElem?_eq_some_iff.1 hx
  obtain ⟨h2, rfl⟩ := List.getElem?_eq_some_iff.1 hy
  rw [List.take_succ_eq_append_getElem h1, List.take_succ_eq_append_getElem h2, h, hxy]
set_option maxHeartbeats 1000000 in
theorem cutsEq_any (A B : Option Addr) (n c m d : Nat) (l1 l2 : List (Int × Int)) (w : World) (h1 : SlE cutE 2 w A n l1) (h2 : SlE cutE 2 w B m l2) (hn : n ≤ 9223372036854775807) (_hm : m ≤ 9223372036854775807) :
    Calls Try.prog 20 #[.slice A n c, .slice B m d] w fun e w' => e = .returned (.bool (decide (l1 = l2))) ∧ Below w.heap.size w w' := by
  refine calls_cps ?_
  intro R hR
  have Hl1 := Lib.hid h1.1
  have Hl2 := Lib.hid h2.1
  have Hno := Lib.hid (show ∀ W', l1 ≠ l2 → Below w.heap.size w W' → R (.returned (.bool false)) W' from fun W' h hb => hR.out _ _ ⟨ret_bool (by simp [h]), hb⟩)
  have Hyes := Lib.hid (show ∀ W', l1 = l2 → Below w.heap.size w W' → R (.returned (.bool true)) W' from fun W' h hb => hR.out _ _ ⟨ret_bool (by simp [h]), hb⟩)
  clear hR
  by_cases hnm : n = m
  · have hb0 : ((n : Int) != m) = false := by simp [hnm]
    have Hnm := Lib.hid hnm
    clear hnm
    go_enter Try.func20, Try.ntmps20
    go_wp2_with fail
    go_loopw [5] (fun i wr => ∃ k : Nat, k ≤ n ∧ i = .int .i64 k ∧ Hid (l1.take k = l2.take k) ∧ Below w.heap.size w wr) (fun i _ => n - (intOf i).toNat)
    case atStart => exact ⟨0, Nat.zero_le _, rfl, rfl, Below.refl _ _⟩
    case round =>
      obtain ⟨k, hk, rfl, Heq, hb⟩ := hrel
      by_cases hlt : k < n
      · obtain ⟨b, o, s, rfl, hbl, hs, q0, q1⟩ := (h1.below hb).at2 hlt
        obtain ⟨b', o', t, rfl, hbl', ht, r0, r1⟩ := (h2.below hb).at2 (k := k) (by rw [← Hnm.out]; exact hlt)
        have hltm : k < m := by rw [← Hnm.out]; exact hlt
        have Hs := Lib.hid hs
        have Ht := Lib.hid ht
        clear hs ht
        obtain ⟨s1, s2⟩ := s
        obtain ⟨t1, t2⟩ := t
        dsimp only at q0 q1 r0 r1
        obtain ⟨c1, hc1⟩ : ∃ c, (s1 == t1) = c := ⟨_, rfl⟩
        obtain ⟨c2, hc2⟩ : ∃ c, (s2 == t2) = c := ⟨_, rfl⟩
        have Hst := Lib.hid (show ((s1, s2) : Int × Int) = (t1, t2) ↔ (c1 = true ∧ c2 = true) from by rw [← hc1, ← hc2]; simp)
        have Hneq := Lib.hid (show ¬ (c1 = true ∧ c2 = true) → l1 ≠ l2 from fun h e => h (Hst.out.1 (by
          have h3 := Hs.out
          rw [e, Ht.out] at h3
          injection h3 with h3
          exact h3.symm)))
        cases c1 <;> cases c2
        all_goals
          go_wp2_with fail
          go_quiet (fail)
          go_wp2
        case roundEnd =>
          exact ⟨⟨k + 1, by omega, by go_num, Lib.hid (take_eq_of l1 l2 k _ _ Heq.out Hs.out Ht.out (Hst.out.2 (by simp))), below_drewN hb _⟩, by simp [intOf]; omega⟩
        all_goals exact Hno.out _ (Hneq.out (by simp)) (below_drewN hb _)
      · obtain rfl : k = n := by omega
        have h := Heq.out
        rw [List.take_of_length_le (by rw [Hl1.out]; exact Nat.le_refl _), List.take_of_length_le (by rw [Hnm.out, Hl2.out]; exact Nat.le_refl _)] at h
        have Hf := Lib.hid (Hyes.out wr h hb)
        clear h
        go_wp2
        exact Hf.out
  · have hb0 : ((n : Int) != m) = true := by simp; omega
    have hne : l1 ≠ l2 := fun e => hnm (by rw [Hl1.out, Hl2.out, e])
    have Hf := Lib.hid (Hno.out w hne (Below.refl _ _))
    clear hnm hne
    go_enter Try.func20, Try.ntmps20
    go_wp2
    exact Hf.out

def liveS : List Shp := [⟨2, 3, 10, false⟩]
theorem live_ok : panOk 5 3 1 liveS = true := by decide
theorem live_val : val 1 liveS 5 3 = 20 := by decide +kernel
theorem live_plan : planL 1 liveS 5 3 = [(3, 2), (1, 0), (1, 0)] := by decide +kernel
set_option maxRecDepth 100000 in
set_option maxHeartbeats 1000000 in
theorem lives_any (w : World) : Calls Try.prog 18 #[] w fun e w' => e = .returned (.bool true) ∧ Below w.heap.size w w' := by
  refine calls_cps ?_
  intro R hR
  have hS : SlE Shp.enc 4 (w.alloc (.cells #[.int .i64 2, .int .i64 3, .int .i64 10, .bool false] 37)) (some ⟨w.heap.size, 0, none⟩) 1 liveS := ⟨rfl, Sl.new w _ _ 4 1 rfl⟩
  have hb0 := (Below.refl w.heap.size w).alloc (Nat.le_refl _) (.cells #[.int .i64 2, .int .i64 3, .int .i64 10, .bool false] 37)
  go_enter Try.func18, Try.ntmps18
  go_wp2_with (first
    | (go_at_call 16; refine (best_ok 5 3 1 _ _ _ liveS _ hS live_ok).mono ?_; rw [live_val, live_plan]; rintro e w1 ⟨v, rfl, hret, hb⟩; obtain ⟨A1, c1, rfl, _, _, ho1⟩ := own_slice hret; have hb1 := hb0.trans (hb.mono hb0.size); clear hret hb hb0 hS)
    | (go_at_call 20; refine (cutsEq_any _ _ _ _ _ _ [(3, 2), (1, 0), (1, 0)] [(3, 2), (1, 0), (1, 0)] _ (SlE.of_own (ho1.alloc _) rfl) ⟨rfl, Sl.new _ _ _ 2 3 rfl⟩ (by decide) (by decide)).mono ?_; rintro e w2 ⟨rfl, hb2⟩; have hb3 := (hb1.alloc hb1.size _).trans (hb2.mono (by have := hb1.size; simp <;> omega)); clear hb2 hb1))
  exact hR.out _ _ ⟨rfl, hb3⟩
end Go.Proofs.Ytfkpioibinpfhaa
