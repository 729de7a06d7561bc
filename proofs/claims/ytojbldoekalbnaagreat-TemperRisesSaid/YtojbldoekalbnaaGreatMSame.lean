/-
  The contract of the law's same; no condition but slices that read.
-/
import Derived.Test.YtojbldoekalbnaaGreatMMem
namespace Go.Proofs.YtojbldoekalbnaaGreat
open Go.RowKit
set_option maxHeartbeats 1000000 in
theorem same_any (A B : Option Addr) (n c m d : Nat) (l1 l2 : List Int) (w : World) (h1 : SlE intE 1 w A n l1) (h2 : SlE intE 1 w B m l2) (hn : n ≤ 9223372036854775807) (_hm : m ≤ 9223372036854775807) :
    Calls Tryz.prog 28 #[.slice A n c, .slice B m d] w fun e w' => e = .returned (.bool (decide (l1 = l2))) ∧ Qt w w' := by
  refine calls_cps ?_
  intro R hR
  have Hl1 := Lib.hid h1.1
  have Hl2 := Lib.hid h2.1
  have Hno := Lib.hid (show ∀ W', l1 ≠ l2 → Qt w W' → R (.returned (.bool false)) W' from fun _ h hq => hR.out _ _ ⟨ret_bool (by simp [h]), hq⟩)
  have Hyes := Lib.hid (show ∀ W', l1 = l2 → Qt w W' → R (.returned (.bool true)) W' from fun _ h hq => hR.out _ _ ⟨ret_bool (by simp [h]), hq⟩)
  clear hR
  by_cases hnm : n = m
  · have hb0 : ((n : Int) != m) = false := by simp [hnm]
    have Hnm := Lib.hid hnm
    clear hnm
    go_enter Tryz.func28, Tryz.ntmps28
    go_wp2_with fail
    go_loopw [5] (fun i wr => ∃ (k : Nat), k ≤ n ∧ i = .int .i64 k ∧ Hid (l1.take k = l2.take k) ∧ Qt w wr) (fun i _ => n - (intOf i).toNat)
    case atStart => exact ⟨0, Nat.zero_le _, rfl, rfl, Qt.refl _⟩
    case round =>
      obtain ⟨k, hk, rfl, Heq, hq⟩ := hrel
      by_cases hlt : k < n
      · obtain ⟨b, o, s, rfl, hbl, hs, q0⟩ := (hq.sl h1).at1 hlt
        obtain ⟨b', o', t, rfl, hbl', ht, r0⟩ := (hq.sl h2).at1 (k := k) (by rw [← Hnm.out]; exact hlt)
        have hltm : k < m := by rw [← Hnm.out]; exact hlt
        have Hs := Lib.hid hs
        have Ht := Lib.hid ht
        clear hs ht
        obtain ⟨c1, hc1⟩ : ∃ c, (s != t) = c := ⟨_, rfl⟩
        have Hst := Lib.hid (show s = t ↔ c1 = false from by rw [← hc1]; simp)
        have Hneq := Lib.hid (show c1 = true → l1 ≠ l2 from fun h e => by
          have h3 := Hs.out
          rw [e, Ht.out] at h3
          injection h3 with h3
          have := Hst.out.1 h3.symm
          rw [h] at this; cases this)
        have i1 : (k : Int) < (n : Int) := by omega
        have i2 : (k : Int) < (m : Int) := by omega
        cases c1
        all_goals
          go_wp2_with fail
          go_quiet (fail)
          go_wp2
        case roundEnd =>
          refine ⟨⟨k + 1, by omega, by go_num, Lib.hid (take_eq_int l1 l2 k _ Heq.out Hs.out ?_), hq.step _⟩, by simp [intOf]; omega⟩
          rw [Ht.out, Hst.out.2 (by simp)]
        all_goals exact Hno.out _ (Hneq.out (by simp)) (hq.step _)
      · obtain rfl : n = k := by omega
        have h := Heq.out
        rw [List.take_of_length_le (by rw [Hl1.out]; exact Nat.le_refl _), List.take_of_length_le (by rw [Hnm.out, Hl2.out]; exact Nat.le_refl _)] at h
        have Hf := Lib.hid (Hyes.out wr h hq)
        clear h
        go_wp2
        exact Hf.out
  · have hb0 : ((n : Int) != m) = true := by simp; omega
    have hne : l1 ≠ l2 := fun e => hnm (by rw [Hl1.out, Hl2.out, e])
    have Hf := Lib.hid (Hno.out w hne (Qt.refl _))
    clear hnm hne
    go_enter Tryz.func28, Tryz.ntmps28
    go_wp2
    exact Hf.out
theorem same_quiet (A B : Option Addr) (n c m d : Nat) (l1 l2 : List Int) (w : World) (q : Nat) (h1 : SlE intE 1 w A n l1) (h2 : SlE intE 1 w B m l2) (hn : n ≤ 9223372036854775807) (hm : m ≤ 9223372036854775807) :
    Calls Tryz.prog 28 #[.slice A n c, .slice B m d] (w.drewN q) fun e w' => e = .returned (.bool (decide (l1 = l2))) ∧ ∃ k, w' = w.drewN k :=
  Calls.quiet_of (same_any A B n c m d l1 l2 (w.drewN q) h1 h2 hn hm)
theorem same_quietT (A B : Option Addr) (n c d : Nat) (l : List Int) (w : World) (q : Nat) (h1 : SlE intE 1 w A n l) (h2 : SlE intE 1 w B n l) (hn : n ≤ 9223372036854775807) :
    Calls Tryz.prog 28 #[.slice A n c, .slice B n d] (w.drewN q) fun e w' => e = .returned (.bool true) ∧ ∃ k, w' = w.drewN k := by
  have h := same_quiet A B n c n d l l w q h1 h2 hn hn
  rwa [decide_eq_true rfl] at h
end Go.Proofs.YtojbldoekalbnaaGreat
