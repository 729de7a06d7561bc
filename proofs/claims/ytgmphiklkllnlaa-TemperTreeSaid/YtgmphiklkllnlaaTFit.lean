/-
  Contracts of temper's fits and off; each states its condition.
-/
import Derived.Test.YtgmphiklkllnlaaTChk
import Derived.Test.YtgmphiklkllnlaaTDv
namespace Go.Proofs.Ytgmphiklkllnlaa
open Go.RowKit
theorem fitsB_len {r : Rg} {st : List Int} (h : ¬ (st.length : Int) = r.N) : r.fitsB st = false := by
  unfold Rg.fitsB; simp [h]
theorem bool_ret {R : Ending → World → Prop} {w : World} {b c : Bool} (h : R (.returned (.bool c)) w) (e : b = c) : R (.returned (.bool b)) w := by rw [e]; exact h
set_option maxHeartbeats 2000000 in
theorem fits_any (r : Rg) (hr : r.Ok) (A B D : Option Addr) (n c m d q e : Nat) (st : List Int) (w : World) (hS : SlE intE 1 w D q st) (hq : q ≤ 1000000) :
    Calls Try.prog 61 #[.agg #[.int .i64 r.N, .int .i64 r.S, .int .i64 r.low, .int .i64 r.high, .int .i64 r.total, .int .i64 r.pure, .int .i64 r.worst, .slice A n c, .slice B m d], .slice D q e] w fun e w' => e = .returned (.bool (r.fitsB st)) ∧ Below w.heap.size w w' := by
  refine calls_cps ?_
  intro R hR
  have Hok := Lib.hid hr
  obtain ⟨n1, n2, s1, s2, s3, l1, l2, h1, h2, t1, t2, p1, p2, w1, w2, fl, tl, fw, tw⟩ := hr
  have hL := Lib.hid hS.1
  have Hfin := Lib.hid (show ∀ b, r.fitsB st = b → R (.returned (.bool b)) (w.alloc (.cells #[.int .i64 r.N, .int .i64 r.S, .int .i64 r.low, .int .i64 r.high, .int .i64 r.total, .int .i64 r.pure, .int .i64 r.worst, .slice A n c, .slice B m d] 24)) from fun b hb => hR.out _ _ ⟨by rw [hb], below_new _ _⟩)
  clear fl tl fw tw hR
  go_enter Try.func61, Try.ntmps61
  go_wp2_with fail
  go_loop [5, 10] (fun s5 s10 => ∃ (k : Nat) (T : Int), k ≤ q ∧ s10 = .int .i64 k ∧ s5 = .int .i64 T ∧ -(15 * (k : Int)) ≤ T ∧ T ≤ 15 * (k : Int) ∧ Hid (T = (st.take k).sum ∧ ∀ x ∈ st.take k, r.low ≤ x ∧ x ≤ r.high)) (fun _ i => q - (intOf i).toNat)
  case atStart => exact ⟨0, 0, Nat.zero_le _, rfl, rfl, by omega, by omega, Lib.hid ⟨by simp, by simp⟩⟩
  case round =>
    obtain ⟨k, T, hk, rfl, rfl, T1, T2, HT⟩ := hrel
    by_cases hlt : k < q
    · obtain ⟨b, o, x, rfl, hbl, hs, c0⟩ := (hS.alloc (.cells #[.int .i64 r.N, .int .i64 r.S, .int .i64 r.low, .int .i64 r.high, .int .i64 r.total, .int .i64 r.pure, .int .i64 r.worst, .slice A n c, .slice B m d] 24)).at1 hlt
      have Hs := Lib.hid hs
      clear hs
      cases hx : inB x r.low r.high
      · have Hno := Lib.hid (Hfin.out false (by
          unfold Rg.fitsB
          rw [all_false_of _ _ _ _ Hs.out (by unfold inB at hx; exact hx), Bool.false_and]))
        go_wp2_with (first | (go_at_call 57; (with_reducible refine (within_is _ _ _ _ _ (by assumption)).mono ?_); rintro e w' ⟨rfl, rfl⟩))
        exact Hno.out
      · obtain ⟨x1, x2⟩ := inB_iff.1 hx
        go_wp2_with (first | (go_at_call 57; (with_reducible refine (within_is _ _ _ _ _ (by assumption)).mono ?_); rintro e w' ⟨rfl, rfl⟩))
        exact ⟨⟨k + 1, T + x, by omega, by go_num, rfl, by omega, by omega, Lib.hid ⟨by rw [sum_take _ _ _ Hs.out, HT.out.1], fun y hy => by
          obtain ⟨hkl, hxe⟩ := List.getElem?_eq_some_iff.1 Hs.out
          rw [List.take_succ_eq_append_getElem hkl, hxe] at hy
          rcases List.mem_append.1 hy with hy | hy
          · exact HT.out.2 y hy
          · simp only [List.mem_singleton] at hy
            subst hy
            exact ⟨x1, x2⟩⟩⟩, by simp [intOf]; omega⟩
    · obtain rfl : k = q := by omega
      have hT := HT.out
      rw [List.take_of_length_le (by rw [hL.out]; exact Nat.le_refl _)] at hT
      have Hall := Lib.hid (show ∀ b, decide ((k : Int) = r.N) = true → decide (T = r.total) = b → r.fitsB st = b from fun b e1 e2 => by
        have : st.all (fun x => decide (r.low ≤ x) && decide (x ≤ r.high)) = true := by
          rw [List.all_eq_true]; intro x hx; have := hT.2 x hx; simp; exact this
        unfold Rg.fitsB
        rw [this, ← hL.out, e1, ← hT.1, e2]; rfl)
      clear hT
      by_cases hN : (k : Int) = r.N
      · by_cases hTo : T = r.total
        · have Hf := Lib.hid (Hfin.out true (Hall.out true (by simp [hN]) (by simp [hTo])))
          go_wp2
          exact bool_ret Hf.out (by simp [])
        · have Hf := Lib.hid (Hfin.out false (Hall.out false (by simp [hN]) (by simp [hTo])))
          go_wp2
          exact bool_ret Hf.out (by simp [hTo])
      · have Hf := Lib.hid (Hfin.out false (fitsB_len (by rw [← hL.out]; exact hN)))
        go_wp2
        exact bool_ret Hf.out (by simp [])
set_option maxHeartbeats 2000000 in
theorem off_any (r : Rg) (hr : r.Ok) (A B D : Option Addr) (n c m d q e : Nat) (st : List Int) (i : Nat) (w : World) (hS : SlE intE 1 w D q st) (hq : q = r.N) (hg : ∀ x ∈ st, r.low ≤ x ∧ x ≤ r.high) (hi : i < r.N) :
    Calls Try.prog 62 #[.agg #[.int .i64 r.N, .int .i64 r.S, .int .i64 r.low, .int .i64 r.high, .int .i64 r.total, .int .i64 r.pure, .int .i64 r.worst, .slice A n c, .slice B m d], .slice D q e, .int .i64 (i : Int)] w fun e w' => e = .returned (.int .i64 (r.err st i r.S)) ∧ Below w.heap.size w w' := by
  refine calls_cps ?_
  intro R hR
  have Hok := Lib.hid hr
  have Hq := Lib.hid hq
  have Hg := Lib.hid hg
  obtain ⟨n1, n2, s1, s2, s3, l1, l2, h1, h2, t1, t2, p1, p2, w1, w2, fl, tl, fw, tw⟩ := hr
  have Hfin := Lib.hid (show R (.returned (.int .i64 (r.err st i r.S))) (w.alloc (.cells #[.int .i64 r.N, .int .i64 r.S, .int .i64 r.low, .int .i64 r.high, .int .i64 r.total, .int .i64 r.pure, .int .i64 r.worst, .slice A n c, .slice B m d] 24)) from hR.out _ _ ⟨rfl, below_new _ _⟩)
  clear fl tl fw tw hR hg hq
  go_enter Try.func62, Try.ntmps62
  go_wp2_with fail
  go_loop [7, 13] (fun s7 s13 => ∃ (k : Nat) (E : Int), k ≤ r.S ∧ s13 = .int .i64 k ∧ s7 = .int .i64 E ∧ -160 ≤ E ∧ E ≤ 160 ∧ Hid (E = r.err st i k)) (fun _ i => r.S - (intOf i).toNat)
  case atStart => exact ⟨0, r.pure, Nat.zero_le _, rfl, rfl, by omega, by omega, Lib.hid rfl⟩
  case round =>
    obtain ⟨k, E, hk, rfl, rfl, E1, E2, HE⟩ := hrel
    by_cases hlt : k < r.S
    · have hmod : (i + k) % r.N < q := by rw [Hq.out]; exact Nat.mod_lt _ (by omega)
      have hmodI : ((i : Int) + k) % (r.N : Int) < (q : Int) := by have : (((i + k) % r.N : Nat) : Int) = ((i : Int) + k) % (r.N : Int) := by simp
                                                                   omega
      have hmod0 : 0 ≤ ((i : Int) + k) % (r.N : Int) := Int.emod_nonneg _ (by omega)
      obtain ⟨b, o, x, rfl, hbl, hs, c0⟩ := (hS.alloc (.cells #[.int .i64 r.N, .int .i64 r.S, .int .i64 r.low, .int .i64 r.high, .int .i64 r.total, .int .i64 r.pure, .int .i64 r.worst, .slice A n c, .slice B m d] 24)).at1 hmod
      have Hs := Lib.hid hs
      have hx := st_15 Hok.out Hg.out x (List.mem_of_getElem? hs)
      have hb := err_bd Hok.out Hg.out i (k + 1) (by omega)
      rw [Rg.err, getD_some hs, ← HE.out] at hb
      clear hs
      go_wp2_with fail
      exact ⟨⟨k + 1, E - x, by omega, by go_num, rfl, by omega, by omega, Lib.hid (by rw [Rg.err, getD_some Hs.out, HE.out])⟩, by simp [intOf]; omega⟩
    · obtain rfl : k = r.S := by omega
      have Hf := Lib.hid (show R (.returned (.int .i64 E)) _ from by rw [HE.out]; exact Hfin.out)
      go_wp2
      exact Hf.out
end Go.Proofs.Ytgmphiklkllnlaa
