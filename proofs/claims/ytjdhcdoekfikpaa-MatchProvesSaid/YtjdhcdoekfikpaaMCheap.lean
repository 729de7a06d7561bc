/-
  The contract of match.cheapest: the least cost of a table and its solver; condition: the table is valid.
-/
import Derived.Test.YtjdhcdoekfikpaaMSolve
import Derived.Test.YtjdhcdoekfikpaaMLaws
namespace Go.Proofs.Ytjdhcdoekfikpaa
open Go.RowKit

/-- What the solver's row adds to the sum. -/
def chT (T : List (List Int)) (p : List Nat) (j : Nat) : Int := if p.getD (j + 1) 0 = 0 then 0 else ct T (p.getD (j + 1) 0 - 1) j
theorem asg_of_kuhn {T : List (List Int)} {m : Nat} (h : kuhn (gT T) m (List.range T.length) = T.length) : ∃ f, Asg T m f := by
  cases hb : bestO T m with
  | none => exact absurd h ((bestO_iff T m).1 hb)
  | some x => exact ⟨x.1, (bestO_some (T := T) (m := m) hb).asg⟩
/-- What cheapest leaves: prices that prove, and the cost. -/
structure ChOk (T : List (List Int)) (m : Nat) (u v : List Int) (c : Int) : Prop where
  du : Duals T m (fun i => u.getD (i + 1) 0) (fun j => v.getD (j + 1) 0)
  op : ∃ f, Opt T m (fun i => u.getD (i + 1) 0) (fun j => v.getD (j + 1) 0) f
  co : c = dual T m (fun i => u.getD (i + 1) 0) (fun j => v.getD (j + 1) 0)
  ub : ∀ i, 0 ≤ u.getD i 0 ∧ u.getD i 0 ≤ 64000000000000
  vb : ∀ j, -64000000000000 ≤ v.getD j 0 ∧ v.getD j 0 ≤ 0
theorem ch_sum {T : List (List Int)} {m : Nat} (h : TOk T m) {u v : List Int} {p way : List Nat} (hM : MI (aF T) T.length m T.length u v p way) (hk : kuhn (gT T) m (List.range T.length) = T.length) :
    ChOk T m u v (sumN (chT T p) m) ∧ (∀ j, j < m → 0 ≤ chT T p j ∧ chT T p j ≤ 1000000000) := by
  have hn := Nat.le_trans h.nm h.m64
  obtain ⟨h1, h2, h3, h4⟩ := solver_opt h.costOk hn hM (asg_of_kuhn hk)
  refine ⟨⟨h1, ⟨_, h2⟩, ?_, fun i => ?_, fun j => ?_⟩, fun j hj => ?_⟩
  · rw [← dual_eq h2 h1, ← h4]; rfl
  · have := hM.ub i; unfold DEAR at this; omega
  · have := hM.vb j; unfold DEAR at this; omega
  · unfold chT
    split
    · omega
    · rename_i hp
      have h5 := h3 j hj hp
      have h6 := hM.le (j + 1) (by omega) (by omega)
      have h7 := h.costOk (p.getD (j + 1) 0 - 1) j (by omega) hj
      omega
theorem sum_bd {f : Nat → Int} {m : Nat} (h : ∀ j, j < m → 0 ≤ f j ∧ f j ≤ 1000000000) {k : Nat} (hk : k ≤ m) : 0 ≤ sumN f k ∧ sumN f k ≤ 1000000000 * (k : Int) := sumN_bd k (fun i hi => h i (by omega))
set_option maxRecDepth 100000 in
set_option maxHeartbeats 8000000 in
theorem cheap_no (n c m : Nat) (A : Option Addr) (T : List (List Int)) (w : World) (hT : SlR w A n T) (hok : TOk T m) (hno : kuhn (gT T) m (List.range n) ≠ n) :
    Calls Try.prog 47 #[.slice A n c] w fun e w' => e = .returned (.tuple #[.pointer none, .int .i64 0, .bool false]) ∧ Below w.heap.size w w' := by
  refine calls_cps ?_
  intro R hR
  have hn64 : n ≤ 64 := by rw [hT.1]; exact Nat.le_trans hok.nm hok.m64
  have hm1 : 1 ≤ m := Nat.le_trans hok.n1 hok.nm
  have hm64 := hok.m64
  have hkl := kuhn_le (gT T) m (List.range n) (nodup_range n)
  rw [List.length_range] at hkl
  obtain ⟨K, hK⟩ : ∃ K, kuhn (gT T) m (List.range n) = K := ⟨_, rfl⟩
  rw [hK] at hkl hno
  have hlt : K < n := by omega
  have HK := Lib.hid hK
  have HT := Lib.hid hT
  have Hok := Lib.hid hok
  clear hK hT hok hno hkl
  go_enter Try.func47, Try.ntmps47
  go_wp2_with fail
  refine (allowed_any _ _ _ m T _ HT.out Hok.out).mono ?_
  rintro e w1 ⟨g, rfl, hbx, hg, hb1⟩
  go_wp2_with fail
  refine (numbers_any n (by omega) _).mono ?_
  rintro e w2 ⟨g2, rfl, hg2, hblk, hb2⟩
  have hbx2 := (hb2.block g (Array.getElem?_eq_some_iff.1 hbx).1).trans hbx
  have hT2 := (HT.out.below hb1).below hb2
  have hf2 := hb1.trans (hb2.mono hb1.size)
  clear hb1 hb2 hbx hg hg2
  go_wp2_with fail
  refine (matched_any n m n _ _ (gT T) Enters65 w2 (allowed_may w2 g n c m _ T hT2 Hok.out hbx2) hm1 (by omega) (by omega) _ _ n (List.range n) (by omega) (range_lt n) (slE_of_block (n := n) hblk (by simp))).mono ?_
  rw [HK.out]
  rintro e w3 ⟨bp, rfl, hb3⟩
  have Hf := Lib.hid (hR.out (.returned (.tuple #[.pointer none, .int .i64 0, .bool false])) w3 ⟨rfl, hf2.trans (hb3.mono hf2.size)⟩)
  clear hb3 hf2 hblk hbx2 hT2
  go_wp2
  go_ret3
  exact Hf.out
set_option maxRecDepth 100000 in
set_option maxHeartbeats 8000000 in
theorem cheap_yes (n c m : Nat) (A : Option Addr) (T : List (List Int)) (w : World) (hT : SlR w A n T) (hok : TOk T m) (hyes : kuhn (gT T) m (List.range n) = n) :
    Calls Try.prog 47 #[.slice A n c] w fun e w' => ∃ (sp bu bv bp bw : Nat) (u v : List Int) (p way : List Nat) (s : Int), e = .returned (.tuple #[.pointer (some ⟨sp, 0, none⟩), .int .i64 s, .bool true]) ∧
      Sv w' sp A n c m bu bv bp bw u v p way ∧ Ne5 w.heap.size sp bu bv bp bw ∧ ChOk T m u v s ∧ Below w.heap.size w w' := by
  refine calls_cps ?_
  intro R hR
  have hn := hT.1
  have hn64 : n ≤ 64 := by rw [hn]; exact Nat.le_trans hok.nm hok.m64
  have hn1 : 1 ≤ n := by rw [hn]; exact hok.n1
  have hm1 : 1 ≤ m := Nat.le_trans hok.n1 hok.nm
  have hm64 := hok.m64
  have hnm : n ≤ m := by rw [hn]; exact hok.nm
  have HK := Lib.hid hyes
  have hMI := solve_ok (a := aF T) (n := n) (m := m) (by rw [hn]; exact aF_bd hok.costOk) (by omega) hnm n (Nat.le_refl _)
  have HT := Lib.hid hT
  have Hok := Lib.hid hok
  have Hrect := Lib.hid hok.rect
  obtain ⟨X, hX⟩ : ∃ X, solveF (aF T) n m n = X := ⟨_, rfl⟩
  rw [hX] at hMI
  have HX := Lib.hid hX
  have hch := ch_sum (T := T) (m := m) (u := X.1) (v := X.2.1) (p := X.2.2.1) (way := X.2.2.2) hok (by rw [hn] at hMI; exact hMI) (by rw [hn] at hyes; exact hyes)
  have Hch := Lib.hid hch
  have HMI := Lib.hid hMI
  clear hyes hT hok hX hch hMI hn
  go_enter Try.func47, Try.ntmps47
  go_wp2_with fail
  refine (allowed_any _ _ _ m T _ HT.out Hok.out).mono ?_
  rintro e w1 ⟨g, rfl, hbx, hg, hb1⟩
  go_wp2_with fail
  refine (numbers_any n (by omega) _).mono ?_
  rintro e w2 ⟨g2, rfl, hg2, hblk, hb2⟩
  have hbx2 := (hb2.block g (Array.getElem?_eq_some_iff.1 hbx).1).trans hbx
  have hT2 := (HT.out.below hb1).below hb2
  have hf2 := hb1.trans (hb2.mono hb1.size)
  clear hb1 hb2 hbx hg hg2
  go_wp2_with fail
  refine (matched_any n m n _ _ (gT T) Enters65 w2 (allowed_may w2 g n c m _ T hT2 Hok.out hbx2) hm1 (by omega) (by omega) _ _ n (List.range n) (by omega) (range_lt n) (slE_of_block (n := n) hblk (by simp))).mono ?_
  rw [HK.out]
  rintro e w3 ⟨bp0, rfl, hb3⟩
  have HT3 := Lib.hid (hT2.below hb3)
  have Hf3 := Lib.hid (hf2.trans (hb3.mono hf2.size))
  have g0 : decide ((n : Int) < n) = false := by simp
  clear hb3 hf2 hblk hbx2 hT2
  go_wp2_with fail
  refine (solve_any n c m _ T _ HT3.out Hok.out).mono ?_
  rw [HX.out]
  rintro e w4 ⟨sp, bu, bv, bp, bw, rfl, hS, hNe, hb4⟩
  have HS := Lib.hid hS
  have HNe := Lib.hid hNe
  have Hf4 := Lib.hid (Hf3.out.trans (hb4.mono Hf3.out.size))
  have HT4 := Lib.hid (HT3.out.below hb4)
  obtain ⟨q0, q1, q2, q3, q4⟩ := hS.cells
  have Hfin := Lib.hid (show ∀ W', Qt w4 W' → R (.returned (.tuple #[.pointer (some ⟨sp, 0, none⟩), .int .i64 (sumN (chT T X.2.2.1) m), .bool true])) W' from fun W' hq => by
    obtain ⟨q, rfl⟩ := hq
    exact hR.out _ _ ⟨sp, bu, bv, bp, bw, X.1, X.2.1, X.2.2.1, X.2.2.2, _, rfl, hS.drewN q, ⟨hNe.a1, hNe.a2, hNe.a3, hNe.a4, hNe.a5, hNe.a6, Nat.le_trans Hf3.out.size hNe.l0, Nat.le_trans Hf3.out.size hNe.l1, Nat.le_trans Hf3.out.size hNe.l2, Nat.le_trans Hf3.out.size hNe.l3, Nat.le_trans Hf3.out.size hNe.l4⟩, Hch.out.1, below_drewN Hf4.out q⟩)
  clear hS hNe hb4 g0
  go_wp2_with fail
  clear q0 q1 q2 q3 q4
  go_loopg [8, 9, 10, 31] (m + 1) (fun gk s8 s9 s10 s31 wr => ∃ k : Nat, k + gk = m + 1 ∧ s31 = .int .i64 ((k : Nat) : Int) ∧ s8 = .int .i64 (sumN (chT T X.2.2.1) (k - 1)) ∧ wr = w4)
  case atStart => exact ⟨0, by omega, rfl, rfl, rfl⟩
  case round =>
    obtain ⟨k, hgk, rfl, rfl, rfl⟩ := hrel
    by_cases hlt : k < m + 1
    · obtain ⟨f1, f2, f3, f4, f5, f6⟩ := HS.out.at_ (k := k) (by omega)
      have i1 : (k : Int) < (m : Int) + 1 := by omega
      by_cases hk0 : k = 0
      · subst hk0
        clear f1 f3 f4 f5 f6
        go_wp2_with fail
        go_roundg (gk - 1)
        case measure => omega
        case rel => exact ⟨1, by omega, rfl, rfl, rfl⟩
      · obtain ⟨j, rfl⟩ : ∃ j, k = j + 1 := ⟨k - 1, by omega⟩
        obtain ⟨r, hr⟩ : ∃ r, X.2.2.1.getD (j + 1) 0 = r := ⟨_, rfl⟩
        rw [hr] at f2
        rw [Nat.add_sub_cancel]
        obtain ⟨s0, hs0⟩ : ∃ s0, sumN (chT T X.2.2.1) j = s0 := ⟨_, rfl⟩
        rw [hs0]
        have hsb := sum_bd Hch.out.2 (k := j) (by omega)
        rw [hs0] at hsb
        have hst : sumN (chT T X.2.2.1) (j + 1) = s0 + if r = 0 then 0 else ct T (r - 1) j := by rw [sumN, hs0, chT, hr]
        have g1 : decide ((0 : Int) < (j : Int) + 1) = true := decide_eq_true (by omega)
        by_cases hr0 : r = 0
        · subst hr0
          rw [if_pos rfl, Int.add_zero] at hst
          have Hst := Lib.hid hst
          clear hst hs0 hr f1 f3 f4 f5 f6
          go_wp2_with fail
          go_roundg (gk - 1)
          case measure => omega
          case rel => exact ⟨j + 1 + 1, by omega, by go_num, by rw [Nat.add_sub_cancel, Hst.out], rfl⟩
        · rw [if_neg hr0] at hst
          obtain ⟨r1, rfl⟩ : ∃ r1, r = r1 + 1 := ⟨r - 1, by omega⟩
          have hrn : r1 < n := by
            have := HMI.out.le (j + 1) (by omega) (by omega)
            omega
          obtain ⟨b, o, Ai, ci, bi, oi, rfl, _, _, t1, rfl, t2⟩ := table_at HT4.out Hrect.out (Below.refl _ _) (r := r1) (k := j) hrn (by omega)
          rw [Nat.add_sub_cancel] at hst
          obtain ⟨y, hy⟩ : ∃ y, ct T r1 j = y := ⟨_, rfl⟩
          rw [hy] at hst t2
          have hyb := Hch.out.2 j (by omega)
          rw [chT, hr, if_neg (by omega), Nat.add_sub_cancel, hy] at hyb
          have i2 : (r1 : Int) < (n : Int) := by omega
          have i3 : (j : Int) < (m : Int) := by omega
          have g2 : decide ((0 : Int) < (r1 : Int) + 1) = true := decide_eq_true (by omega)
          have Hst := Lib.hid hst
          clear hst hs0 hr hy f1 f3 f4 f5 f6 hr0 hk0
          go_wp2_with fail
          go_roundg (gk - 1)
          case measure => omega
          case rel => exact ⟨j + 1 + 1, by omega, by go_num, by rw [Nat.add_sub_cancel, Hst.out], rfl⟩
    · obtain rfl : k = m + 1 := by omega
      have Hend := Lib.hid (Hfin.out _ (Qt.refl _))
      rw [Nat.add_sub_cancel]
      go_wp2
      go_ret3
      exact Hend.out
end Go.Proofs.Ytjdhcdoekfikpaa
