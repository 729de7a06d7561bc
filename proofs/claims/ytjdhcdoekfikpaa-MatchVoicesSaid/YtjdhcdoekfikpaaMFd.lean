/-
  Contracts of match's cheapest, completes and first; each states its condition.
-/
import Derived.Test.YtjdhcdoekfikpaaMSolve
import Derived.Test.YtjdhcdoekfikpaaMPl
namespace Go.Proofs.Ytjdhcdoekfikpaa
section
open Go.RowKit

/-- What the solver's row adds to the sum. -/
def chT (T : List (List Int)) (p : List Nat) (j : Nat) : Int := if p.getD (j + 1) 0 = 0 then 0 else ct T (p.getD (j + 1) 0 - 1) j
theorem asg_of_kuhn {T : List (List Int)} {m : Nat} (h : kuhn (gT T) m (List.range T.length) = T.length) : ∃ f, Asg T m f := by
  cases hb : bestO T m with
  | none => exact absurd h ((bestO_iff T m).1 hb)
  | some x => exact ⟨x.1, (bestO_some (T := T) (m := m) hb).asg⟩
/-- What cheapest leaves: prices that prove, and the cost. -/
structure ChOk (T : List (List Int)) (m : Nat) (u v : List Int) (c : Int) : Prop where
  du : Duals T m (fun i => u.getD (i + 1) 0) (fun j => v.getD (j + 1) 0)
  op : ∃ f, Opt T m (fun i => u.getD (i + 1) 0) (fun j => v.getD (j + 1) 0) f
  co : c = dual T m (fun i => u.getD (i + 1) 0) (fun j => v.getD (j + 1) 0)
  ub : ∀ i, 0 ≤ u.getD i 0 ∧ u.getD i 0 ≤ 64000000000000
  vb : ∀ j, -64000000000000 ≤ v.getD j 0 ∧ v.getD j 0 ≤ 0
theorem ch_sum {T : List (List Int)} {m : Nat} (h : TOk T m) {u v : List Int} {p way : List Nat} (hM : MI (aF T) T.length m T.length u v p way) (hk : kuhn (gT T) m (List.range T.length) = T.length) :
    ChOk T m u v (sumN (chT T p) m) ∧ (∀ j, j < m → 0 ≤ chT T p j ∧ chT T p j ≤ 1000000000) := by
  have hn := Nat.le_trans h.nm h.m64
  obtain ⟨h1, h2, h3, h4⟩ := solver_opt h.costOk hn hM (asg_of_kuhn hk)
  refine ⟨⟨h1, ⟨_, h2⟩, ?_, fun i => ?_, fun j => ?_⟩, fun j hj => ?_⟩
  · rw [← dual_eq h2 h1, ← h4]; rfl
  · have := hM.ub i; unfold DEAR at this; omega
  · have := hM.vb j; unfold DEAR at this; omega
  · unfold chT
    split
    · omega
    · rename_i hp
      have h5 := h3 j hj hp
      have h6 := hM.le (j + 1) (by omega) (by omega)
      have h7 := h.costOk (p.getD (j + 1) 0 - 1) j (by omega) hj
      omega
theorem sum_bd {f : Nat → Int} {m : Nat} (h : ∀ j, j < m → 0 ≤ f j ∧ f j ≤ 1000000000) {k : Nat} (hk : k ≤ m) : 0 ≤ sumN f k ∧ sumN f k ≤ 1000000000 * (k : Int) := sumN_bd k (fun i hi => h i (by omega))
set_option maxRecDepth 100000 in
set_option maxHeartbeats 8000000 in
theorem cheap_no (n c m : Nat) (A : Option Addr) (T : List (List Int)) (w : World) (hT : SlR w A n T) (hok : TOk T m) (hno : kuhn (gT T) m (List.range n) ≠ n) :
    Calls Try.prog 47 #[.slice A n c] w fun e w' => e = .returned (.tuple #[.pointer none, .int .i64 0, .bool false]) ∧ Below w.heap.size w w' := by
  refine calls_cps ?_
  intro R hR
  have hn64 : n ≤ 64 := by rw [hT.1]; exact Nat.le_trans hok.nm hok.m64
  have hm1 : 1 ≤ m := Nat.le_trans hok.n1 hok.nm
  have hm64 := hok.m64
  have hkl := kuhn_le (gT T) m (List.range n) (nodup_range n)
  rw [List.length_range] at hkl
  obtain ⟨K, hK⟩ : ∃ K, kuhn (gT T) m (List.range n) = K := ⟨_, rfl⟩
  rw [hK] at hkl hno
  have hlt : K < n := by omega
  have HK := Lib.hid hK
  have HT := Lib.hid hT
  have Hok := Lib.hid hok
  clear hK hT hok hno hkl
  go_enter Try.func47, Try.ntmps47
  go_wp2_with fail
  refine (allowed_any _ _ _ m T _ HT.out Hok.out).mono ?_
  rintro e w1 ⟨g, rfl, hbx, hg, hb1⟩
  go_wp2_with fail
  refine (numbers_any n (by omega) _).mono ?_
  rintro e w2 ⟨g2, rfl, hg2, hblk, hb2⟩
  have hbx2 := (hb2.block g (Array.getElem?_eq_some_iff.1 hbx).1).trans hbx
  have hT2 := (HT.out.below hb1).below hb2
  have hf2 := hb1.trans (hb2.mono hb1.size)
  clear hb1 hb2 hbx hg hg2
  go_wp2_with fail
  refine (matched_any n m n _ _ (gT T) Enters65 w2 (allowed_may w2 g n c m _ T hT2 Hok.out hbx2) hm1 (by omega) (by omega) _ _ n (List.range n) (by omega) (range_lt n) (slE_of_block (n := n) hblk (by simp))).mono ?_
  rw [HK.out]
  rintro e w3 ⟨bp, rfl, hb3⟩
  have Hf := Lib.hid (hR.out (.returned (.tuple #[.pointer none, .int .i64 0, .bool false])) w3 ⟨rfl, hf2.trans (hb3.mono hf2.size)⟩)
  clear hb3 hf2 hblk hbx2 hT2
  go_wp2
  go_ret3
  exact Hf.out
set_option maxRecDepth 100000 in
set_option maxHeartbeats 8000000 in
theorem cheap_yes (n c m : Nat) (A : Option Addr) (T : List (List Int)) (w : World) (hT : SlR w A n T) (hok : TOk T m) (hyes : kuhn (gT T) m (List.range n) = n) :
    Calls Try.prog 47 #[.slice A n c] w fun e w' => ∃ (sp bu bv bp bw : Nat) (u v : List Int) (p way : List Nat) (s : Int), e = .returned (.tuple #[.pointer (some ⟨sp, 0, none⟩), .int .i64 s, .bool true]) ∧
      Sv w' sp A n c m bu bv bp bw u v p way ∧ Ne5 w.heap.size sp bu bv bp bw ∧ ChOk T m u v s ∧ Below w.heap.size w w' := by
  refine calls_cps ?_
  intro R hR
  have hn := hT.1
  have hn64 : n ≤ 64 := by rw [hn]; exact Nat.le_trans hok.nm hok.m64
  have hn1 : 1 ≤ n := by rw [hn]; exact hok.n1
  have hm1 : 1 ≤ m := Nat.le_trans hok.n1 hok.nm
  have hm64 := hok.m64
  have hnm : n ≤ m := by rw [hn]; exact hok.nm
  have HK := Lib.hid hyes
  have hMI := solve_ok (a := aF T) (n := n) (m := m) (by rw [hn]; exact aF_bd hok.costOk) (by omega) hnm n (Nat.le_refl _)
  have HT := Lib.hid hT
  have Hok := Lib.hid hok
  have Hrect := Lib.hid hok.rect
  obtain ⟨X, hX⟩ : ∃ X, solveF (aF T) n m n = X := ⟨_, rfl⟩
  rw [hX] at hMI
  have HX := Lib.hid hX
  have hch := ch_sum (T := T) (m := m) (u := X.1) (v := X.2.1) (p := X.2.2.1) (way := X.2.2.2) hok (by rw [hn] at hMI; exact hMI) (by rw [hn] at hyes; exact hyes)
  have Hch := Lib.hid hch
  have HMI := Lib.hid hMI
  clear hyes hT hok hX hch hMI hn
  go_enter Try.func47, Try.ntmps47
  go_wp2_with fail
  refine (allowed_any _ _ _ m T _ HT.out Hok.out).mono ?_
  rintro e w1 ⟨g, rfl, hbx, hg, hb1⟩
  go_wp2_with fail
  refine (numbers_any n (by omega) _).mono ?_
  rintro e w2 ⟨g2, rfl, hg2, hblk, hb2⟩
  have hbx2 := (hb2.block g (Array.getElem?_eq_some_iff.1 hbx).1).trans hbx
  have hT2 := (HT.out.below hb1).below hb2
  have hf2 := hb1.trans (hb2.mono hb1.size)
  clear hb1 hb2 hbx hg hg2
  go_wp2_with fail
  refine (matched_any n m n _ _ (gT T) Enters65 w2 (allowed_may w2 g n c m _ T hT2 Hok.out hbx2) hm1 (by omega) (by omega) _ _ n (List.range n) (by omega) (range_lt n) (slE_of_block (n := n) hblk (by simp))).mono ?_
  rw [HK.out]
  rintro e w3 ⟨bp0, rfl, hb3⟩
  have HT3 := Lib.hid (hT2.below hb3)
  have Hf3 := Lib.hid (hf2.trans (hb3.mono hf2.size))
  have g0 : decide ((n : Int) < n) = false := by simp
  clear hb3 hf2 hblk hbx2 hT2
  go_wp2_with fail
  refine (solve_any n c m _ T _ HT3.out Hok.out).mono ?_
  rw [HX.out]
  rintro e w4 ⟨sp, bu, bv, bp, bw, rfl, hS, hNe, hb4⟩
  have HS := Lib.hid hS
  have HNe := Lib.hid hNe
  have Hf4 := Lib.hid (Hf3.out.trans (hb4.mono Hf3.out.size))
  have HT4 := Lib.hid (HT3.out.below hb4)
  obtain ⟨q0, q1, q2, q3, q4⟩ := hS.cells
  have Hfin := Lib.hid (show ∀ W', Qt w4 W' → R (.returned (.tuple #[.pointer (some ⟨sp, 0, none⟩), .int .i64 (sumN (chT T X.2.2.1) m), .bool true])) W' from fun W' hq => by
    obtain ⟨q, rfl⟩ := hq
    exact hR.out _ _ ⟨sp, bu, bv, bp, bw, X.1, X.2.1, X.2.2.1, X.2.2.2, _, rfl, hS.drewN q, ⟨hNe.a1, hNe.a2, hNe.a3, hNe.a4, hNe.a5, hNe.a6, Nat.le_trans Hf3.out.size hNe.l0, Nat.le_trans Hf3.out.size hNe.l1, Nat.le_trans Hf3.out.size hNe.l2, Nat.le_trans Hf3.out.size hNe.l3, Nat.le_trans Hf3.out.size hNe.l4⟩, Hch.out.1, below_drewN Hf4.out q⟩)
  clear hS hNe hb4 g0
  go_wp2_with fail
  clear q0 q1 q2 q3 q4
  go_loopg [8, 9, 10, 31] (m + 1) (fun gk s8 s9 s10 s31 wr => ∃ k : Nat, k + gk = m + 1 ∧ s31 = .int .i64 ((k : Nat) : Int) ∧ s8 = .int .i64 (sumN (chT T X.2.2.1) (k - 1)) ∧ wr = w4)
  case atStart => exact ⟨0, by omega, rfl, rfl, rfl⟩
  case round =>
    obtain ⟨k, hgk, rfl, rfl, rfl⟩ := hrel
    by_cases hlt : k < m + 1
    · obtain ⟨f1, f2, f3, f4, f5, f6⟩ := HS.out.at_ (k := k) (by omega)
      have i1 : (k : Int) < (m : Int) + 1 := by omega
      by_cases hk0 : k = 0
      · subst hk0
        clear f1 f3 f4 f5 f6
        go_wp2_with fail
        go_roundg (gk - 1)
        case measure => omega
        case rel => exact ⟨1, by omega, rfl, rfl, rfl⟩
      · obtain ⟨j, rfl⟩ : ∃ j, k = j + 1 := ⟨k - 1, by omega⟩
        obtain ⟨r, hr⟩ : ∃ r, X.2.2.1.getD (j + 1) 0 = r := ⟨_, rfl⟩
        rw [hr] at f2
        rw [Nat.add_sub_cancel]
        obtain ⟨s0, hs0⟩ : ∃ s0, sumN (chT T X.2.2.1) j = s0 := ⟨_, rfl⟩
        rw [hs0]
        have hsb := sum_bd Hch.out.2 (k := j) (by omega)
        rw [hs0] at hsb
        have hst : sumN (chT T X.2.2.1) (j + 1) = s0 + if r = 0 then 0 else ct T (r - 1) j := by rw [sumN, hs0, chT, hr]
        have g1 : decide ((0 : Int) < (j : Int) + 1) = true := decide_eq_true (by omega)
        by_cases hr0 : r = 0
        · subst hr0
          rw [if_pos rfl, Int.add_zero] at hst
          have Hst := Lib.hid hst
          clear hst hs0 hr f1 f3 f4 f5 f6
          go_wp2_with fail
          go_roundg (gk - 1)
          case measure => omega
          case rel => exact ⟨j + 1 + 1, by omega, by go_num, by rw [Nat.add_sub_cancel, Hst.out], rfl⟩
        · rw [if_neg hr0] at hst
          obtain ⟨r1, rfl⟩ : ∃ r1, r = r1 + 1 := ⟨r - 1, by omega⟩
          have hrn : r1 < n := by
            have := HMI.out.le (j + 1) (by omega) (by omega)
            omega
          obtain ⟨b, o, Ai, ci, bi, oi, rfl, _, _, t1, rfl, t2⟩ := table_at HT4.out Hrect.out (Below.refl _ _) (r := r1) (k := j) hrn (by omega)
          rw [Nat.add_sub_cancel] at hst
          obtain ⟨y, hy⟩ : ∃ y, ct T r1 j = y := ⟨_, rfl⟩
          rw [hy] at hst t2
          have hyb := Hch.out.2 j (by omega)
          rw [chT, hr, if_neg (by omega), Nat.add_sub_cancel, hy] at hyb
          have i2 : (r1 : Int) < (n : Int) := by omega
          have i3 : (j : Int) < (m : Int) := by omega
          have g2 : decide ((0 : Int) < (r1 : Int) + 1) = true := decide_eq_true (by omega)
          have Hst := Lib.hid hst
          clear hst hs0 hr hy f1 f3 f4 f5 f6 hr0 hk0
          go_wp2_with fail
          go_roundg (gk - 1)
          case measure => omega
          case rel => exact ⟨j + 1 + 1, by omega, by go_num, by rw [Nat.add_sub_cancel, Hst.out], rfl⟩
    · obtain rfl : k = m + 1 := by omega
      have Hend := Lib.hid (Hfin.out _ (Qt.refl _))
      rw [Nat.add_sub_cancel]
      go_wp2
      go_ret3
      exact Hend.out
end
section
open Go.RowKit

theorem SlE.drop1 {w : World} {b o n k : Nat} {l : List Int} (h : SlE intE 1 w (some ⟨b, o, none⟩) n l) (hk : k < n) : SlE intE 1 w (some ⟨b, o + k, none⟩) (n - k) (l.drop k) := by
  obtain ⟨h1, h2, h3⟩ := h
  refine ⟨by simp [h1], by rw [flat_length intE_len]; simp [h1], fun _ => ?_⟩
  obtain ⟨b', o', hA, hb, hc⟩ := h3 (by omega)
  simp only [Option.some.injEq, Addr.mk.injEq, and_true] at hA
  obtain ⟨rfl, rfl⟩ := hA
  refine ⟨b, o + k, rfl, hb, fun j u hu => ?_⟩
  rw [flat_int, List.getElem?_map, List.getElem?_drop] at hu
  rw [Nat.add_assoc]
  exact hc (k + j) u (by rw [flat_int, List.getElem?_map]; exact hu)
theorem below_of_drew {b : Nat} {w w' : World} (h : Below b w.drew w') : Below b w w' := ⟨h.os, h.tape, h.output, h.size, h.block⟩
theorem drop_map_range (n k : Nat) : (numL n).drop k = castL ((List.range n).drop k) := by unfold numL castL; rw [List.map_drop]
/-- The columns below k that must be had. -/
def mustP (v : Nat → Int) (taken : List Bool) (k : Nat) : List Nat := (List.range k).filter fun j => !(taken.getD j false) && decide (v j < 0)
theorem mustP_succ (v : Nat → Int) (taken : List Bool) (k : Nat) : mustP v taken (k + 1) = mustP v taken k ++ if (!(taken.getD k false) && decide (v k < 0)) = true then [k] else [] := by
  unfold mustP
  rw [List.range_succ, List.filter_append]
  congr 1
  rw [List.filter_cons]
  split <;> simp [*]
theorem mustP_len (v : Nat → Int) (taken : List Bool) (k : Nat) : (mustP v taken k).length ≤ k := by
  have := List.length_filter_le (fun j => !(taken.getD j false) && decide (v j < 0)) (List.range k)
  simpa [mustP] using this
theorem castL_snoc (S : List Nat) (k : Nat) : castL (S ++ [k]) = castL S ++ [(k : Int)] := by simp [castL]
theorem Enters71 : Enters Try.prog 71 := enters_of Try.func71 (by kernel_rfl) rfl
set_option maxHeartbeats 1000000 in
/-- What tells which rows a column may have: it asks the function that it was given. -/
theorem back_may (W : World) (b5 b7 n m fr : Nat) (F : FuncId) (caps : Array Value) (g : Nat → Nat → Bool) (hent : Enters Try.prog F) (hmay : MayOk W W.heap.size F caps n m g)
    (h5 : W.heap[b5]? = some (.cells #[.int .i64 (fr : Int)] 3 (0, 0))) (h7 : W.heap[b7]? = some (.cells #[.func (.func F) #[] caps] 81 (0, 0))) (_hn : n ≤ 1000) :
    MayOk W W.heap.size 71 #[.pointer (some ⟨b5, 0, none⟩), .pointer (some ⟨b7, 0, none⟩)] m n (fun j i => decide (fr ≤ i) && g i j) := by
  intro W1 j i hb hj hi
  refine calls_cps ?_
  intro R hR
  have q5 : W1.cell? ⟨b5, 0, none⟩ = some (.int .i64 (fr : Int)) := by rw [cell_of_row _ _ 0 _ _ (0, 0) ((hb.block b5 (Array.getElem?_eq_some_iff.1 h5).1).trans h5)]; rfl
  have q7 : W1.cell? ⟨b7, 0, none⟩ = some (.func (.func F) #[] caps) := by rw [cell_of_row _ _ 0 _ _ (0, 0) ((hb.block b7 (Array.getElem?_eq_some_iff.1 h7).1).trans h7)]; rfl
  have hent' : ∀ (args : Array Value) (w : World), (callFunc F args).run Try.prog w = .ok (.enter F args) w := hent
  have Hm := Lib.hid (hmay W1 i j hb hi hj)
  clear hb h5 h7 hmay hent
  show Calls Try.prog 71 #[.int .i64 (j : Int), .int .i64 (i : Int), .pointer (some ⟨b5, 0, none⟩), .pointer (some ⟨b7, 0, none⟩)] W1 R
  by_cases hf : fr ≤ i
  · have g1 : decide (fr ≤ i) = true := decide_eq_true hf
    have g2 : decide ((i : Int) ≥ (fr : Int)) = true := decide_eq_true (by omega)
    have Hf := Lib.hid (show ∀ W', Qt W1 W' → R (.returned (.bool (g i j))) W' from fun W' hq => hR.out _ _ ⟨ret_bool (by show _ = (decide (fr ≤ i) && g i j); rw [g1]; rfl), hq⟩)
    clear hR g1
    go_enter Try.func71, Try.ntmps71
    go_wp2_with fail
    refine Hm.out.mono ?_
    rintro e w2 ⟨rfl, hq⟩
    go_wp2
    exact Hf.out _ hq
  · have g1 : decide (fr ≤ i) = false := decide_eq_false hf
    have Hf := Lib.hid (hR.out (.returned (.bool false)) W1 ⟨ret_bool (by show _ = (decide (fr ≤ i) && g i j); rw [g1]; rfl), Qt.refl _⟩)
    clear hR g1
    go_enter Try.func71, Try.ntmps71
    go_wp2
    exact Hf.out
set_option maxRecDepth 100000 in
set_option maxHeartbeats 8000000 in
theorem completes_any (W : World) (sp n c m bu bv bp bw bk fr : Nat) (A : Option Addr) (u v : List Int) (p way : List Nat) (taken : List Bool) (F : FuncId) (caps : Array Value) (g : Nat → Nat → Bool) (vf : Nat → Int)
    (hS : Sv W sp A n c m bu bv bp bw u v p way) (hk : BlkB W bk taken) (hkl : taken.length = m) (hent : Enters Try.prog F) (hmay : MayOk W W.heap.size F caps n m g) (hn1 : 1 ≤ n) (hm1 : 1 ≤ m) (hn : n ≤ 64) (hm : m ≤ 64) (hfr : fr ≤ n) (hvf : ∀ j, vf j = v.getD (j + 1) 0) :
    Calls Try.prog 64 #[.pointer (some ⟨sp, 0, none⟩), .int .i64 (fr : Int), .slice (some ⟨bk, 0, none⟩) m m, .func (.func F) #[] caps] W fun e W' =>
      e = .returned (.bool (decide (kuhn g m ((List.range n).drop fr) = ((List.range n).drop fr).length) && decide (kuhn (fun j i => decide (fr ≤ i) && g i j) n (mustP vf taken m) = (mustP vf taken m).length))) ∧ Below W.heap.size W W' := by
  refine calls_cps ?_
  intro R hR
  obtain ⟨X, hX⟩ : ∃ X, (List.range n).drop fr = X := ⟨_, rfl⟩
  obtain ⟨M, hM⟩ : ∃ M, mustP vf taken m = M := ⟨_, rfl⟩
  rw [hX, hM] at hR
  have hXl : X.length = n - fr := by rw [← hX]; simp
  have HX := Lib.hid hX
  have HXl := Lib.hid hXl
  have HM := Lib.hid hM
  have Hkl := Lib.hid hkl
  have Hmay := Lib.hid hmay
  have Hvf := Lib.hid hvf
  have HS := Lib.hid hS
  have Hk := Lib.hid hk
  have hsl := hS.lt
  have hkl2 := hk.lt
  obtain ⟨q0, q1, q2, q3, q4⟩ := hS.cells
  have n1 : sp ≠ W.heap.size := by omega
  have n2 : sp ≠ W.heap.size + 1 := by omega
  have z1 : IntKind.i64.wrap ((n : Int) + 1 - 1) = (n : Int) := by rw [show (n : Int) + 1 - 1 = n by omega]; exact IntWalk.i64_in _ (by omega)
  have z2 : IntKind.i64.wrap ((m : Int) + 1 - 1) = (m : Int) := by rw [show (m : Int) + 1 - 1 = m by omega]; exact IntWalk.i64_in _ (by omega)
  clear hX hM hXl hkl hmay hvf hS hk
  go_enter Try.func64, Try.ntmps64
  go_wp2_with fail
  go_quiet (fail)
  rename_i nq
  clear z1 z2 q0 q1 q2 q3 q4 n1 n2
  have hb2 := below_two W (.cells #[.int .i64 (fr : Int)] 3) (.cells #[.func (.func F) #[] caps] 81)
  have hbd := below_drewN hb2 nq
  have h5 : (((W.alloc (.cells #[.int .i64 (fr : Int)] 3)).alloc (.cells #[.func (.func F) #[] caps] 81)).drewN nq).heap[W.heap.size]? = some (.cells #[.int .i64 (fr : Int)] 3 (0, 0)) := heap_two1 W _ _
  have h7 : (((W.alloc (.cells #[.int .i64 (fr : Int)] 3)).alloc (.cells #[.func (.func F) #[] caps] 81)).drewN nq).heap[W.heap.size + 1]? = some (.cells #[.func (.func F) #[] caps] 81 (0, 0)) := heap_two2 W _ _
  have hSd := HS.out.below hbd
  have hkd := Hk.out.below hbd
  have hmd := Hmay.out.at hbd hbd.size
  clear hb2
  generalize (((W.alloc (.cells #[.int .i64 (fr : Int)] 3)).alloc (.cells #[.func (.func F) #[] caps] 81)).drewN nq) = wd at *
  obtain ⟨b5, hb5⟩ : ∃ b, W.heap.size = b := ⟨_, rfl⟩
  obtain ⟨b7, hb7⟩ : ∃ b, W.heap.size + 1 = b := ⟨_, rfl⟩
  rw [hb7] at h7
  rw [hb5] at h5
  have Hb5 := Lib.hid hb5
  have Hb7 := Lib.hid hb7
  have q5 : wd.cell? ⟨b5, 0, none⟩ = some (.int .i64 (fr : Int)) := by rw [cell_of_row _ _ 0 _ _ (0, 0) h5]; rfl
  have h5l := (Array.getElem?_eq_some_iff.1 h5).1
  have H5 := Lib.hid h5
  have H7 := Lib.hid h7
  have HSd := Lib.hid hSd
  have Hkd := Lib.hid hkd
  have Hmd := Lib.hid hmd
  have Hbd := Lib.hid hbd
  have i1 : (fr : Int) ≤ (n : Int) := by omega
  clear h5 h7 hSd hkd hmd hbd hb5 hb7
  go_wp2_with (rw [Hb7.out, Hb5.out])
  go_upto_region 2 with fail
  go_cut [11] (fun s11 wx => ∃ (A2 : Option Addr) (L2 c2 : Nat), s11 = .slice A2 L2 c2 ∧ SlE intE 1 wx A2 L2 (castL X) ∧ L2 = n - fr ∧ Below wd.heap.size wd wx)
  case first =>
    by_cases hfn : fr = n
    · have hXn : X = [] := by rw [← HX.out, hfn]; exact List.drop_of_length_le (by simp)
      have HXn := Lib.hid hXn
      subst hfn
      clear hXn
      go_region_held3 (fun w' => w'.cell? ⟨b5, 0, none⟩ = some (.int .i64 (fr : Int)))
        (first | go_keep | exact (hb6.cell (p := ⟨b5, 0, none⟩) h5l).trans q5)
        (first | (go_at_call 52; refine (numbers_any fr (by omega) _).mono ?_; rintro e w6 ⟨g6, rfl, hg6, hblk6, hb6⟩))
      all_goals
        go_wp2_with fail
        go_meet
        exact ⟨_, _, _, rfl, by rw [HXn.out]; (first | exact SlE.nil _ _ | (rw [Nat.sub_self]; exact SlE.nil _ _)), by omega, below_of_drew hb6⟩
    · have hlt : fr < n := by omega
      have hfc : ¬ n = fr := by omega
      go_region_held3 (fun w' => w'.cell? ⟨b5, 0, none⟩ = some (.int .i64 (fr : Int)))
        (first | go_keep | exact (hb6.cell (p := ⟨b5, 0, none⟩) h5l).trans q5)
        (first | (go_at_call 52; refine (numbers_any n (by omega) _).mono ?_; rintro e w6 ⟨g6, rfl, hg6, hblk6, hb6⟩))
      all_goals
        go_wp2_with fail
        go_meet
        refine ⟨_, _, _, rfl, ?_, rfl, below_of_drew hb6⟩
        have hd := SlE.drop1 (slE_of_block (n := n) hblk6 (by simp)) hlt
        rw [Nat.zero_add] at hd
        rw [← HX.out, ← drop_map_range]
        exact hd
  case rest =>
    obtain ⟨A2, L2, c2, hv11, hA2, hL2, hbx⟩ := hcut
    subst hv11
    have h7 := (hbx.block b7 (Array.getElem?_eq_some_iff.1 H7.out).1).trans H7.out
    have q7 : wc.cell? ⟨b7, 0, none⟩ = some (.func (.func F) #[] caps) := by rw [cell_of_row _ _ 0 _ _ (0, 0) h7]; rfl
    have HA2 := Lib.hid hA2
    have HSc := Lib.hid (HSd.out.below hbx)
    have Hkc := Lib.hid (Hkd.out.below hbx)
    have Hmc := Lib.hid (Hmd.out.at hbx hbx.size)
    have Hbc := Lib.hid (Hbd.out.trans (hbx.mono Hbd.out.size))
    have H5c := Lib.hid ((hbx.block b5 (Array.getElem?_eq_some_iff.1 H5.out).1).trans H5.out)
    have H7c := Lib.hid h7
    obtain ⟨K, hK⟩ : ∃ K, kuhn g m X = K := ⟨_, rfl⟩
    have hKl := kuhn_le g m X (by rw [← HX.out]; exact nodup_drop n fr)
    rw [hK] at hR hKl
    have HK := Lib.hid hK
    have Hxn := Lib.hid (show ∀ r ∈ X, r < n from fun r hr => by rw [← HX.out] at hr; exact (mem_drop_range.1 hr).2)
    rw [HXl.out] at hKl hR
    have hL2n : L2 ≤ n := by omega
    have HL2 := Lib.hid hL2
    clear hA2 hbx h7 hK hL2
    go_wp2_with fail
    refine (matched_any n m n F caps g hent _ Hmc.out hm1 (by omega) (by omega) A2 c2 L2 X (by omega) Hxn.out HA2.out).mono ?_
    rw [HK.out]
    rintro e w7 ⟨bp7, rfl, hb7⟩
    have HSe := Lib.hid (HSc.out.below hb7)
    have Hke := Lib.hid (Hkc.out.below hb7)
    have Hme := Lib.hid (Hmc.out.at hb7 hb7.size)
    have Hbe := Lib.hid (Hbc.out.trans (hb7.mono Hbc.out.size))
    have H5e := Lib.hid ((hb7.block b5 (Array.getElem?_eq_some_iff.1 H5c.out).1).trans H5c.out)
    have H7e := Lib.hid ((hb7.block b7 (Array.getElem?_eq_some_iff.1 H7c.out).1).trans H7c.out)
    clear hb7 q7 q5
    by_cases hKL : K < L2
    · have Hf := Lib.hid (hR.out (.returned (.bool false)) w7 ⟨by rw [decide_eq_false (by have := HL2.out; omega)]; rfl, Hbe.out⟩)
      go_wp2
      exact Hf.out
    have hdK : decide (K = n - fr) = true := decide_eq_true (by have := HL2.out; omega)
    have HdK := Lib.hid hdK
    have hbase := Hbe.out.size
    clear hdK
    go_wp2_with fail
    go_loopg [14, 15, 49] m (fun gk s14 s15 s49 wr => ∃ (k : Nat) (A3 : Option Addr) (c3 : Nat), k + gk = m ∧ s49 = .int .i64 ((k : Nat) : Int) ∧ s14 = .slice A3 (mustP vf taken k).length c3 ∧ wr.ownsRow w7.heap.size 3 1 (.slice A3 (mustP vf taken k).length c3) (mustP vf taken k).length ((castL (mustP vf taken k)).flatMap intE) ∧ Below w7.heap.size w7 wr)
    case atStart => exact ⟨0, none, 0, by omega, rfl, rfl, World.ownsRow_nil _ _ _ _, Below.refl _ _⟩
    case round =>
      obtain ⟨k, A3, c3, hgk, rfl, rfl, ho, hb⟩ := hrel
      obtain ⟨wi, rfl⟩ : ∃ wi : World, wi = wr := ⟨_, rfl⟩
      by_cases hlt : k < m
      · have hSi := HSe.out.below hb
        obtain ⟨q0, q1, q2, q3, q4⟩ := hSi.cells
        obtain ⟨f1, f2, f3, f4, f5, f6⟩ := hSi.at_ (k := k + 1) (by omega)
        obtain ⟨d1, d2⟩ := (Hke.out.below hb).at_ (k := k) (by rw [Hkl.out]; exact hlt)
        have i2 : (k : Int) < (m : Int) := by omega
        have i3 : (k : Int) + 1 < (m : Int) + 1 := by omega
        have t1 : ((k : Int) + 1).toNat = k + 1 := by omega
        have hml := mustP_len vf taken k
        have hms := mustP_succ vf taken k
        obtain ⟨y, hy⟩ : ∃ y, v.getD (k + 1) 0 = y := ⟨_, rfl⟩
        rw [hy] at f1
        rw [show vf k = y by rw [Hvf.out, hy]] at hms
        obtain ⟨Mk, hMk⟩ : ∃ Mk, mustP vf taken k = Mk := ⟨_, rfl⟩
        rw [hMk] at hml hms ho ⊢
        obtain ⟨Lk, hLk⟩ : ∃ Lk, Mk.length = Lk := ⟨_, rfl⟩
        rw [hLk] at hml ho ⊢
        have HLk := Lib.hid hLk
        have Ho := Lib.hid ho
        have Hb := Lib.hid hb
        have hsz := hb.size
        clear hSi f2 f3 f4 f5 f6 d2 hMk hLk ho hb hy
        cases htk : taken.getD k false with
        | true =>
          rw [htk] at d1 hms
          have Hms := Lib.hid (show mustP vf taken (k + 1) = Mk by rw [hms]; simp)
          clear hms htk
          go_wp2_with fail
          go_roundg (gk - 1)
          case measure => omega
          case rel => exact ⟨k + 1, A3, c3, by omega, by go_num, by rw [Hms.out, HLk.out], by rw [Hms.out, HLk.out]; exact Ho.out, Hb.out⟩
        | false =>
          rw [htk] at d1 hms
          by_cases hy0 : y < 0
          · have Hms := Lib.hid (show mustP vf taken (k + 1) = Mk ++ [k] by rw [hms, decide_eq_true hy0]; rfl)
            clear hms htk
            go_wp2_with (at_builtin; refine wpList_app rfl (.tmp 68) (.tmp 70) _ rfl elemInt w7.heap.size _ _ _ rfl (Ho.out.kept (World.grownBy_alloc wi _ none) (by cases (Value.slice A3 Lk c3).ownBlock <;> simp)) _ _ _ _ rfl (Sl.new _ _ _ 1 1 rfl) (by simp [Value.oneCell']) (by unfold maxLen; omega) (by omega) (by simp; omega) ?_; intro A4 c4 w8 ho8 hg8 _; have hb8 := below_own (Hb.out.alloc hsz _) (Ho.out.kept (World.grownBy_alloc wi _ none) (by cases (Value.slice A3 Lk c3).ownBlock <;> simp)) (Nat.le_refl _) (by simp; omega) hg8; have HO := Lib.hid (show w8.ownsRow w7.heap.size 3 1 (.slice A4 (Lk + 1) c4) (Lk + 1) ((castL (Mk ++ [k])).flatMap intE) from by rw [castL_snoc, List.flatMap_append]; exact ho8); have HB := Lib.hid hb8; clear ho8 hg8 hb8)
            go_roundg (gk - 1)
            case measure => omega
            case rel => exact ⟨k + 1, A4, c4, by omega, by go_num, by rw [Hms.out, List.length_append, HLk.out]; rfl, by rw [Hms.out, List.length_append, HLk.out]; exact HO.out, HB.out⟩
          · have Hms := Lib.hid (show mustP vf taken (k + 1) = Mk by rw [hms, decide_eq_false hy0]; simp)
            have g3 : decide (y < 0) = false := decide_eq_false hy0
            clear hms htk
            go_wp2_with fail
            go_roundg (gk - 1)
            case measure => omega
            case rel => exact ⟨k + 1, A3, c3, by omega, by go_num, by rw [Hms.out, HLk.out], by rw [Hms.out, HLk.out]; exact Ho.out, Hb.out⟩
      · obtain rfl : m = k := by omega
        rw [HM.out] at ho ⊢
        obtain ⟨Lm, hLm⟩ : ∃ Lm, M.length = Lm := ⟨_, rfl⟩
        rw [hLm] at ho hR ⊢
        have hml := mustP_len vf taken m
        rw [HM.out, hLm] at hml
        have hnd : M.Nodup := by rw [← HM.out]; exact (nodup_range m).filter _
        have Hlt := Lib.hid (show ∀ r ∈ M, r < m from fun r hr => by rw [← HM.out] at hr; exact List.mem_range.1 (List.mem_filter.1 hr).1)
        obtain ⟨K2, hK2⟩ : ∃ K2, kuhn (fun j i => decide (fr ≤ i) && g i j) n M = K2 := ⟨_, rfl⟩
        rw [hK2] at hR
        have HK2 := Lib.hid hK2
        have HLm := Lib.hid hLm
        have HM3 := Lib.hid (SlE.of_own ho (by rw [castL_len, hLm]))
        have H5i := (hb.block b5 (Array.getElem?_eq_some_iff.1 H5e.out).1).trans H5e.out
        have H7i := (hb.block b7 (Array.getElem?_eq_some_iff.1 H7e.out).1).trans H7e.out
        have hmi := Hme.out.at hb hb.size
        have Hba := Lib.hid (below_new wi (.cells #[.int .i64 (m : Int), .int .i64 (n : Int), .func (.func 71) #[] #[.pointer (some ⟨b5, 0, none⟩), .pointer (some ⟨b7, 0, none⟩)]] 83))
        have HBM := Lib.hid ((back_may wi b5 b7 n m fr F caps g hent hmi H5i H7i (by omega)).at Hba.out Hba.out.size)
        have Hbi := Lib.hid (Hbe.out.trans (hb.mono Hbe.out.size))
        have HMa := Lib.hid (HM3.out.below Hba.out)
        clear hLm ho hb H5i H7i hmi hnd hK2
        go_wp2_with fail
        refine (matched_any m n m _ _ (fun j i => decide (fr ≤ i) && g i j) Enters71 _ HBM.out (by omega) (by omega) (by omega) A3 c3 Lm M (by omega) Hlt.out HMa.out).mono ?_
        rw [HK2.out]
        rintro e w9 ⟨bp9, rfl, hb9⟩
        have Hf := Lib.hid (show ∀ t : Bool, decide (K2 = Lm) = t → R (.returned (.bool t)) w9 from fun t ht => hR.out _ _ ⟨by rw [HdK.out, ht]; rfl, (Hbi.out.trans (Hba.out.mono Hbi.out.size)).trans (hb9.mono (Nat.le_trans Hbi.out.size Hba.out.size))⟩)
        clear hb9
        by_cases hE : K2 = Lm
        · have g4 : ((K2 : Int) == Lm) = true := by simp [hE]
          have Hg := Lib.hid (Hf.out true (decide_eq_true hE))
          clear hE
          go_wp2
          exact Hg.out
        · have g4 : ((K2 : Int) == Lm) = false := by simp; omega
          have Hg := Lib.hid (Hf.out false (decide_eq_false hE))
          clear hE
          go_wp2
          exact Hg.out
end
section
open Go.RowKit

theorem Enters63 : Enters Try.prog 63 := enters_of Try.func63 (by kernel_rfl) rfl
theorem ownsRow_ne {W : World} {base sz n b : Nat} {e t : TypeId} {v : Value} {xs : List Value} {cs : Array Value} (h : W.ownsRow base e sz v n xs) (hb : W.heap[b]? = some (.cells cs t (0, 0))) (hne : e ≠ t) : v.ownBlock ≠ some b := by
  rcases h.2 with ⟨rfl, _⟩ | ⟨g, c, cur, rfl, _, hg, _⟩
  · simp [Value.ownBlock]
  · intro e1
    have : g = b := by simpa [Value.ownBlock] using e1
    subst this
    rw [hg] at hb
    simp only [Option.some.injEq, Obj.cells.injEq] at hb
    exact hne hb.2.1
/-- What first keeps: the boxes that its function captured, and which columns are taken. -/
structure Ft (W0 W : World) (bx bt bk sp m : Nat) (taken : List Bool) : Prop where
  hbx : W.heap[bx]? = some (.cells #[.pointer (some ⟨sp, 0, none⟩)] 73 (0, 0))
  hbt : W.heap[bt]? = some (.cells #[.slice (some ⟨bk, 0, none⟩) m m] 91 (0, 0))
  hbk : BlkB W bk taken
  tl : taken.length = m
  lo : W0.heap.size ≤ bk
  bel : Below W0.heap.size W0 W
section
variable {W0 W W' : World} {bx bt bk sp m : Nat} {taken : List Bool}
theorem Ft.below (h : Ft W0 W bx bt bk sp m taken) (hb : Below W.heap.size W W') : Ft W0 W' bx bt bk sp m taken :=
  ⟨(hb.block bx (Array.getElem?_eq_some_iff.1 h.hbx).1).trans h.hbx, (hb.block bt (Array.getElem?_eq_some_iff.1 h.hbt).1).trans h.hbt, h.hbk.below hb, h.tl, h.lo, h.bel.trans (hb.mono h.bel.size)⟩
theorem Ft.ne (h : Ft W0 W bx bt bk sp m taken) : bx ≠ bk ∧ bt ≠ bk := by
  have h3 : W.heap[bk]? = _ := h.hbk
  refine ⟨fun e => ?_, fun e => ?_⟩
  · have h1 := h.hbx; rw [e, h3] at h1; simp at h1
  · have h1 := h.hbt; rw [e, h3] at h1; simp at h1
theorem Ft.set (h : Ft W0 W bx bt bk sp m taken) (k : Nat) (x : Bool) : Ft W0 (W.setCell ⟨bk, k, none⟩ (.bool x)) bx bt bk sp m (taken.set k x) :=
  ⟨(Below.heap_setCell W ⟨bk, k, none⟩ _ bx h.ne.1).trans h.hbx, (Below.heap_setCell W ⟨bk, k, none⟩ _ bt h.ne.2).trans h.hbt, h.hbk.set k x, by simpa using h.tl, h.lo, h.bel.setCell (p := ⟨bk, k, none⟩) h.lo _⟩
theorem Ft.grown (h : Ft W0 W bx bt bk sp m taken) {v : Value} {base n sz : Nat} {xs : List Value} (ho : W.ownsRow base 3 sz v n xs) (hb : W0.heap.size ≤ base) (hg : W.grownBy W' v.ownBlock) : Ft W0 W' bx bt bk sp m taken := by
  have h3 : W.heap[bk]? = _ := h.hbk
  exact ⟨(hg.block bx (Array.getElem?_eq_some_iff.1 h.hbx).1 (fun e => ownsRow_ne ho h.hbx (by decide) e.symm)).trans h.hbx, (hg.block bt (Array.getElem?_eq_some_iff.1 h.hbt).1 (fun e => ownsRow_ne ho h.hbt (by decide) e.symm)).trans h.hbt,
    (hg.block bk h.hbk.lt (fun e => ownsRow_ne ho h3 (by decide) e.symm)).trans h.hbk, h.tl, h.lo, below_own h.bel ho hb h.bel.size hg⟩
end
set_option maxRecDepth 100000 in
set_option maxHeartbeats 4000000 in
theorem tight_may (W0 W : World) (bx bt bk sp n c m bu bv bp bw : Nat) (A : Option Addr) (T : List (List Int)) (u v : List Int) (p way : List Nat) (taken : List Bool) (hF : Ft W0 W bx bt bk sp m taken) (hS : Sv W0 sp A n c m bu bv bp bw u v p way) (hT : SlR W0 A n T) (hok : TOk T m)
    (hu : ∀ i, 0 ≤ u.getD i 0 ∧ u.getD i 0 ≤ 64000000000000) (hv : ∀ i, -64000000000000 ≤ v.getD i 0 ∧ v.getD i 0 ≤ 0) :
    MayOk W W.heap.size 63 #[.pointer (some ⟨bt, 0, none⟩), .pointer (some ⟨bx, 0, none⟩)] n m (tightF T (fun i => u.getD (i + 1) 0) (fun j => v.getD (j + 1) 0) taken) := by
  intro W1 i j hb hi hj
  refine calls_cps ?_
  intro R hR
  have hF1 := hF.below hb
  have hS1 := hS.below hF1.bel
  obtain ⟨q0, q1, q2, q3, q4⟩ := hS1.cells
  have qx : W1.cell? ⟨bx, 0, none⟩ = some (.pointer (some ⟨sp, 0, none⟩)) := by rw [cell_of_row _ _ 0 _ _ (0, 0) hF1.hbx]; rfl
  have qt : W1.cell? ⟨bt, 0, none⟩ = some (.slice (some ⟨bk, 0, none⟩) m m) := by rw [cell_of_row _ _ 0 _ _ (0, 0) hF1.hbt]; rfl
  obtain ⟨d1, d2⟩ := hF1.hbk.at_ (k := j) (by rw [hF1.tl]; exact hj)
  have hco := hok.costOk i j (by rw [← hT.1]; exact hi) hj
  have hm64 := hok.m64
  have hnm : n ≤ m := by rw [hT.1]; exact hok.nm
  obtain ⟨b, o, Ai, ci, bi, oi, rfl, _, _, t1, rfl, t2⟩ := table_at hT hok.rect hF1.bel hi hj
  obtain ⟨f1, f2, f3, f4, f5, f6⟩ := hS1.at_ (k := j + 1) (by omega)
  obtain ⟨e1, e2⟩ := hS1.atU (k := i + 1) (by omega)
  have hub := hu (i + 1)
  have hvb := hv (j + 1)
  have htg : tightF T (fun i => u.getD (i + 1) 0) (fun j => v.getD (j + 1) 0) taken i j = (!(taken.getD j false) && (decide (0 ≤ ct T i j) && (u.getD (i + 1) 0 + v.getD (j + 1) 0 == ct T i j))) := rfl
  obtain ⟨z, hz⟩ : ∃ z, ct T i j = z := ⟨_, rfl⟩
  obtain ⟨x, hx⟩ : ∃ x, u.getD (i + 1) 0 = x := ⟨_, rfl⟩
  obtain ⟨y, hy⟩ : ∃ y, v.getD (j + 1) 0 = y := ⟨_, rfl⟩
  rw [hz] at t2 hco htg
  rw [hx] at e1 hub htg
  rw [hy] at f1 hvb htg
  have i1 : (i : Int) < (n : Int) := by omega
  have i2 : (j : Int) < (m : Int) := by omega
  have i3 : (i : Int) + 1 < (n : Int) + 1 := by omega
  have i4 : (j : Int) + 1 < (m : Int) + 1 := by omega
  have y1 : IntKind.i64.wrap ((i : Int) + 1) = (i : Int) + 1 := IntWalk.i64_in _ (by omega)
  have y2 : IntKind.i64.wrap ((j : Int) + 1) = (j : Int) + 1 := IntWalk.i64_in _ (by omega)
  have y3 : IntKind.i64.wrap (x + y) = x + y := IntWalk.i64_in _ (by omega)
  have s1 : ((i : Int) + 1).toNat = i + 1 := by omega
  have s2 : ((j : Int) + 1).toNat = j + 1 := by omega
  show Calls Try.prog 63 #[.int .i64 (i : Int), .int .i64 (j : Int), .pointer (some ⟨bt, 0, none⟩), .pointer (some ⟨bx, 0, none⟩)] W1 R
  rw [htg] at hR
  have HR := Lib.hid hR
  clear hR htg hx hy hz hF hF1 hS hS1 hT hok hb hu hv e2 f2 f3 f4 f5 f6 d2
  cases htk : taken.getD j false with
  | true =>
    rw [htk] at d1 HR
    have Hf := Lib.hid (show ∀ q, R (.returned (.bool false)) (W1.drewN q) from fun q => HR.out.out _ _ ⟨by simp, (Qt.refl W1).step q⟩)
    clear htk HR
    go_enter Try.func63, Try.ntmps63
    go_wp2_with fail
    go_quiet (fail)
    go_wp2
    exact Hf.out _
  | false =>
    rw [htk] at d1 HR
    by_cases hz1 : z = -1
    · have g1 : (z != -1) = false := by simp [hz1]
      have Hf := Lib.hid (show ∀ q, R (.returned (.bool false)) (W1.drewN q) from fun q => HR.out.out _ _ ⟨by rw [hz1]; rfl, (Qt.refl W1).step q⟩)
      clear htk HR hz1
      go_enter Try.func63, Try.ntmps63
      go_wp2_with fail
      go_quiet (fail)
      go_wp2
      exact Hf.out _
    · have g1 : (z != -1) = true := by simpa using hz1
      have hz0 : decide (0 ≤ z) = true := decide_eq_true (by omega)
      have Hf := Lib.hid (show ∀ q, R (.returned (.bool (x + y == z))) (W1.drewN q) from fun q => HR.out.out _ _ ⟨by rw [hz0]; rfl, (Qt.refl W1).step q⟩)
      clear htk HR hz1 hz0
      go_enter Try.func63, Try.ntmps63
      go_wp2_with fail
      go_quiet (fail)
      go_wp2
      exact Hf.out _
theorem completes_n {T : List (List Int)} {n m fr : Nat} {u v : Nat → Int} {taken : List Bool} (hn : n = T.length) : completesB T m u v fr taken =
    (decide (kuhn (tightF T u v taken) m ((List.range n).drop fr) = ((List.range n).drop fr).length) && decide (kuhn (fun j i => decide (fr ≤ i) && tightF T u v taken i j) n (mustP v taken m) = (mustP v taken m).length)) := by subst hn; rfl
theorem nextC_some {T : List (List Int)} {m row k : Nat} {u v : Nat → Int} {taken : List Bool} (hk : k < m) (h1 : ∀ j, j < k → (tightF T u v taken row j && completesB T m u v (row + 1) (taken.set j true)) = false) (h2 : (tightF T u v taken row k && completesB T m u v (row + 1) (taken.set k true)) = true) : nextC T m u v taken row = some k := by
  unfold nextC
  rw [List.find?_eq_some_iff_append]
  refine ⟨h2, List.range k, (List.range (m - (k + 1))).map (· + (k + 1)), ?_, fun j hj => by rw [h1 j (List.mem_range.1 hj)]; rfl⟩
  have : m = k + 1 + (m - (k + 1)) := by omega
  rw [this, List.range_add, List.range_succ, List.append_assoc]
  simp [Nat.add_comm]
theorem nextC_none {T : List (List Int)} {m row : Nat} {u v : Nat → Int} {taken : List Bool} (h1 : ∀ j, j < m → (tightF T u v taken row j && completesB T m u v (row + 1) (taken.set j true)) = false) : nextC T m u v taken row = none := by
  unfold nextC
  rw [List.find?_eq_none]
  intro j hj
  rw [h1 j (List.mem_range.1 hj)]; simp
theorem firstF_some {T : List (List Int)} {m r c : Nat} {u v : Nat → Int} {rs : List Nat} {taken : List Bool} {l : List Nat} (h : nextC T m u v taken r = some c) : firstF T m u v (r :: rs) taken l = firstF T m u v rs (taken.set c true) (l ++ [c]) := by rw [firstF, h]
theorem firstF_none {T : List (List Int)} {m r : Nat} {u v : Nat → Int} {rs : List Nat} {taken : List Bool} {l : List Nat} (h : nextC T m u v taken r = none) : firstF T m u v (r :: rs) taken l = firstF T m u v rs taken l := by rw [firstF, h]
theorem set_back {l : List Bool} {k : Nat} (h : l.getD k false = false) (hk : k < l.length) : (l.set k true).set k false = l := by
  rw [List.set_set]
  rw [getD_get _ _ _ hk] at h
  rw [← h, List.set_getElem_self]
set_option maxRecDepth 100000 in
set_option maxHeartbeats 16000000 in
theorem first_any (W : World) (sp n c m bu bv bp bw : Nat) (A : Option Addr) (T : List (List Int)) (u v : List Int) (p way : List Nat) (hS : Sv W sp A n c m bu bv bp bw u v p way) (hT : SlR W A n T) (hok : TOk T m)
    (hu : ∀ i, 0 ≤ u.getD i 0 ∧ u.getD i 0 ≤ 64000000000000) (hv : ∀ i, -64000000000000 ≤ v.getD i 0 ∧ v.getD i 0 ≤ 0) :
    Calls Try.prog 48 #[.pointer (some ⟨sp, 0, none⟩)] W fun e W' => ∃ A' c', e = .returned (.slice A' (firstF T m (fun i => u.getD (i + 1) 0) (fun j => v.getD (j + 1) 0) (List.range n) (List.replicate m false) []).length c') ∧
      W'.ownsRow W.heap.size 3 1 (.slice A' (firstF T m (fun i => u.getD (i + 1) 0) (fun j => v.getD (j + 1) 0) (List.range n) (List.replicate m false) []).length c') (firstF T m (fun i => u.getD (i + 1) 0) (fun j => v.getD (j + 1) 0) (List.range n) (List.replicate m false) []).length
        ((castL (firstF T m (fun i => u.getD (i + 1) 0) (fun j => v.getD (j + 1) 0) (List.range n) (List.replicate m false) [])).flatMap intE) ∧ Below W.heap.size W W' := by
  refine calls_cps ?_
  intro R hR
  obtain ⟨uf, huf⟩ : ∃ uf, (fun i => u.getD (i + 1) 0) = uf := ⟨_, rfl⟩
  obtain ⟨vf, hvf⟩ : ∃ vf, (fun j => v.getD (j + 1) 0) = vf := ⟨_, rfl⟩
  have hmay := fun (W1 : World) (bx bt bk : Nat) (taken : List Bool) (hF : Ft W W1 bx bt bk sp m taken) => tight_may W W1 bx bt bk sp n c m bu bv bp bw A T u v p way taken hF hS hT hok hu hv
  rw [huf, hvf] at hR hmay
  obtain ⟨FT, hFT⟩ : ∃ FT, firstF T m uf vf (List.range n) (List.replicate m false) [] = FT := ⟨_, rfl⟩
  rw [hFT] at hR
  have hn := hT.1
  have hn1 : 1 ≤ n := by rw [hn]; exact hok.n1
  have hm64 := hok.m64
  have hnm : n ≤ m := by rw [hn]; exact hok.nm
  have hcn := fun (fr : Nat) (taken : List Bool) => completes_n (T := T) (n := n) (m := m) (fr := fr) (u := uf) (v := vf) (taken := taken) hn
  have Hcn := Lib.hid hcn
  have Hmay := Lib.hid hmay
  have Hvf := Lib.hid (show ∀ j, vf j = v.getD (j + 1) 0 from fun j => by rw [← hvf])
  have HFT := Lib.hid hFT
  have HS := Lib.hid hS
  have hsl := hS.lt
  obtain ⟨q0, q1, q2, q3, q4⟩ := hS.cells
  have n1 : sp ≠ W.heap.size := by omega
  have z1 : IntKind.i64.wrap ((n : Int) + 1 - 1) = (n : Int) := by rw [show (n : Int) + 1 - 1 = n by omega]; exact IntWalk.i64_in _ (by omega)
  have z2 : IntKind.i64.wrap ((m : Int) + 1 - 1) = (m : Int) := by rw [show (m : Int) + 1 - 1 = m by omega]; exact IntWalk.i64_in _ (by omega)
  clear huf hvf hmay hFT hcn hS hT hok hu hv hn
  go_enter Try.func48, Try.ntmps48
  go_wp2_with fail
  go_quiet (fail)
  rename_i nq
  clear z1 z2 q0 q1 q2 q3 q4 n1
  have hbd := below_drewN (below_new W (.cells #[.pointer (some ⟨sp, 0, none⟩)] 73)) nq
  have hx : ((W.alloc (.cells #[.pointer (some ⟨sp, 0, none⟩)] 73)).drewN nq).heap[W.heap.size]? = some (.cells #[.pointer (some ⟨sp, 0, none⟩)] 73 (0, 0)) := heap_alloc_new W _
  generalize ((W.alloc (.cells #[.pointer (some ⟨sp, 0, none⟩)] 73)).drewN nq) = wd at *
  have Hbd := Lib.hid hbd
  have Hx := Lib.hid hx
  have hsz := hbd.size
  clear hbd hx
  go_wp2_with (at_make; refine wpList_mkZ rfl (.tmp 22) (.tmp 22) _ rfl 4 Try.underlying91 infoBool rfl (by omega) _ m rfl rfl rfl (by omega) ?_; intro w2 hw2 hg2)
  have hft : Ft W (w2.alloc (.cells #[.slice (some ⟨wd.heap.size, 0, none⟩) m m] 91)) W.heap.size w2.heap.size wd.heap.size sp m (List.replicate m false) :=
    ⟨((below_new w2 _).block _ (Nat.lt_of_lt_of_le (Array.getElem?_eq_some_iff.1 Hx.out).1 hg2.size)).trans ((hg2.block _ (Array.getElem?_eq_some_iff.1 Hx.out).1 (by simp)).trans Hx.out), heap_alloc_new w2 _, ((below_new w2 _).block _ (Array.getElem?_eq_some_iff.1 hw2).1).trans (by rw [hw2]; simp), by simp, hsz, (Hbd.out.grown hg2 hsz (fun k hk => by cases hk)).alloc (Nat.le_trans hsz hg2.size) _⟩
  obtain ⟨bt, hbt⟩ : ∃ b, w2.heap.size = b := ⟨_, rfl⟩
  obtain ⟨bx, hbx⟩ : ∃ b, W.heap.size = b := ⟨_, rfl⟩
  obtain ⟨bk, hbk⟩ : ∃ b, wd.heap.size = b := ⟨_, rfl⟩
  rw [hbt, hbk] at hft ⊢
  rw [hbx] at hft ⊢
  have Hft := Lib.hid hft
  clear hw2 hg2 hbt hbk hbx hft
  go_loopg [6, 8, 9, 26, 30] n (fun gk s6 s8 s9 s26 s30 wr => ∃ (row c6 : Nat) (A6 : Option Addr) (l : List Nat) (taken : List Bool), row + gk = n ∧ s26 = .int .i64 ((row : Nat) : Int) ∧ s6 = .slice A6 l.length c6 ∧ l.length ≤ row ∧ wr.ownsRow W.heap.size 3 1 (.slice A6 l.length c6) l.length ((castL l).flatMap intE) ∧ Ft W wr bx bt bk sp m taken ∧
    Hid (firstF T m uf vf ((List.range n).drop row) taken l = FT))
  case atStart => exact ⟨0, 0, none, [], _, by omega, rfl, rfl, Nat.le_refl _, World.ownsRow_nil _ _ _ _, Hft.out, HFT⟩
  case round =>
    obtain ⟨row, c6, A6, l, taken, hgk, rfl, rfl, hll, ho, hF, He⟩ := hrel
    obtain ⟨wi, rfl⟩ : ∃ wi : World, wi = wr := ⟨_, rfl⟩
    by_cases hlt : row < n
    · have i1 : (row : Int) < (n : Int) := by omega
      obtain ⟨ga, rfl⟩ : ∃ ga, gk = ga + 1 := ⟨gk - 1, by omega⟩
      obtain ⟨Ll, hLl⟩ : ∃ Ll, l.length = Ll := ⟨_, rfl⟩
      rw [hLl] at hll ho ⊢
      have HLl := Lib.hid hLl
      have Hdr := Lib.hid (drop_range_cons hlt)
      have Ho := Lib.hid ho
      have HF := Lib.hid hF
      clear hLl ho hF
      go_wp2_with fail
      go_loopg [6, 9, 30] m (fun g2 s6 s9 s30 wr => ∃ col : Nat, col + g2 = m ∧ s30 = .int .i64 ((col : Nat) : Int) ∧ s6 = .slice A6 Ll c6 ∧ wr.ownsRow W.heap.size 3 1 (.slice A6 Ll c6) Ll ((castL l).flatMap intE) ∧ Ft W wr bx bt bk sp m taken ∧ Hid (∀ j, j < col → (tightF T uf vf taken row j && completesB T m uf vf (row + 1) (taken.set j true)) = false))
      case atStart => exact ⟨0, by omega, rfl, rfl, Ho.out, HF.out, Lib.hid (fun j hj => by omega)⟩
      case round =>
        obtain ⟨col, hgc, rfl, rfl, ho, hF, Hc⟩ := hrel
        obtain ⟨wj, rfl⟩ : ∃ wj : World, wj = wr := ⟨_, rfl⟩
        by_cases hltc : col < m
        · have i2 : (col : Int) < (m : Int) := by omega
          have Hm := Lib.hid (Hmay.out wj bx bt bk taken hF wj row col (Below.refl _ _) hlt hltc)
          have Ho2 := Lib.hid ho
          have HF2 := Lib.hid hF
          have htl : taken.length = m := hF.tl
          have Htl := Lib.hid htl
          clear ho hF htl
          go_wp2_with fail
          refine Hm.out.mono ?_
          cases htg : tightF T uf vf taken row col with
          | false =>
            have HC := Lib.hid (show ∀ j, j < col + 1 → (tightF T uf vf taken row j && completesB T m uf vf (row + 1) (taken.set j true)) = false from fun j hj => by
              by_cases e : j = col
              · subst e; rw [htg]; rfl
              · exact Hc.out j (by omega))
            clear htg
            rintro e w5 ⟨rfl, hq⟩
            have ho5 := ownsRow_below Ho2.out hq.below
            have hF5 := HF2.out.below hq.below
            have Ho5 := Lib.hid ho5
            have HF5 := Lib.hid hF5
            clear ho5 hF5 hq
            go_wp2_with fail
            go_roundg (gk - 1)
            case measure => omega
            case rel => exact ⟨col + 1, by omega, by go_num, rfl, Ho5.out, HF5.out, HC⟩
          | true =>
            have htk : taken.getD col false = false := by
              unfold tightF at htg
              cases hx : taken.getD col false with
              | false => rfl
              | true => rw [hx] at htg; simp at htg
            have Htg := Lib.hid htg
            have Htk := Lib.hid htk
            clear htg htk
            rintro e w5 ⟨rfl, hq⟩
            have ho5 := ownsRow_below Ho2.out hq.below
            have hF5 := HF2.out.below hq.below
            have hF6 := hF5.set col true
            have ho6 := ho5.kept (grownBy_setCellAt w5 bk col (.bool true)) (.inr (ownsRow_ne ho5 (show w5.heap[bk]? = _ from hF5.hbk) (by decide)))
            have qt : w5.cell? ⟨bt, 0, none⟩ = some (.slice (some ⟨bk, 0, none⟩) m m) := by rw [cell_of_row _ _ 0 _ _ (0, 0) hF5.hbt]; rfl
            have qx : w5.cell? ⟨bx, 0, none⟩ = some (.pointer (some ⟨sp, 0, none⟩)) := by rw [cell_of_row _ _ 0 _ _ (0, 0) hF5.hbx]; rfl
            obtain ⟨nb1, nb2⟩ := hF5.ne
            obtain ⟨d1, d2⟩ := hF5.hbk.at_ (k := col) (by rw [hF5.tl]; exact hltc)
            have Ho6 := Lib.hid ho6
            have HF6 := Lib.hid hF6
            have HS6 := Lib.hid (HS.out.below hF6.bel)
            have Hm6 := Lib.hid (Hmay.out _ bx bt bk _ hF6)
            have z3 : IntKind.i64.wrap ((row : Int) + 1) = (row : Int) + 1 := IntWalk.i64_in _ (by omega)
            clear ho5 hF5 hF6 ho6 hq
            go_wp2_with fail
            refine (completes_any _ sp n c m bu bv bp bw bk (row + 1) A u v p way (taken.set col true) 63 _ (tightF T uf vf (taken.set col true)) vf HS6.out HF6.out.hbk HF6.out.tl Enters63 Hm6.out hn1 (by omega) (by omega) hm64 (by omega) Hvf.out).mono ?_
            rw [← Hcn.out]
            rintro e w7 ⟨rfl, hb7⟩
            have hF7 := HF6.out.below hb7
            have ho7 := ownsRow_below Ho6.out hb7
            have HF7 := Lib.hid hF7
            have Ho7 := Lib.hid ho7
            have qt : w7.cell? ⟨bt, 0, none⟩ = some (.slice (some ⟨bk, 0, none⟩) m m) := by rw [cell_of_row _ _ 0 _ _ (0, 0) hF7.hbt]; rfl
            obtain ⟨d3, d4⟩ := hF7.hbk.at_ (k := col) (by rw [hF7.tl]; exact hltc)
            have hF8 := hF7.set col false
            rw [set_back Htk.out (by rw [Htl.out]; exact hltc)] at hF8
            have HF8 := Lib.hid hF8
            have Ho8 := Lib.hid (ho7.kept (grownBy_setCellAt w7 bk col (.bool false)) (.inr (ownsRow_ne ho7 (show w7.heap[bk]? = _ from hF7.hbk) (by decide))))
            clear hF7 ho7 hF8 hb7 qx d1 d2
            cases hcp : completesB T m uf vf (row + 1) (taken.set col true) with
            | true =>
              have HN := Lib.hid (nextC_some hltc Hc.out (by rw [Htg.out, hcp]; rfl))
              have HE := Lib.hid (show firstF T m uf vf ((List.range n).drop (row + 1)) (taken.set col true) (l ++ [col]) = FT by rw [← firstF_some HN.out, ← Hdr.out]; exact He.out)
              have hlo : W.heap.size ≤ w7.heap.size := HF7.out.bel.size
              have hLl2 : (l ++ [col]).length = Ll + 1 := by rw [List.length_append, HLl.out]; rfl
              have HLl2 := Lib.hid hLl2
              clear hcp hLl2 d3 d4 qt
              go_wp2_with (at_builtin; refine wpList_app rfl (.tmp 47) (.tmp 49) _ rfl elemInt W.heap.size _ _ _ rfl (Ho7.out.kept (World.grownBy_alloc w7 _ none) (by cases (Value.slice A6 Ll c6).ownBlock <;> simp)) _ _ _ _ rfl (Sl.new _ _ _ 1 1 rfl) (by simp [Value.oneCell']) (by unfold maxLen; omega) (by omega) (by simp; omega) ?_; intro A9 c9 w9 ho9 hg9 _; have hF9 := (HF7.out.below (below_new w7 (.cells #[.int .i64 (col : Int)] 3))).grown (Ho7.out.kept (World.grownBy_alloc w7 _ none) (by cases (Value.slice A6 Ll c6).ownBlock <;> simp)) (Nat.le_refl _) hg9; have HO9 := Lib.hid (show w9.ownsRow W.heap.size 3 1 (.slice A9 (Ll + 1) c9) (Ll + 1) ((castL (l ++ [col])).flatMap intE) from by rw [castL_snoc, List.flatMap_append]; exact ho9); have HF9 := Lib.hid hF9; clear ho9 hg9 hF9)
              go_roundg ga
              case measure => omega
              case rel => exact ⟨row + 1, c9, A9, l ++ [col], taken.set col true, by omega, by go_num, by rw [HLl2.out], by rw [HLl2.out]; omega, by rw [HLl2.out]; exact HO9.out, HF9.out, HE⟩
            | false =>
              have HC := Lib.hid (show ∀ j, j < col + 1 → (tightF T uf vf taken row j && completesB T m uf vf (row + 1) (taken.set j true)) = false from fun j hj => by
                by_cases e : j = col
                · subst e; rw [hcp]; simp
                · exact Hc.out j (by omega))
              clear hcp
              go_wp2_with fail
              go_roundg (gk - 1)
              case measure => omega
              case rel => exact ⟨col + 1, by omega, by go_num, rfl, Ho8.out, HF8.out, HC⟩
        · obtain rfl : col = m := by omega
          have HE := Lib.hid (show firstF T col uf vf ((List.range n).drop (row + 1)) taken l = FT by rw [← firstF_none (nextC_none Hc.out), ← Hdr.out]; exact He.out)
          have Ho2 := Lib.hid ho
          have HF2 := Lib.hid hF
          clear ho hF
          go_wp2_with fail
          go_roundg ga
          case measure => omega
          case rel => exact ⟨row + 1, c6, A6, l, taken, by omega, by go_num, by rw [HLl.out], by rw [HLl.out]; omega, by rw [HLl.out]; exact Ho2.out, HF2.out, HE⟩
    · obtain rfl : n = row := by omega
      have hst := He.out
      rw [List.drop_of_length_le (by simp), firstF] at hst
      subst hst
      have Hf := Lib.hid (hR.out (.returned (.slice A6 l.length c6)) wi ⟨A6, c6, rfl, ho, hF.bel⟩)
      clear ho hF
      go_wp2
      exact Hf.out
end
end Go.Proofs.Ytjdhcdoekfikpaa
