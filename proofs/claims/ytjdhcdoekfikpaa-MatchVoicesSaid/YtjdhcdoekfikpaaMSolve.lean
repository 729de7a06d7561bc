/-
  The contract of match.solve: all rows get columns; condition: the table is valid.
-/
import Derived.Test.YtjdhcdoekfikpaaMPlaceW
import Derived.Test.YtjdhcdoekfikpaaMFc
namespace Go.Proofs.Ytjdhcdoekfikpaa
open Go.RowKit

theorem alloc5 (w : World) (o0 o1 o2 o3 o4 : Obj) : (((((w.alloc o0).alloc o1).alloc o2).alloc o3).alloc o4).heap[w.heap.size]? = some o0 ∧ (((((w.alloc o0).alloc o1).alloc o2).alloc o3).alloc o4).heap[w.heap.size + 1]? = some o1 ∧
    (((((w.alloc o0).alloc o1).alloc o2).alloc o3).alloc o4).heap[w.heap.size + 1 + 1]? = some o2 ∧ (((((w.alloc o0).alloc o1).alloc o2).alloc o3).alloc o4).heap[w.heap.size + 1 + 1 + 1]? = some o3 ∧
    (((((w.alloc o0).alloc o1).alloc o2).alloc o3).alloc o4).heap[w.heap.size + 1 + 1 + 1 + 1]? = some o4 ∧ Below w.heap.size w ((((w.alloc o0).alloc o1).alloc o2).alloc o3 |>.alloc o4) := by
  have b4 := below_new ((((w.alloc o0).alloc o1).alloc o2).alloc o3) o4
  have b3 := below_new (((w.alloc o0).alloc o1).alloc o2) o3
  have b2 := below_new ((w.alloc o0).alloc o1) o2
  have b1 := below_new (w.alloc o0) o1
  have b0 := below_new w o0
  have h0 := heap_alloc_new w o0
  have h1 := heap_alloc_new (w.alloc o0) o1
  have h2 := heap_alloc_new ((w.alloc o0).alloc o1) o2
  have h3 := heap_alloc_new (((w.alloc o0).alloc o1).alloc o2) o3
  have h4 := heap_alloc_new ((((w.alloc o0).alloc o1).alloc o2).alloc o3) o4
  simp only [World.size_alloc] at h1 h2 h3 h4 b1 b2 b3 b4
  refine ⟨?_, ?_, ?_, ?_, h4, ?_⟩
  · exact (b4.block _ (by omega)).trans ((b3.block _ (by omega)).trans ((b2.block _ (by omega)).trans ((b1.block _ (by omega)).trans h0)))
  · exact (b4.block _ (by omega)).trans ((b3.block _ (by omega)).trans ((b2.block _ (by omega)).trans h1))
  · exact (b4.block _ (by omega)).trans ((b3.block _ (by omega)).trans h2)
  · exact (b4.block _ (by omega)).trans h3
  · exact b0.trans ((b1.mono (by omega)).trans ((b2.mono (by omega)).trans ((b3.mono (by omega)).trans (b4.mono (by omega)))))
theorem blk_made {W : World} {b k : Nat} (h : W.heap[b]? = some (.cells (madeCells #[Value.int .i64 0] k) 3 (0, 0))) : Blk W b (List.replicate k 0) := by
  unfold Blk
  rw [h]
  congr 2
  apply Array.toList_inj.1
  rw [toList_madeCells_one]
  simp
theorem castL_rep (k x : Nat) : castL (List.replicate k x) = List.replicate k (x : Int) := by simp [castL]
theorem run_mkInt (k : Nat) (hm : k ≤ 1000) (w : World) : (Instr.makeSlice 26 (.int .i64 ((k : Int) + 1)) (.int .i64 ((k : Int) + 1))).run Try.prog w = .ok (.slice (some ⟨w.heap.size, 0, none⟩) (k + 1) (k + 1)) (w.alloc (.cells (madeCells #[Value.int .i64 0] (k + 1)) 3)) :=
  run_make_row' 26 3 (.int .i64 0) 8 Try.underlying26 infoInt8 rfl .i64 .i64 (k + 1) (by omega) (by omega) w
theorem Sv.drew {W : World} {sp n c m bu bv bp bw : Nat} {A : Option Addr} {u v : List Int} {p way : List Nat} (h : Sv W sp A n c m bu bv bp bw u v p way) : Sv W.drew sp A n c m bu bv bp bw u v p way := h.drewN 1
theorem sv_exists {W wd : World} {A : Option Addr} {n c m sp bu bv bp bw : Nat}
    (hbox : W.heap[sp]? = some (.cells #[.slice A n c, .slice (some ⟨bu, 0, none⟩) (n + 1) (n + 1), .slice (some ⟨bv, 0, none⟩) (m + 1) (m + 1), .slice (some ⟨bp, 0, none⟩) (m + 1) (m + 1), .slice (some ⟨bw, 0, none⟩) (m + 1) (m + 1)] 79 (0, 0)))
    (hu : W.heap[bu]? = some (.cells (madeCells #[Value.int .i64 0] (n + 1)) 3 (0, 0))) (hv : W.heap[bv]? = some (.cells (madeCells #[Value.int .i64 0] (m + 1)) 3 (0, 0))) (hp : W.heap[bp]? = some (.cells (madeCells #[Value.int .i64 0] (m + 1)) 3 (0, 0)))
    (hw : W.heap[bw]? = some (.cells (madeCells #[Value.int .i64 0] (m + 1)) 3 (0, 0))) (hne : bu ≠ bv ∧ bu ≠ bp ∧ bu ≠ bw ∧ bv ≠ bp ∧ bv ≠ bw ∧ bp ≠ bw ∧ wd.heap.size ≤ sp ∧ wd.heap.size ≤ bu ∧ wd.heap.size ≤ bv ∧ wd.heap.size ≤ bp ∧ wd.heap.size ≤ bw) (hb : Below wd.heap.size wd W) :
    ∃ sp' bu bv bp bw, (Value.pointer (some ⟨sp, 0, none⟩)) = .pointer (some ⟨sp', 0, none⟩) ∧ Sv W.drew sp' A n c m bu bv bp bw (List.replicate (n + 1) 0) (List.replicate (m + 1) 0) (List.replicate (m + 1) 0) (List.replicate (m + 1) 0) ∧ Ne5 wd.heap.size sp' bu bv bp bw ∧ Below wd.heap.size wd W.drew := by
  obtain ⟨h1, h2, h3, h4, h5, h6, h7, h8, h9, h10, h11⟩ := hne
  refine ⟨sp, bu, bv, bp, bw, rfl, Sv.drew ⟨hbox, blk_made hu, blk_made hv, ?_, ?_, by simp, by simp, by simp, by simp⟩, ⟨h1, h2, h3, h4, h5, h6, h7, h8, h9, h10, h11⟩, hb.drew⟩
  · rw [castL_rep]; exact blk_made hp
  · rw [castL_rep]; exact blk_made hw
set_option maxRecDepth 100000 in
set_option maxHeartbeats 16000000 in
theorem solve_any (n c m : Nat) (A : Option Addr) (T : List (List Int)) (w : World) (hT : SlR w A n T) (hok : TOk T m) :
    Calls Try.prog 62 #[.slice A n c] w fun e w' => ∃ sp bu bv bp bw, e = .returned (.pointer (some ⟨sp, 0, none⟩)) ∧
      Sv w' sp A n c m bu bv bp bw (solveF (aF T) n m n).1 (solveF (aF T) n m n).2.1 (solveF (aF T) n m n).2.2.1 (solveF (aF T) n m n).2.2.2 ∧ Ne5 w.heap.size sp bu bv bp bw ∧ Below w.heap.size w w' := by
  refine calls_cps ?_
  intro R hR
  have hn1 : 1 ≤ n := by rw [hT.1]; exact hok.n1
  obtain ⟨b, o, A0, c0, rfl, hh⟩ := hT.head (by omega)
  rw [hok.wid] at hh
  have hm64 := hok.m64
  have hTn := hT.1
  have hnm : n ≤ m := by rw [hTn]; exact hok.nm
  have HT := Lib.hid hT
  have Hok := Lib.hid hok
  have Ha := Lib.hid (show ∀ i j, 1 ≤ i → i ≤ n → 1 ≤ j → j ≤ m → 0 ≤ aF T i j ∧ aF T i j ≤ DEAR by rw [hTn]; exact aF_bd hok.costOk)
  have i0 : 0 < n := by omega
  clear hT hok hTn
  go_enter Try.func62, Try.ntmps62
  go_wp2_with fail
  go_quiet (fail)
  rename_i nq
  have HT2 := Lib.hid (show SlR (w.drewN nq) (some ⟨b, o, none⟩) n T from HT.out)
  have Hbq := Lib.hid (show Below w.heap.size w (w.drewN nq) from below_drewN (Below.refl _ _) nq)
  have hsz : (w.drewN nq).heap.size = w.heap.size := rfl
  rw [← hsz] at Hbq
  have Hsz := Lib.hid hsz
  clear hh hsz
  generalize w.drewN nq = wd at *
  have hmn := run_mkInt n (by omega)
  have hmm := run_mkInt m (by omega)
  have z1 : IntKind.i64.wrap ((n : Int) + 1) = (n : Int) + 1 := IntWalk.i64_in _ (by omega)
  have z2 : IntKind.i64.wrap ((m : Int) + 1) = (m : Int) + 1 := IntWalk.i64_in _ (by omega)
  go_wp2_with fail
  go_upto_region 2 with fail
  go_cut [5] (fun s5 wx => ∃ sp bu bv bp bw, s5 = .pointer (some ⟨sp, 0, none⟩) ∧ Sv wx sp (some ⟨b, o, none⟩) n c m bu bv bp bw (List.replicate (n + 1) 0) (List.replicate (m + 1) 0) (List.replicate (m + 1) 0) (List.replicate (m + 1) 0) ∧ Ne5 wd.heap.size sp bu bv bp bw ∧ Below wd.heap.size wd wx)
  case first =>
    go_region_held3 (fun _ => True) (trivial) (fail)
    all_goals
      go_wp2_with fail
      go_meet
      refine sv_exists (alloc5 wd _ _ _ _ _).2.2.2.2.1 ?_ ?_ ?_ ?_ ?_ (alloc5 wd _ _ _ _ _).2.2.2.2.2
      · first | exact (alloc5 wd _ _ _ _ _).1 | exact (alloc5 wd _ _ _ _ _).2.1 | exact (alloc5 wd _ _ _ _ _).2.2.1 | exact (alloc5 wd _ _ _ _ _).2.2.2.1
      · first | exact (alloc5 wd _ _ _ _ _).1 | exact (alloc5 wd _ _ _ _ _).2.1 | exact (alloc5 wd _ _ _ _ _).2.2.1 | exact (alloc5 wd _ _ _ _ _).2.2.2.1
      · first | exact (alloc5 wd _ _ _ _ _).1 | exact (alloc5 wd _ _ _ _ _).2.1 | exact (alloc5 wd _ _ _ _ _).2.2.1 | exact (alloc5 wd _ _ _ _ _).2.2.2.1
      · first | exact (alloc5 wd _ _ _ _ _).1 | exact (alloc5 wd _ _ _ _ _).2.1 | exact (alloc5 wd _ _ _ _ _).2.2.1 | exact (alloc5 wd _ _ _ _ _).2.2.2.1
      · omega
  case rest =>
    clear hmn hmm z1 z2
    obtain ⟨sp, bu, bv, bp, bw, hv5, hS, hN, hb⟩ := hcut
    subst hv5
    have HN := Lib.hid hN
    have hN' : Ne5 w.heap.size sp bu bv bp bw := by rw [← Hsz.out]; exact hN
    have hbw : Below w.heap.size w wc := by rw [← Hsz.out]; exact Hbq.out.trans hb
    have HNe := Lib.hid hN'
    have HS := Lib.hid hS
    have Hbw := Lib.hid hbw
    clear hN hN' hS hbw hb
    go_wp2_with fail
    go_loopg [6] n (fun gk s6 wr => ∃ k : Nat, k + gk = n ∧ s6 = .int .i64 ((k : Int) + 1) ∧ Sv wr sp (some ⟨b, o, none⟩) n c m bu bv bp bw (solveF (aF T) n m k).1 (solveF (aF T) n m k).2.1 (solveF (aF T) n m k).2.2.1 (solveF (aF T) n m k).2.2.2 ∧ Below w.heap.size w wr)
    case atStart => exact ⟨0, by omega, rfl, HS.out, Hbw.out⟩
    case round =>
      obtain ⟨k, hgk, rfl, hS, hb⟩ := hrel
      obtain ⟨wi, rfl⟩ : ∃ wi : World, wi = wr := ⟨_, rfl⟩
      by_cases hlt : k < n
      · have i1 : (k : Int) + 1 ≤ (n : Int) := by omega
        have HMI := Lib.hid (solve_ok (n := n) (m := m) Ha.out (by omega) hnm k (by omega))
        have HS := Lib.hid hS
        have Hb := Lib.hid hb
        have hst : solveF (aF T) n m (k + 1) = placeF (aF T) n m (k + 1) (solveF (aF T) n m k).1 (solveF (aF T) n m k).2.1 (solveF (aF T) n m k).2.2.1 (solveF (aF T) n m k).2.2.2 := rfl
        have Hst := Lib.hid hst
        clear hS hb hst
        go_wp2_with fail
        refine (place_any w sp n c m bu bv bp bw (some ⟨b, o, none⟩) T HT.out Hok.out HNe.out k hlt _ _ _ _ HMI.out wi Hb.out HS.out).mono ?_
        rw [← Hst.out]
        rintro e w4 ⟨rfl, hS4, hb4⟩
        have HS4 := Lib.hid hS4
        have HB4 := Lib.hid hb4
        clear hS4 hb4
        go_wp2_with fail
        go_roundg (gk - 1)
        case measure => omega
        case rel => exact ⟨k + 1, by omega, by go_num, HS4.out, HB4.out⟩
      · obtain rfl : n = k := by omega
        have Hfin := Lib.hid (hR.out (.returned (.pointer (some ⟨sp, 0, none⟩))) wi ⟨sp, bu, bv, bp, bw, rfl, hS, HNe.out, hb⟩)
        clear hS hb
        go_wp2
        exact Hfin.out
end Go.Proofs.Ytjdhcdoekfikpaa
