/-
  The contract of slices.Repeat of a list of one, at most 1000 times; and the product that it reckons.
-/
import Derived.Test.YtjdhcdoekfikpaaMRFind
import Derived.Laws.BitsAll
import Derived.Laws.ShiftsVar
import Derived.Laws.CopyOwn
import Derived.Deep.RegionHeld3
namespace Go.Proofs.Ytjdhcdoekfikpaa
open Go.RowKit

theorem and_mask {m : Nat} (h : m < 4294967296) : m &&& 4294967295 = m := by
  have := Nat.and_two_pow_sub_one_eq_mod m 32
  simp only [Nat.reducePow, Nat.reduceSub] at this
  rw [this]; exact Nat.mod_eq_of_lt h
set_option maxHeartbeats 1000000 in
theorem mul64_one (m : Nat) (hm : m ≤ 1000) (w : World) : Calls Try.prog 75 #[.int .u64 1, .int .u64 (m : Int)] w fun e w' => e = .returned (.tuple #[.int .u64 0, .int .u64 (m : Int)]) ∧ w = w' := by
  have b1 : bits .and .u64 1 4294967295 = 1 := by decide
  have b2 : bits .and .u64 (m : Int) 4294967295 = (m : Int) := by
    have := u64_and_nat m 4294967295 (by omega) (by omega)
    rw [and_mask (by omega)] at this
    exact this
  have b3 : bits .and .u64 0 4294967295 = 0 := by decide
  have w1 : IntKind.u64.wrap (m : Int) = (m : Int) := by simp [IntKind.wrap, IntKind.bits, IntKind.signed]; omega
  have h4 : (m : Int) / 4294967296 = 0 := by omega
  go_enter Try.func75, Try.ntmps75
  go_wp2
  go_ret2
  exact ⟨rfl, rfl⟩
set_option maxHeartbeats 1000000 in
theorem mul_one (m : Nat) (hm : m ≤ 1000) (w : World) : Calls Try.prog 72 #[.int .u64 1, .int .u64 (m : Int)] w fun e w' => e = .returned (.tuple #[.int .u64 0, .int .u64 (m : Int)]) ∧ w = w' := by
  go_enter Try.func72, Try.ntmps72
  go_wp2_with (go_at_call 75; refine (mul64_one m hm _).mono ?_; rintro e w' ⟨rfl, rfl⟩)
  go_ret2
  exact ⟨rfl, rfl⟩
/-- m cells, the first k of them -1, the others 0. -/
def rep1 (x : Int) (m k : Nat) : List Value := List.replicate k (.int .i64 x) ++ List.replicate (m - k) (.int .i64 0)
theorem rep1_len {x : Int} {m k : Nat} (h : k ≤ m) : (rep1 x m k).length = m := by simp [rep1]; omega
theorem rep1_splice {x : Int} {m k c : Nat} (h : k + c ≤ m) : splice (rep1 x m k) k (List.replicate c (.int .i64 x)) = rep1 x m (k + c) := by
  have h1 : (rep1 x m k).take k = List.replicate k (.int .i64 x) := by
    unfold rep1
    rw [List.take_append_of_le_length (by simp), List.take_of_length_le (by simp)]
  have h2 : (rep1 x m k).drop (k + c) = List.replicate (m - (k + c)) (.int .i64 0) := by
    unfold rep1
    rw [List.drop_append, List.drop_of_length_le (by simp), List.nil_append, List.length_replicate, List.drop_replicate]
    congr 1; omega
  unfold splice
  rw [List.length_replicate, h1, h2, ← List.append_assoc, List.replicate_append_replicate]
  rfl
theorem rep1_at {x : Int} {m k j : Nat} (hj : j < k) : (rep1 x m k)[j]? = some (.int .i64 x) := by
  unfold rep1
  rw [List.getElem?_append_left (by simpa using hj), List.getElem?_replicate, if_pos hj]
theorem infoInt8 : (Try.prog.info? 3).map (fun i => (i.zero, i.size, i.bytes)) = some (some (.int .i64 0), 1, 8) := by kernel_rfl
theorem infoIntSz : (Try.prog.info? 3).map (·.size) = some 1 := by kernel_rfl
set_option maxRecDepth 100000 in
set_option maxHeartbeats 1000000 in
theorem repeat_any (x : Int) (A : Option Addr) (c m : Nat) (hm1 : 1 ≤ m) (hm : m ≤ 1000) (w : World) (hA : SlE intE 1 w A 1 [x]) :
    Calls Try.prog 66 #[.slice A 1 c, .int .i64 (m : Int)] w fun e w' => ∃ g, e = .returned (.slice (some ⟨g, 0, none⟩) m m) ∧ w.heap.size ≤ g ∧ w'.heap[g]? = some (.cells (rep1 x m m).toArray 3 (0, 0)) ∧ Below w.heap.size w w' := by
  refine calls_cps ?_
  intro R hR
  have hg0 : (0 : Int) ≤ (m : Int) := by omega
  have cv : IntKind.u64.wrap (m : Int) = (m : Int) := by simp [IntKind.wrap, IntKind.bits, IntKind.signed]; omega
  go_enter Try.func66, Try.ntmps66
  obtain ⟨b, o, y, rfl, hbl, hx, hcell⟩ := hA.at1 (k := 0) (by omega)
  obtain rfl : x = y := by simpa using hx
  clear hx
  go_wp2_with (first
    | (go_at_call 72; refine (mul_one m hm _).mono ?_; rintro e w' ⟨rfl, rfl⟩)
    | (at_make; refine wpList_mkInt rfl (.tmp 29) (.tmp 29) _ rfl 3 Try.underlying26 infoInt8 m m rfl rfl rfl (by omega) ?_; intro w2 hw2 hg2; have hb2 : Below w.heap.size w w2 := (Below.refl _ _).grown hg2 (Nat.le_refl _) (fun k hk => by cases hk); have hc0 : w2.heap[w.heap.size]? = some (.cells (rep1 x m 0).toArray 3 (0, 0)) := hw2.trans (by simp [rep1]); have hcw : w2.cell? ⟨b, o, none⟩ = some (.int .i64 x) := (hb2.cell (p := ⟨b, o, none⟩) hbl).trans (by simpa using hcell); clear hw2 hg2)
    | (refine wpList_copy_splice rfl (.tmp 31) (.tmp 32) 26 26 rfl 3 Try.underlying26 infoIntSz (some ⟨w.heap.size, 0, none⟩) (some ⟨b, o, none⟩) m m 1 c rfl rfl w.heap.size 0 (rep1 x m 0) 3 hc0 (List.replicate 1 (.int .i64 x)) (Nat.min_eq_left hm1).symm (fun _ => ⟨rfl, ⟨b, o, none⟩, rfl, fun j v hv => by cases j with | zero => (simp at hv; subst hv; simpa [Addr.add] using hcw) | succ j => simp at hv⟩) (by simp [rep1]; omega) (by intro v hv; simp at hv; subst hv; rfl) w.heap.size w hb2 (Nat.le_refl _) ?_; intro w3 h3 hb3; have hc1 : w3.heap[w.heap.size]? = some (.cells (rep1 x m 1).toArray 3 (0, 0)) := h3.out.trans (by rw [rep1_splice (by omega)]); clear h3))
  clear hcw hc0 hb2 hcell
  go_loopw [8] (fun s8 wr => ∃ k : Nat, 1 ≤ k ∧ k ≤ m ∧ s8 = .int .i64 k ∧ wr.heap[w.heap.size]? = some (.cells (rep1 x m k).toArray 3 (0, 0)) ∧ Below w.heap.size w wr) (fun s8 _ => m - (intOf s8).toNat)
  case atStart => exact ⟨1, by omega, hm1, rfl, hc1, hb3⟩
  case round =>
    clear hc1 hb3
    obtain ⟨k, hk1, hkm, rfl, hc, hb⟩ := hrel
    obtain ⟨wi, rfl⟩ : ∃ wi : World, wi = wr := ⟨_, rfl⟩
    by_cases hlt : k < m
    · have i1 : (k : Int) ≤ (m : Int) := by omega
      have i2 : (0 : Int) ≤ (k : Int) := by omega
      have hmk : ¬ m = k := by omega
      obtain ⟨q, hq⟩ : ∃ q, Nat.min k (m - k) = q := ⟨_, rfl⟩
      have hq1 : 1 ≤ q := by rw [← hq]; exact Nat.le_min.2 ⟨hk1, by omega⟩
      have hq2 : q ≤ m - k := by rw [← hq]; exact Nat.min_le_right _ _
      have hq3 : q ≤ k := by rw [← hq]; exact Nat.min_le_left _ _
      have Hq := Lib.hid hq
      have Hc := Lib.hid hc
      have Hb := Lib.hid hb
      have z1 : IntKind.i64.wrap ((k : Int) + (q : Int)) = (k : Int) + (q : Int) := IntWalk.i64_in _ (by omega)
      clear hq hc hb
      go_wp2_with fail
      have hsrc : ∀ (W : World), W.heap[w.heap.size]? = some (.cells (rep1 x m k).toArray 3 (0, 0)) → ∀ j v, (List.replicate q (Value.int .i64 x))[j]? = some v → W.cell? ((⟨w.heap.size, 0, none⟩ : Addr).add j) = some v := fun W hcd j v hv => by
        have hj : j < q := by have := (List.getElem?_eq_some_iff.1 hv).1; simpa using this
        rw [List.getElem?_replicate, if_pos hj] at hv
        have hadd : (⟨w.heap.size, 0, none⟩ : Addr).add j = ⟨w.heap.size, j, none⟩ := by unfold Addr.add; split <;> simp_all
        rw [hadd, ← hv, cell_of_row _ _ _ _ _ (0, 0) hcd]
        simpa using rep1_at (x := x) (m := m) (show j < k by omega)
      have Hcd := Lib.hid (show wi.drew.heap[w.heap.size]? = some (.cells (rep1 x m k).toArray 3 (0, 0)) from Hc.out)
      have Hbd := Lib.hid (show Below w.heap.size w wi.drew from Hb.out.drew)
      have Hsrc := Lib.hid (hsrc wi.drew Hcd.out)
      have Hfit := Lib.hid (show k + (List.replicate q (Value.int .i64 x)).length ≤ (rep1 x m k).length by rw [List.length_replicate, rep1_len (by omega)]; omega)
      have Hone := Lib.hid (show ∀ v ∈ List.replicate q (Value.int .i64 x), v.oneCell' = true from fun v hv => by have := List.eq_of_mem_replicate hv; subst this; rfl)
      have Hn := Lib.hid (show (List.replicate q (Value.int .i64 x)).length = Nat.min k (m - k) by rw [List.length_replicate]; exact Hq.out.symm)
      clear hsrc
      go_region_held3 (fun _ => True) (trivial) (first
        | (refine step_copy_splice rfl (.tmp 41) (.tmp 44) 26 26 (by rfl) 3 Try.underlying26 infoIntSz (some ⟨w.heap.size, k, none⟩) (some ⟨w.heap.size, 0, none⟩) (m - k) (m - k) k m (by rfl) (by rfl) w.heap.size k (rep1 x m k) 3 Hcd.out (List.replicate q (.int .i64 x)) Hn.out (fun _ => ⟨rfl, ⟨w.heap.size, 0, none⟩, rfl, Hsrc.out⟩) Hfit.out Hone.out w.heap.size w Hbd.out (Nat.le_refl _) ?_; intro w3 h3 hb3))
      have hc1 : w3.heap[w.heap.size]? = some (.cells (rep1 x m (k + q)).toArray 3 (0, 0)) := h3.out.trans (by rw [rep1_splice (by omega)])
      clear h3
      go_wp2
      refine ⟨⟨k + q, by omega, by omega, ?_, hc1, hb3⟩, ?_⟩
      · simp []
      · simp [intOf]; omega
    · obtain rfl : m = k := by omega
      have Hfin := Lib.hid (hR.out (.returned (.slice (some ⟨w.heap.size, 0, none⟩) m m)) wi ⟨_, rfl, Nat.le_refl _, hc, hb⟩)
      clear hc hb
      go_wp2
      exact Hfin.out
end Go.Proofs.Ytjdhcdoekfikpaa
