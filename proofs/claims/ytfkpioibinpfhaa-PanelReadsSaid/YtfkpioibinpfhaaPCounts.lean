/-
  The contracts of panel.Counts, and of Worth, Waste and Counts of a panel that is not valid; no condition but that the arguments read.
-/
import Derived.Test.YtfkpioibinpfhaaPWorthW
namespace Go.Proofs.Ytfkpioibinpfhaa
open Go.RowKit

set_option maxRecDepth 100000 in
set_option maxHeartbeats 2000000 in
theorem worth_no (W H k : Int) (B A : Option Addr) (m d n c : Nat) (ss : List Shp) (w : World) (hS : SlE Shp.enc 4 w B m ss) (hm : m ≤ 9223372036854775807) (hp : panOk W H k ss = false) :
    Calls Try.prog 31 #[.int .i64 W, .int .i64 H, .int .i64 k, .slice B m d, .slice A n c] w fun e w' => e = .returned (.tuple #[.int .i64 0, .int .i64 1]) ∧ Below w.heap.size w w' := by
  refine calls_cps ?_
  intro R hR
  go_enter Try.func31, Try.ntmps31
  go_wp2_with fail
  refine (layout_no W H k B A m d n c ss _ hS hm hp).mono ?_
  rintro e w1 ⟨rfl, hb1⟩
  go_wp2
  exact hR.out _ _ ⟨rfl, hb1⟩
set_option maxRecDepth 100000 in
set_option maxHeartbeats 2000000 in
theorem waste_no (W H k : Int) (B A : Option Addr) (m d n c : Nat) (ss : List Shp) (w : World) (hS : SlE Shp.enc 4 w B m ss) (hm : m ≤ 9223372036854775807) (hp : panOk W H k ss = false) :
    Calls Try.prog 33 #[.int .i64 W, .int .i64 H, .int .i64 k, .slice B m d, .slice A n c] w fun e w' => e = .returned (.tuple #[.int .i64 0, .int .i64 1]) ∧ Below w.heap.size w w' := by
  refine calls_cps ?_
  intro R hR
  go_enter Try.func33, Try.ntmps33
  go_wp2_with fail
  refine (layout_no W H k B A m d n c ss _ hS hm hp).mono ?_
  rintro e w1 ⟨rfl, hb1⟩
  go_wp2
  exact hR.out _ _ ⟨rfl, hb1⟩
set_option maxRecDepth 100000 in
set_option maxHeartbeats 2000000 in
theorem counts_no (W H k : Int) (B A : Option Addr) (m d n c : Nat) (ss : List Shp) (w : World) (hS : SlE Shp.enc 4 w B m ss) (hm : m ≤ 9223372036854775807) (hp : panOk W H k ss = false) :
    Calls Try.prog 32 #[.int .i64 W, .int .i64 H, .int .i64 k, .slice B m d, .slice A n c] w fun e w' => e = .returned (.tuple #[.slice none 0 0, .int .i64 1]) ∧ Below w.heap.size w w' := by
  refine calls_cps ?_
  intro R hR
  go_enter Try.func32, Try.ntmps32
  go_wp2_with fail
  refine (layout_no W H k B A m d n c ss _ hS hm hp).mono ?_
  rintro e w1 ⟨rfl, hb1⟩
  go_wp2
  exact hR.out _ _ ⟨rfl, hb1⟩
/-- How often each of m shapes is cut. -/
def cntP (m : Nat) (p : List Pc) : List Int := (List.range m).map fun (i : Nat) => (((p.filter fun q => q.S == (i : Int)).length : Nat) : Int)
theorem cntP_len (m : Nat) (p : List Pc) : (cntP m p).length = m := by simp [cntP]
theorem cntP_nil (m : Nat) : cntP m [] = List.replicate m 0 := by
  unfold cntP
  simp only [List.filter_nil, List.length_nil]
  rw [List.map_const']
  simp
theorem cntP_take (m : Nat) (p : List Pc) (j i : Nat) (q : Pc) (hq : p[j]? = some q) (hi : q.S = (i : Int)) (him : i < m) : ∃ x, (cntP m (p.take j))[i]? = some x ∧ 0 ≤ x ∧ x ≤ j ∧ cntP m (p.take (j + 1)) = (cntP m (p.take j)).set i (x + 1) := by
  obtain ⟨hj, rfl⟩ := List.getElem?_eq_some_iff.1 hq
  refine ⟨((((p.take j).filter fun q => q.S == (i : Int)).length : Nat) : Int), by simp [cntP, him], by omega, ?_, ?_⟩
  · have := List.length_filter_le (fun q : Pc => q.S == (i : Int)) (p.take j)
    rw [List.length_take] at this
    omega
  · apply List.ext_getElem?
    intro a
    rw [List.getElem?_set, cntP_len]
    by_cases ha : a < m
    · simp only [cntP, List.getElem?_map, List.getElem?_range ha, Option.map_some]
      rw [List.take_succ_eq_append_getElem hj, List.filter_append, List.length_append]
      by_cases hai : i = a
      · subst hai
        simp [hi, him]
      · have hne : ¬ (i : Int) = (a : Int) := by omega
        simp [hi, hne, hai]
    · rw [if_neg (by omega)]
      simp [cntP, ha]
theorem infoInt8 : (Try.prog.info? 3).map (fun i => (i.zero, i.size, i.bytes)) = some (some (.int .i64 0), 1, 8) := by kernel_rfl
def cntO (m : Nat) (res : Option (List Pc)) : List Int := match res with | some p => cntP m p | none => []
set_option maxRecDepth 100000 in
set_option maxHeartbeats 2000000 in
theorem counts_ok (W H k : Int) (B A : Option Addr) (m d n c : Nat) (ss : List Shp) (l : Cuts) (w : World) (hS : SlE Shp.enc 4 w B m ss) (hL : SlE cutE 2 w A n l) (hnc : n ≤ c) (hc : c ≤ 9223372036854775807) (hn : n ≤ 1000) (hp : panOk W H k ss = true) :
    Calls Try.prog 32 #[.int .i64 W, .int .i64 H, .int .i64 k, .slice B m d, .slice A n c] w fun e w' => Below w.heap.size w w' ∧ ∃ A' n' c', e = .returned (.tuple #[.slice A' n' c', .int .i64 (outE (planOut k ss W H l))]) ∧ n' = (cntO m (planOut k ss W H l)).length ∧ n' ≤ c' ∧ c' ≤ maxLen ∧ w'.ownsRow w.heap.size 3 1 (.slice A' n' c') n' ((cntO m (planOut k ss W H l)).flatMap intE) := by
  refine calls_cps ?_
  intro R hR
  have Hp := Lib.hid hp
  have hok := panOk_ok hp
  have hm16 : m ≤ 16 := by rw [hS.1]; exact hok.2.2.2.2.2.2.1
  have Hm := Lib.hid hS.1
  obtain ⟨res, hres⟩ : ∃ r, planOut k ss W H l = r := ⟨_, rfl⟩
  rw [hres] at hR
  have Hres := Lib.hid hres
  clear hp hok hres
  go_enter Try.func32, Try.ntmps32
  go_wp2_with fail
  refine (layout_ok W H k B A m d n c ss l _ hS hL hnc hc hn Hp.out).mono ?_
  rw [Hres.out]
  rintro e w1 ⟨hb1, ⟨rfl, rfl⟩ | ⟨p, A1, n1, c1, rfl, rfl, hn1, ho1⟩⟩
  · go_wp2
    exact hR.out _ _ ⟨hb1, none, 0, 0, rfl, rfl, Nat.le_refl _, by unfold maxLen; omega, World.ownsRow_nil _ _ _ _⟩
  · have Hpo := Lib.hid (planOut_ok Hp.out Hres.out)
    have hP1 := SlE.of_own ho1 hn1
    have hn4 : n1 ≤ 4096 := by rw [hn1]; exact Hpo.out.2.1
    have Hn1 := Lib.hid hn1
    clear hn1 ho1
    go_wp2_with (at_make; refine wpList_mkInt rfl (.tmp 30) (.tmp 30) _ rfl 3 Try.underlying45 infoInt8 m m rfl rfl rfl (by omega) ?_; intro w2 hw2 hg2)
    have hb2 : Below w1.heap.size w1 w2 := (Below.refl _ _).grown hg2 (Nat.le_refl _) (fun k hk => by cases hk)
    have hP2 := hP1.below hb2
    have hc0 : w2.heap[w1.heap.size]? = some (.cells ((cntP m (p.take 0)).map (Value.int .i64)).toArray 3 (0, 0)) := by
      rw [hw2, List.take_zero, cntP_nil]; simp
    have HA := Lib.hid (show 0 < n1 → ∀ a, A1 = some a → a.block < w1.heap.size from fun h0 a ha => by
      obtain ⟨b, o, hA, hlt, _⟩ := hP1.2.2 h0
      rw [ha] at hA
      injection hA with hA
      subst hA
      exact hlt)
    clear hw2 hg2 hP1
    go_loopw [34] (fun i wr => ∃ (j : Nat), j ≤ n1 ∧ i = .int .i64 j ∧ wr.heap[w1.heap.size]? = some (.cells ((cntP m (p.take j)).map (Value.int .i64)).toArray 3 (0, 0)) ∧ SlE pcE 5 wr A1 n1 p ∧ Below w1.heap.size w1 wr) (fun i _ => n1 - (intOf i).toNat)
    case atStart => exact ⟨0, by omega, rfl, hc0, hP2, hb2⟩
    case round =>
      clear hc0 hP2 hb2
      obtain ⟨j, hj, rfl, hc0, hP2, hb⟩ := hrel
      obtain ⟨wi, rfl⟩ : ∃ wi : World, wi = wr := ⟨_, rfl⟩
      by_cases hlt : j < n1
      · have hblt := HA.out (by omega)
        obtain ⟨b, o, q, rfl, hbl, hq, e0, e1, e2, e3, e4⟩ := hP2.at5 hlt
        have hbl2 := hblt _ rfl
        dsimp only at hbl2
        obtain ⟨_, _, _, _, i, sh, hqs, hsh, _⟩ := Hpo.out.1 q (List.mem_of_getElem? hq)
        have him : i < m := by rw [Hm.out]; exact (List.getElem?_eq_some_iff.1 hsh).1
        obtain ⟨x, hx, hx0, hxj, hT⟩ := cntP_take m p j i q hq hqs him
        have y0 : wi.cell? ⟨w1.heap.size, i, none⟩ = some (.int .i64 x) := by rw [cell_of_row _ _ _ _ _ (0, 0) hc0]; simp [hx]
        have y1 : wi.frozen? ⟨w1.heap.size, i, none⟩ = false := by simp [World.frozen?, hc0]
        have hgz := (Array.getElem?_eq_some_iff.1 hc0).1
        have hN : (wi.setCell ⟨w1.heap.size, i, none⟩ (.int .i64 (x + 1))).heap[w1.heap.size]? = some (.cells ((cntP m (p.take (j + 1))).map (Value.int .i64)).toArray 3 (0, 0)) := by
          simp [World.setCell, Array.getElem?_modify, hc0, hT, List.map_set]
        have HN := Lib.hid hN
        have HP := Lib.hid (show SlE pcE 5 (wi.setCell ⟨w1.heap.size, i, none⟩ (.int .i64 (x + 1))) (some ⟨b, o, none⟩) n1 p from ⟨hP2.1, hP2.2.setCell (fun _ a ha => by injection ha with ha; subst ha; dsimp only; omega) _⟩)
        have HB := Lib.hid (hb.setCell (p := ⟨w1.heap.size, i, none⟩) (Nat.le_refl _) (.int .i64 (x + 1)))
        rw [hqs] at e4
        have im : (i : Int) < (m : Int) := by omega
        clear hN hT hx hq hqs hsh hc0 hblt
        go_wp2
        exact ⟨⟨j + 1, by omega, by go_num, (Below.heap_alloc _ _ _ (by simpa [World.setCell] using hgz)).trans HN.out, HP.out.alloc _, HB.out.alloc HB.out.size _⟩, by simp [intOf]; omega⟩
      · obtain rfl : n1 = j := by omega
        rw [List.take_of_length_le (by rw [← Hn1.out]; exact Nat.le_refl _)] at hc0
        have Hfin := Lib.hid (hR.out (.returned (.tuple #[.slice (some ⟨w1.heap.size, 0, none⟩) m m, .int .i64 (outE (some p))])) wi ⟨hb1.trans (hb.mono hb1.size), _, m, m, rfl, (cntP_len m p).symm, Nat.le_refl _, by unfold maxLen; omega, by
          have hlen : ((cntP m p).map (Value.int .i64)).toArray.size = m * 1 := by simp [cntP_len]
          refine ⟨by rw [flat_length intE_len]; simp [cntO, cntP_len], .inr ⟨w1.heap.size, m, _, rfl, hb1.size, hc0, Nat.le_refl _, by unfold maxLen; omega, hlen, ?_⟩⟩
          rw [flat_int]
          exact List.take_of_length_le (by simp [cntP_len])⟩)
        rw [show outE (some p) = 0 from rfl] at Hfin
        clear hc0
        go_wp2
        exact Hfin.out
end Go.Proofs.Ytfkpioibinpfhaa
