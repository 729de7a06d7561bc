/-
  Contracts of panel.Worth and panel.Waste; no condition but that the arguments read.
-/
import Derived.Test.YtfkpioibinpfhaaPWorth
namespace Go.Proofs.Ytfkpioibinpfhaa
open Go.RowKit

set_option maxRecDepth 100000 in
set_option maxHeartbeats 2000000 in
theorem worth_ok (W H k : Int) (B A : Option Addr) (m d n c : Nat) (ss : List Shp) (l : Cuts) (w : World) (hS : SlE Shp.enc 4 w B m ss) (hL : SlE cutE 2 w A n l) (hnc : n ≤ c) (hc : c ≤ 9223372036854775807) (hn : n ≤ 1000) (hp : panOk W H k ss = true) :
    Calls Try.prog 31 #[.int .i64 W, .int .i64 H, .int .i64 k, .slice B m d, .slice A n c] w fun e w' => e = .returned (.tuple #[.int .i64 (worthO ss (planOut k ss W H l)), .int .i64 (outE (planOut k ss W H l))]) ∧ Below w.heap.size w w' := by
  refine calls_cps ?_
  intro R hR
  have Hp := Lib.hid hp
  have hok := panOk_ok hp
  have Hok := Lib.hid hok
  have hm16 : m ≤ 16 := by rw [hS.1]; exact hok.2.2.2.2.2.2.1
  have Hm := Lib.hid hS.1
  obtain ⟨res, hres⟩ : ∃ r, planOut k ss W H l = r := ⟨_, rfl⟩
  rw [hres] at hR
  have Hres := Lib.hid hres
  clear hp hok hres
  go_enter Try.func31, Try.ntmps31
  go_wp2_with fail
  refine (layout_ok W H k B A m d n c ss l _ hS hL hnc hc hn Hp.out).mono ?_
  rw [Hres.out]
  rintro e w1 ⟨hb1, ⟨rfl, rfl⟩ | ⟨p, A1, n1, c1, rfl, rfl, hn1, ho1⟩⟩
  · go_wp2
    exact hR.out _ _ ⟨rfl, hb1⟩
  · have hpo := planOut_ok Hp.out Hres.out
    have Hpo := Lib.hid hpo
    have hP1 := SlE.of_own ho1 hn1
    have hn4 : n1 ≤ 4096 := by rw [hn1]; exact hpo.2.1
    have Hn1 := Lib.hid hn1
    clear hn1 ho1 hpo
    go_wp2_with fail
    go_loopw [14, 31] (fun q i wr => ∃ (j : Nat) (s : Int), j ≤ n1 ∧ i = .int .i64 j ∧ q = .int .i64 s ∧ Hid (s = worthP ss (p.take j)) ∧ 0 ≤ s ∧ s ≤ 5000000000 ∧ Below w1.heap.size w1 wr) (fun _ i _ => n1 - (intOf i).toNat)
    case atStart => exact ⟨0, 0, by omega, rfl, rfl, Lib.hid rfl, by omega, by omega, Below.refl _ _⟩
    case round =>
      obtain ⟨j, s, hj, rfl, rfl, Hs, hs0, hs1, hb⟩ := hrel
      obtain ⟨wi, rfl⟩ : ∃ wi : World, wi = wr := ⟨_, rfl⟩
      by_cases hlt : j < n1
      · obtain ⟨b, o, q, rfl, hbl, hq, e0, e1, e2, e3, e4⟩ := (hP1.below hb).at5 hlt
        obtain ⟨_, _, _, _, i, sh, hqs, hsh, _⟩ := Hpo.out.1 q (List.mem_of_getElem? hq)
        have him : i < m := by rw [Hm.out]; exact (List.getElem?_eq_some_iff.1 hsh).1
        obtain ⟨b2, o2, sh2, rfl, hbl2, hsh2, c0, c1', c2, c3⟩ := ((hS.below hb1).below hb).at4 him
        obtain rfl : sh = sh2 := by rw [hsh] at hsh2; injection hsh2
        have hval : pcVal ss q = sh.V := by simp [pcVal, hqs, hsh]
        have hT := worthP_take ss p j q hq
        rw [hval, ← Hs.out] at hT
        have hbd := worthP_bd (fun s hs => (Hok.out.2.2.2.2.2.2.2 s hs).2.2) (p.take (j + 1))
        rw [hT] at hbd
        have hlen : (p.take (j + 1)).length ≤ 4096 := by rw [List.length_take]; omega
        have hv := (Hok.out.2.2.2.2.2.2.2 sh (List.mem_of_getElem? hsh)).2.2
        have HT := Lib.hid hT
        rw [hqs] at e4
        obtain ⟨bd1, bd2⟩ := hbd
        have bd3 : s + sh.V ≤ 5000000000 := by omega
        have im : (i : Int) < (m : Int) := by omega
        clear hval hT hsh hsh2 hq hqs bd2
        go_wp2
        exact ⟨⟨j + 1, _, by omega, by go_num, rfl, Lib.hid HT.out.symm, bd1, bd3, hb.alloc hb.size _⟩, by simp [intOf]; omega⟩
      · obtain rfl : n1 = j := by omega
        have h := Hs.out
        rw [List.take_of_length_le (by rw [← Hn1.out]; exact Nat.le_refl _)] at h
        have Hfin := Lib.hid (hR.out (.returned (.tuple #[.int .i64 (worthO ss (some p)), .int .i64 (outE (some p))])) wi ⟨rfl, hb1.trans (hb.mono hb1.size)⟩)
        rw [show worthO ss (some p) = s from h.symm, show outE (some p) = 0 from rfl] at Hfin
        clear h Hs
        go_wp2
        exact Hfin.out
theorem areaP_bd (p : List Pc) (h : ∀ q ∈ p, (1 ≤ q.W ∧ q.W ≤ 64) ∧ (1 ≤ q.H ∧ q.H ≤ 64)) : 0 ≤ areaP p ∧ areaP p ≤ 4096 * p.length := by
  induction p with
  | nil => simp [areaP]
  | cons q r ih =>
    have e : areaP (q :: r) = areaP [q] + areaP r := by rw [← areaP_append]; rfl
    have e2 : areaP [q] = q.W * q.H := by simp [areaP]
    obtain ⟨⟨a1, a2⟩, b1, b2⟩ := h q (by simp)
    have := mul_bd (a := q.W) (b := q.H) (by omega) (by omega) a2 b2
    have := ih fun q hq => h q (by simp [hq])
    rw [e, e2, List.length_cons]
    omega
set_option maxRecDepth 100000 in
set_option maxHeartbeats 2000000 in
theorem waste_ok (W H k : Int) (B A : Option Addr) (m d n c : Nat) (ss : List Shp) (l : Cuts) (w : World) (hS : SlE Shp.enc 4 w B m ss) (hL : SlE cutE 2 w A n l) (hnc : n ≤ c) (hc : c ≤ 9223372036854775807) (hn : n ≤ 1000) (hp : panOk W H k ss = true) :
    Calls Try.prog 33 #[.int .i64 W, .int .i64 H, .int .i64 k, .slice B m d, .slice A n c] w fun e w' => e = .returned (.tuple #[.int .i64 (wasteO W H (planOut k ss W H l)), .int .i64 (outE (planOut k ss W H l))]) ∧ Below w.heap.size w w' := by
  refine calls_cps ?_
  intro R hR
  have Hp := Lib.hid hp
  obtain ⟨hW1, hW2, hH1, hH2, _⟩ := panOk_ok hp
  obtain ⟨wh1, wh2⟩ := mul_bd (a := W) (b := H) (by omega) (by omega) hW2 hH2
  obtain ⟨res, hres⟩ : ∃ r, planOut k ss W H l = r := ⟨_, rfl⟩
  rw [hres] at hR
  have Hres := Lib.hid hres
  clear hp hres
  go_enter Try.func33, Try.ntmps33
  go_wp2_with fail
  refine (layout_ok W H k B A m d n c ss l _ hS hL hnc hc hn Hp.out).mono ?_
  rw [Hres.out]
  rintro e w1 ⟨hb1, ⟨rfl, rfl⟩ | ⟨p, A1, n1, c1, rfl, rfl, hn1, ho1⟩⟩
  · go_wp2
    exact hR.out _ _ ⟨rfl, hb1⟩
  · have hpo := planOut_ok Hp.out Hres.out
    have Hpo := Lib.hid hpo
    have hP1 := SlE.of_own ho1 hn1
    have hn4 : n1 ≤ 4096 := by rw [hn1]; exact hpo.2.1
    have Hn1 := Lib.hid hn1
    clear hn1 ho1 hpo
    go_wp2_with fail
    go_loopw [14, 34] (fun q i wr => ∃ (j : Nat) (s : Int), j ≤ n1 ∧ i = .int .i64 j ∧ q = .int .i64 s ∧ Hid (s = W * H - areaP (p.take j)) ∧ -50000000 ≤ s ∧ s ≤ 5000 ∧ Below w1.heap.size w1 wr) (fun _ i _ => n1 - (intOf i).toNat)
    case atStart => exact ⟨0, W * H, by omega, rfl, rfl, Lib.hid (by simp [areaP]), by omega, by omega, Below.refl _ _⟩
    case round =>
      obtain ⟨j, s, hj, rfl, rfl, Hs, hs0, hs1, hb⟩ := hrel
      obtain ⟨wi, rfl⟩ : ∃ wi : World, wi = wr := ⟨_, rfl⟩
      by_cases hlt : j < n1
      · obtain ⟨b, o, q, rfl, hbl, hq, e0, e1, e2, e3, e4⟩ := (hP1.below hb).at5 hlt
        obtain ⟨_, _, ⟨x1, x2⟩, ⟨y1, y2⟩, _⟩ := Hpo.out.1 q (List.mem_of_getElem? hq)
        obtain ⟨p1, p2⟩ := mul_bd (a := q.W) (b := q.H) (by omega) (by omega) x2 y2
        have hT := areaP_take p j q hq
        have hbd := areaP_bd (p.take (j + 1)) (fun q hq => by
          obtain ⟨_, _, h1, h2, _⟩ := Hpo.out.1 q (List.mem_of_mem_take hq)
          exact ⟨h1, h2⟩)
        have hlen : (p.take (j + 1)).length ≤ 4096 := by rw [List.length_take]; omega
        have hs' := Hs.out
        have HT := Lib.hid (show s - q.W * q.H = W * H - areaP (p.take (j + 1)) by omega)
        have bd1 : -50000000 ≤ s - q.W * q.H := by omega
        clear hT hbd hs' hq
        go_wp2
        exact ⟨⟨j + 1, _, by omega, by go_num, rfl, Lib.hid HT.out, bd1, by omega, hb.alloc hb.size _⟩, by simp [intOf]; omega⟩
      · obtain rfl : n1 = j := by omega
        have h := Hs.out
        rw [List.take_of_length_le (by rw [← Hn1.out]; exact Nat.le_refl _)] at h
        have Hfin := Lib.hid (hR.out (.returned (.tuple #[.int .i64 (wasteO W H (some p)), .int .i64 (outE (some p))])) wi ⟨rfl, hb1.trans (hb.mono hb1.size)⟩)
        rw [show wasteO W H (some p) = s from h.symm, show outE (some p) = 0 from rfl] at Hfin
        clear h Hs
        go_wp2
        exact Hfin.out
end Go.Proofs.Ytfkpioibinpfhaa
