/-
  The contract of the solver's near: from a row to all columns; conditions: the prices are bounded, the blocks apart.
-/
import Derived.Test.YtjdhcdoekfikpaaMSv
import Derived.Test.YtjdhcdoekfikpaaMHung2
namespace Go.Proofs.Ytjdhcdoekfikpaa
open Go.RowKit

theorem nearStep_used {d : Nat → Int} {used : List Bool} {fr j : Nat} {s : List Int × List Nat × Nat} (h : used.getD j false = true) : nearStep d used fr j s = s := by rw [nearStep, if_pos h]
theorem nearStep_less {d : Nat → Int} {used : List Bool} {fr j : Nat} {s : List Int × List Nat × Nat} (h : used.getD j false = false) (hd : d j < s.1.getD j 0) :
    nearStep d used fr j s = (s.1.set j (d j), s.2.1.set j fr, if s.2.2 = 0 ∨ d j < (s.1.set j (d j)).getD s.2.2 0 then j else s.2.2) := by rw [nearStep, if_neg (by rw [h]; simp), if_pos hd]
theorem nearStep_more {d : Nat → Int} {used : List Bool} {fr j : Nat} {s : List Int × List Nat × Nat} (h : used.getD j false = false) (hd : ¬ d j < s.1.getD j 0) :
    nearStep d used fr j s = (s.1, s.2.1, if s.2.2 = 0 ∨ s.1.getD j 0 < s.1.getD s.2.2 0 then j else s.2.2) := by rw [nearStep, if_neg (by rw [h]; simp), if_neg hd]
/-- What near keeps. -/
structure Nr (W : World) (sp : Nat) (A : Option Addr) (n c m bu bv bp bw bl bs : Nat) (u v : List Int) (p way : List Nat) (least : List Int) (used : List Bool) : Prop where
  sv : Sv W sp A n c m bu bv bp bw u v p way
  bl : Blk W bl least
  bs : BlkB W bs used
  ll : least.length = m + 1
  ls : used.length = m + 1
structure Ne7 (lo sp bu bv bp bw bl bs : Nat) : Prop where
  n5 : Ne5 lo sp bu bv bp bw
  b1 : bu ≠ bl
  b2 : bv ≠ bl
  b3 : bp ≠ bl
  b4 : bw ≠ bl
  l5 : lo ≤ bl
  l6 : lo ≤ bs
section
variable {W W' : World} {lo sp n c m bu bv bp bw bl bs : Nat} {A : Option Addr} {u v : List Int} {p way : List Nat} {least : List Int} {used : List Bool}
theorem Nr.drewN (h : Nr W sp A n c m bu bv bp bw bl bs u v p way least used) (q : Nat) : Nr (W.drewN q) sp A n c m bu bv bp bw bl bs u v p way least used := ⟨h.sv.drewN q, h.bl, h.bs, h.ll, h.ls⟩
theorem Nr.setL (h : Nr W sp A n c m bu bv bp bw bl bs u v p way least used) (hn : Ne7 lo sp bu bv bp bw bl bs) (k : Nat) (x : Int) : Nr (W.setCell ⟨bl, k, none⟩ (.int .i64 x)) sp A n c m bu bv bp bw bl bs u v p way (least.set k x) used :=
  ⟨h.sv.other (h.sv.ne h.bl) hn.b1 hn.b2 hn.b3 hn.b4 k _, h.bl.set k x, h.bs.other (fun e => h.bl.ne h.bs e.symm) k _, by simpa using h.ll, h.ls⟩
theorem Nr.setS (h : Nr W sp A n c m bu bv bp bw bl bs u v p way least used) (k : Nat) (x : Bool) : Nr (W.setCell ⟨bs, k, none⟩ (.bool x)) sp A n c m bu bv bp bw bl bs u v p way least (used.set k x) :=
  ⟨h.sv.other (h.sv.neB h.bs) (h.sv.hu.ne h.bs) (h.sv.hv.ne h.bs) (h.sv.hp.ne h.bs) (h.sv.hw.ne h.bs) k _, h.bl.other (h.bl.ne h.bs) k _, h.bs.set k x, h.ll, by simpa using h.ls⟩
theorem Nr.setW (h : Nr W sp A n c m bu bv bp bw bl bs u v p way least used) (hn : Ne7 lo sp bu bv bp bw bl bs) (k x : Nat) : Nr (W.setCell ⟨bw, k, none⟩ (.int .i64 (x : Int))) sp A n c m bu bv bp bw bl bs u v p (way.set k x) least used :=
  ⟨h.sv.setW hn.n5 k x, h.bl.other (fun e => hn.b4 e.symm) k _, h.bs.other (fun e => h.sv.hw.ne h.bs e.symm) k _, h.ll, h.ls⟩
theorem Nr.setU (h : Nr W sp A n c m bu bv bp bw bl bs u v p way least used) (hn : Ne7 lo sp bu bv bp bw bl bs) (k : Nat) (x : Int) : Nr (W.setCell ⟨bu, k, none⟩ (.int .i64 x)) sp A n c m bu bv bp bw bl bs (u.set k x) v p way least used :=
  ⟨h.sv.setU hn.n5 k x, h.bl.other (fun e => hn.b1 e.symm) k _, h.bs.other (fun e => h.sv.hu.ne h.bs e.symm) k _, h.ll, h.ls⟩
theorem Nr.setV (h : Nr W sp A n c m bu bv bp bw bl bs u v p way least used) (hn : Ne7 lo sp bu bv bp bw bl bs) (k : Nat) (x : Int) : Nr (W.setCell ⟨bv, k, none⟩ (.int .i64 x)) sp A n c m bu bv bp bw bl bs u (v.set k x) p way least used :=
  ⟨h.sv.setV hn.n5 k x, h.bl.other (fun e => hn.b2 e.symm) k _, h.bs.other (fun e => h.sv.hv.ne h.bs e.symm) k _, h.ll, h.ls⟩
theorem Nr.atL (h : Nr W sp A n c m bu bv bp bw bl bs u v p way least used) {k : Nat} (hk : k ≤ m) : W.cell? ⟨bl, k, none⟩ = some (.int .i64 (least.getD k 0)) ∧ W.cell? ⟨bs, k, none⟩ = some (.bool (used.getD k false)) ∧ W.frozen? ⟨bl, k, none⟩ = false ∧ W.frozen? ⟨bs, k, none⟩ = false := by
  obtain ⟨a1, a2⟩ := h.bl.at_ (k := k) (by rw [h.ll]; omega)
  obtain ⟨b1, b2⟩ := h.bs.at_ (k := k) (by rw [h.ls]; omega)
  exact ⟨a1, b1, a2, b2⟩
end
theorem kx_set {S : Nat → Prop} {W W' : World} {b : Nat} (h : Kx S W W') (hs : S b) (k : Nat) (v : Value) : Kx S W (W'.setCell ⟨b, k, none⟩ v) :=
  ⟨h.os, h.tape, h.output, by have := h.size; simpa [World.setCell] using this, fun j hj hn => (Below.heap_setCell W' ⟨b, k, none⟩ v j (fun e => hn (e ▸ hs))).trans (h.block j hj hn)⟩
theorem at_quiet (w0 : World) (sp n c m : Nat) (A : Option Addr) (T : List (List Int)) (hT : SlR w0 A n T) (hrect : ∀ x ∈ T, x.length = m) (W : World) (hb : Below w0.heap.size w0 W) (hbox : W.cell? ⟨sp, 0, none⟩ = some (.slice A n c)) (x y : Int) (i j : Nat) (hx : x = (i : Int)) (hy : y = (j : Int)) (h1 : 1 ≤ i) (h2 : i ≤ n) (h3 : 1 ≤ j) (h4 : j ≤ m) (hn : n ≤ 1000) (hm : m ≤ 1000) (a : Int) (ha : aF T i j = a) (q : Nat) :
    Calls Try.prog 76 #[.pointer (some ⟨sp, 0, none⟩), .int .i64 x, .int .i64 y] (W.drewN q) fun e W' => e = .returned (.int .i64 a) ∧ ∃ k, W' = W.drewN k :=
  (at_any w0 sp n c m A T hT hrect (W.drewN q) (below_drewN hb q) hbox x y i j hx hy h1 h2 h3 h4 hn hm).mono fun _ _ ⟨h, h'⟩ => ⟨by rw [h, ha], q, h'.symm⟩
set_option maxRecDepth 100000 in
set_option maxHeartbeats 8000000 in
theorem near_any (w0 : World) (sp n c m bu bv bp bw bl bs : Nat) (A : Option Addr) (T : List (List Int)) (hT : SlR w0 A n T) (hok : TOk T m) (hNe : Ne7 w0.heap.size sp bu bv bp bw bl bs)
    (u v : List Int) (p way : List Nat) (least : List Int) (used : List Bool) (W : World) (hb : Below w0.heap.size w0 W) (hN : Nr W sp A n c m bu bv bp bw bl bs u v p way least used)
    (row fr : Nat) (h1 : 1 ≤ row) (h2 : row ≤ n) (hu : ∀ i, -3000000000000000 ≤ u.getD i 0 ∧ u.getD i 0 ≤ 3000000000000000) (hv : ∀ i, -3000000000000000 ≤ v.getD i 0 ∧ v.getD i 0 ≤ 3000000000000000) :
    Calls Try.prog 73 #[.pointer (some ⟨sp, 0, none⟩), .int .i64 (row : Int), .int .i64 (fr : Int), .slice (some ⟨bl, 0, none⟩) (m + 1) (m + 1), .slice (some ⟨bs, 0, none⟩) (m + 1) (m + 1)] W fun e W' =>
      e = .returned (.tuple #[.int .i64 ((nearF (nearD (aF T) u v row) used fr least way m).2.2 : Int), .int .i64 ((nearF (nearD (aF T) u v row) used fr least way m).1.getD (nearF (nearD (aF T) u v row) used fr least way m).2.2 0)]) ∧
      Nr W' sp A n c m bu bv bp bw bl bs u v p (nearF (nearD (aF T) u v row) used fr least way m).2.1 (nearF (nearD (aF T) u v row) used fr least way m).1 used ∧ Kx (fun j => j = bl ∨ j = bw) W W' := by
  refine calls_cps ?_
  intro R hR
  have hm64 := hok.m64
  have hnm : n ≤ m := by rw [hT.1]; exact hok.nm
  have hco := fun j (h3 : 1 ≤ j) (h4 : j ≤ m) => aF_bd hok.costOk row j h1 (by rw [← hT.1]; exact h2) h3 h4
  have hnr := fun k (hk : k ≤ m) => near_ok (nearD (aF T) u v row) used fr least way k (by rw [hN.ll]; omega) (by rw [hN.sv.lw]; omega)
  obtain ⟨d, hd⟩ : ∃ d, nearD (aF T) u v row = d := ⟨_, rfl⟩
  rw [hd] at hR hnr
  have Hd := Lib.hid hd
  have Hnr := Lib.hid hnr
  have Hco := Lib.hid hco
  have Hu := Lib.hid hu
  have Hv := Lib.hid hv
  have HN := Lib.hid hN
  have HT := Lib.hid hT
  have Hrect := Lib.hid hok.rect
  have HNe := Lib.hid hNe
  have Hb := Lib.hid hb
  have i3 : (row : Int) < (n : Int) + 1 := by omega
  clear hd hnr hco hu hv hN hT hok hNe hb
  go_enter Try.func73, Try.ntmps73
  go_wp2_with fail
  go_loopg [12, 13] m (fun gk s12 s13 wr => ∃ (k nx : Nat) (l1 : List Int) (w1 : List Nat), k + gk = m ∧ s13 = .int .i64 (((k : Nat) : Int) + 1) ∧ s12 = .int .i64 ((nx : Nat) : Int) ∧ nx ≤ k ∧ Nr wr sp A n c m bu bv bp bw bl bs u v p w1 l1 used ∧ Kx (fun j => j = bl ∨ j = bw) W wr ∧ Hid (nearF d used fr least way k = (l1, w1, nx)))
  case atStart => exact ⟨0, 0, least, way, by omega, rfl, rfl, Nat.le_refl _, HN.out, Kx.refl _ _, Lib.hid rfl⟩
  case round =>
    obtain ⟨k, nx, l1, w1, hgk, rfl, rfl, hnk, hN, hK, He⟩ := hrel
    obtain ⟨wi, rfl⟩ : ∃ wi : World, wi = wr := ⟨_, rfl⟩
    obtain ⟨q0, q1, q2, q3, q4⟩ := hN.sv.cells
    by_cases hlt : k < m
    · obtain ⟨c1, c2, c3, c4⟩ := hN.atL (k := k + 1) (by omega)
      have i1 : (k : Int) + 1 < (m : Int) + 1 := by omega
      have i2 : (k : Int) + 1 ≤ 9223372036854775807 := by omega
      have t1 : ((k : Int) + 1).toNat = k + 1 := by omega
      have HN1 := Lib.hid hN
      cases hs : used.getD (k + 1) false with
      | true =>
        rw [hs] at c2
        have HE := Lib.hid (show nearF d used fr least way (k + 1) = (l1, w1, nx) by rw [nearF, He.out, nearStep_used hs])
        clear hs hN
        go_wp2_with fail
        go_roundg (gk - 1)
        case measure => omega
        case rel => exact ⟨k + 1, nx, l1, w1, by omega, by go_num, rfl, by omega, HN1.out, hK, HE⟩
      | false =>
        rw [hs] at c2
        obtain ⟨a, ha⟩ : ∃ a, aF T row (k + 1) = a := ⟨_, rfl⟩
        obtain ⟨x, hx⟩ : ∃ x, u.getD row 0 = x := ⟨_, rfl⟩
        obtain ⟨y, hy⟩ : ∃ y, v.getD (k + 1) 0 = y := ⟨_, rfl⟩
        obtain ⟨e1, e2⟩ := hN.sv.atU (k := row) h2
        obtain ⟨f1, f2, f3, f4, f5, f6⟩ := hN.sv.at_ (k := k + 1) (by omega)
        rw [hx] at e1
        rw [hy] at f1
        have hab := Hco.out (k + 1) (by omega) (by omega)
        have hxb := Hu.out row
        have hyb := Hv.out (k + 1)
        rw [ha] at hab
        rw [hx] at hxb
        rw [hy] at hyb
        unfold DEAR at hab
        have hdk : d (k + 1) = a - x - y := by rw [← Hd.out]; unfold nearD; rw [ha, hx, hy]
        have z1 : IntKind.i64.wrap (a - x) = a - x := IntWalk.i64_in _ (by omega)
        have z2 : IntKind.i64.wrap (a - x - y) = a - x - y := IntWalk.i64_in _ (by omega)
        have Ha := Lib.hid ha
        have Hdk := Lib.hid hdk
        have Hs := Lib.hid hs
        have Hbi := Lib.hid (Kx.low Hb.out hK (or_ge HNe.out.l5 HNe.out.n5.l4) Hb.out.size)
        clear ha hdk hs hx hy f2 f3 f4 f5 f6 c1 c3 c4 hN
        go_wp2_with fail
        go_quiet ((go_at_call 76; exact at_quiet w0 sp n c m A T HT.out Hrect.out _ Hbi.out q0 _ _ row (k + 1) rfl (by omega) h1 h2 (by omega) (by omega) (by omega) (by omega) a Ha.out _))
        rename_i nq
        have hNd := HN1.out.drewN nq
        have hKd := hK.drewN nq
        clear q0 q1 q2 q3 q4 e1 e2 f1 c2 hK
        generalize wi.drewN nq = wd at *
        obtain ⟨q0, q1, q2, q3, q4⟩ := hNd.sv.cells
        obtain ⟨c1, c2, c3, c4⟩ := hNd.atL (k := k + 1) (by omega)
        obtain ⟨f1, f2, f3, f4, f5, f6⟩ := hNd.sv.at_ (k := k + 1) (by omega)
        obtain ⟨l, hl⟩ : ∃ l, l1.getD (k + 1) 0 = l := ⟨_, rfl⟩
        rw [hl] at c1
        have hln : l1.length = m + 1 := hNd.ll
        have n1 : bl ≠ bw := fun e => HNe.out.b4 e.symm
        have n2 : sp ≠ bl := hNd.sv.ne hNd.bl
        have n3 : sp ≠ bw := hNd.sv.ne hNd.sv.hw
        have HNd := Lib.hid hNd
        have HKd := Lib.hid hKd
        have Hl := Lib.hid hl
        have Hln := Lib.hid hln
        clear hNd hKd hl f1 f2 f4 f5 c2 c4 hln
        by_cases hdl : a - x - y < l
        · have hNs := (HNd.out.setL HNe.out (k + 1) (a - x - y)).setW HNe.out (k + 1) fr
          have hKs := kx_set (kx_set HKd.out (b := bl) (.inl rfl) (k + 1) (.int .i64 (a - x - y))) (b := bw) (.inr rfl) (k + 1) (.int .i64 (fr : Int))
          have hst := fun r hr => (show nearF d used fr least way (k + 1) = (l1.set (k + 1) (a - x - y), w1.set (k + 1) fr, r) by rw [nearF, He.out, nearStep_less Hs.out (by rw [Hdk.out]; simp only; rw [Hl.out]; exact hdl), Hdk.out]; exact hr)
          have HNs := Lib.hid hNs
          have HKs := Lib.hid hKs
          have Hst := Lib.hid hst
          obtain ⟨g1, g2, g3, g4⟩ := hNs.atL (k := k + 1) (by omega)
          obtain ⟨o1, o2, o3, o4⟩ := hNs.atL (k := nx) (by omega)
          rw [getD_set_eq _ _ _ _ (by rw [Hln.out]; omega)] at g1
          clear hNs hKs hst g2 g3 g4 o2 o3 o4
          obtain ⟨y2, hy2⟩ : ∃ y2, (l1.set (k + 1) (a - x - y)).getD nx 0 = y2 := ⟨_, rfl⟩
          rw [hy2] at o1
          have Hy2 := Lib.hid hy2
          clear hy2
          by_cases hnx : nx = 0
          · have g0 : ((nx : Int) == 0) = true := by simp [hnx]
            have HE := Lib.hid (Hst.out (k + 1) (by rw [if_pos (.inl hnx)]))
            clear hnx
            go_wp2_with fail
            go_quiet (fail)
            go_wp2_with fail
            go_roundg (gk - 1)
            case measure => omega
            case rel => exact ⟨k + 1, k + 1, l1.set (k + 1) (a - x - y), w1.set (k + 1) fr, by omega, by go_num, by go_num, Nat.le_refl _, HNs.out.drewN _, HKs.out.drewN _, HE⟩
          · have g0 : ((nx : Int) == 0) = false := by simp; omega
            have i4 : (nx : Int) < (m : Int) + 1 := by omega
            by_cases hlt2 : a - x - y < y2
            · have HE := Lib.hid (Hst.out (k + 1) (by rw [if_pos (.inr (by simp only; rw [Hy2.out]; exact hlt2))]))
              clear hnx
              go_wp2_with fail
              go_quiet (fail)
              go_wp2_with fail
              go_roundg (gk - 1)
              case measure => omega
              case rel => exact ⟨k + 1, k + 1, l1.set (k + 1) (a - x - y), w1.set (k + 1) fr, by omega, by go_num, by go_num, Nat.le_refl _, HNs.out.drewN _, HKs.out.drewN _, HE⟩
            · have HE := Lib.hid (Hst.out nx (by rw [if_neg (by simp only; rw [Hy2.out]; omega)]))
              have g5 : decide (a - x - y < y2) = false := by simpa using hlt2
              clear hnx
              go_wp2_with fail
              go_quiet (fail)
              go_wp2_with fail
              go_roundg (gk - 1)
              case measure => omega
              case rel => exact ⟨k + 1, nx, l1.set (k + 1) (a - x - y), w1.set (k + 1) fr, by omega, by go_num, rfl, by omega, HNs.out.drewN _, HKs.out.drewN _, HE⟩
        · have hst := fun r hr => (show nearF d used fr least way (k + 1) = (l1, w1, r) by rw [nearF, He.out, nearStep_more Hs.out (by rw [Hdk.out]; simp only; rw [Hl.out]; exact hdl)]; exact hr)
          have Hst := Lib.hid hst
          obtain ⟨o1, o2, o3, o4⟩ := HNd.out.atL (k := nx) (by omega)
          clear hst o2 o3 o4
          obtain ⟨y2, hy2⟩ : ∃ y2, (l1).getD nx 0 = y2 := ⟨_, rfl⟩
          rw [hy2] at o1
          have Hy2 := Lib.hid hy2
          clear hy2
          by_cases hnx : nx = 0
          · have g0 : ((nx : Int) == 0) = true := by simp [hnx]
            have HE := Lib.hid (Hst.out (k + 1) (by rw [if_pos (.inl hnx)]))
            clear hnx
            go_wp2_with fail
            go_quiet (fail)
            go_wp2_with fail
            go_roundg (gk - 1)
            case measure => omega
            case rel => exact ⟨k + 1, k + 1, l1, w1, by omega, by go_num, by go_num, Nat.le_refl _, HNd.out.drewN _, HKd.out.drewN _, HE⟩
          · have g0 : ((nx : Int) == 0) = false := by simp; omega
            have i4 : (nx : Int) < (m : Int) + 1 := by omega
            by_cases hlt2 : l < y2
            · have HE := Lib.hid (Hst.out (k + 1) (by rw [if_pos (.inr (by simp only; rw [Hl.out, Hy2.out]; exact hlt2))]))
              clear hnx
              go_wp2_with fail
              go_quiet (fail)
              go_wp2_with fail
              go_roundg (gk - 1)
              case measure => omega
              case rel => exact ⟨k + 1, k + 1, l1, w1, by omega, by go_num, by go_num, Nat.le_refl _, HNd.out.drewN _, HKd.out.drewN _, HE⟩
            · have HE := Lib.hid (Hst.out nx (by rw [if_neg (by simp only; rw [Hl.out, Hy2.out]; omega)]))
              have g5 : decide (l < y2) = false := by simpa using hlt2
              clear hnx
              go_wp2_with fail
              go_quiet (fail)
              go_wp2_with fail
              go_roundg (gk - 1)
              case measure => omega
              case rel => exact ⟨k + 1, nx, l1, w1, by omega, by go_num, rfl, by omega, HNd.out.drewN _, HKd.out.drewN _, HE⟩
    · obtain rfl : m = k := by omega
      obtain ⟨c1, c2, c3, c4⟩ := hN.atL (k := nx) (by omega)
      have i4 : (nx : Int) < (m : Int) + 1 := by omega
      have Hfin := Lib.hid (show ∀ q, R (.returned (.tuple #[.int .i64 (nx : Int), .int .i64 (l1.getD nx 0)])) (wi.drewN q) from fun q => hR.out _ _ ⟨by rw [He.out], by rw [He.out]; exact hN.drewN q, hK.drewN q⟩)
      clear hN hK c2 c3 c4
      go_wp2_with fail
      go_quiet (fail)
      go_wp2
      exact Hfin.out _
end Go.Proofs.Ytjdhcdoekfikpaa
