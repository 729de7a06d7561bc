/-
  The solver's state in memory; the contract of at: a cost, of rows and columns from 1 on; conditions as stated.
-/
import Derived.Test.YtjdhcdoekfikpaaMHallW
import Derived.Test.YtjdhcdoekfikpaaMHung3
namespace Go.Proofs.Ytjdhcdoekfikpaa
open Go.RowKit

/-- A block of ints, known whole. -/
def Blk (W : World) (b : Nat) (l : List Int) : Prop := W.heap[b]? = some (.cells (l.map (Value.int .i64)).toArray 3 (0, 0))
def BlkB (W : World) (b : Nat) (l : List Bool) : Prop := W.heap[b]? = some (.cells (l.map Value.bool).toArray 4 (0, 0))
section
variable {W W' : World} {b b' k : Nat} {l : List Int} {lb : List Bool}
theorem Blk.at_ (h : Blk W b l) (hk : k < l.length) : W.cell? ⟨b, k, none⟩ = some (.int .i64 (l.getD k 0)) ∧ W.frozen? ⟨b, k, none⟩ = false := by
  refine ⟨?_, by simp [World.frozen?, show W.heap[b]? = _ from h]⟩
  rw [cell_of_row _ _ _ _ _ (0, 0) h, getD_get _ _ _ hk]
  simp [hk]
theorem BlkB.at_ (h : BlkB W b lb) (hk : k < lb.length) : W.cell? ⟨b, k, none⟩ = some (.bool (lb.getD k false)) ∧ W.frozen? ⟨b, k, none⟩ = false := by
  refine ⟨?_, by simp [World.frozen?, show W.heap[b]? = _ from h]⟩
  rw [cell_of_row _ _ _ _ _ (0, 0) h, getD_get _ _ _ hk]
  simp [hk]
theorem Blk.lt (h : Blk W b l) : b < W.heap.size := (Array.getElem?_eq_some_iff.1 h).1
theorem BlkB.lt (h : BlkB W b lb) : b < W.heap.size := (Array.getElem?_eq_some_iff.1 h).1
theorem Blk.set (h : Blk W b l) (k : Nat) (x : Int) : Blk (W.setCell ⟨b, k, none⟩ (.int .i64 x)) b (l.set k x) := by
  unfold Blk at *
  simp [World.setCell, Array.getElem?_modify, h, List.map_set]
theorem BlkB.set (h : BlkB W b lb) (k : Nat) (x : Bool) : BlkB (W.setCell ⟨b, k, none⟩ (.bool x)) b (lb.set k x) := by
  unfold BlkB at *
  simp [World.setCell, Array.getElem?_modify, h, List.map_set]
theorem Blk.other (h : Blk W b l) (hne : b ≠ b') (k : Nat) (v : Value) : Blk (W.setCell ⟨b', k, none⟩ v) b l := (Below.heap_setCell W ⟨b', k, none⟩ v b hne).trans h
theorem BlkB.other (h : BlkB W b lb) (hne : b ≠ b') (k : Nat) (v : Value) : BlkB (W.setCell ⟨b', k, none⟩ v) b lb := (Below.heap_setCell W ⟨b', k, none⟩ v b hne).trans h
theorem Blk.kx {S : Nat → Prop} (h : Blk W b l) (hk : Kx S W W') (hs : ¬ S b) : Blk W' b l := (hk.block b h.lt hs).trans h
theorem BlkB.kx {S : Nat → Prop} (h : BlkB W b lb) (hk : Kx S W W') (hs : ¬ S b) : BlkB W' b lb := (hk.block b h.lt hs).trans h
theorem Blk.below (h : Blk W b l) (hb : Below W.heap.size W W') : Blk W' b l := (hb.block b h.lt).trans h
theorem BlkB.below (h : BlkB W b lb) (hb : Below W.heap.size W W') : BlkB W' b lb := (hb.block b h.lt).trans h
theorem Blk.grown {r : Option Nat} (h : Blk W b l) (hg : W.grownBy W' r) (hr : r ≠ some b) : Blk W' b l := (hg.block b h.lt (fun e => hr e.symm)).trans h
theorem BlkB.grown {r : Option Nat} (h : BlkB W b lb) (hg : W.grownBy W' r) (hr : r ≠ some b) : BlkB W' b lb := (hg.block b h.lt (fun e => hr e.symm)).trans h
theorem Blk.ne (h : Blk W b l) (h' : BlkB W b' lb) : b ≠ b' := fun e => by
  subst e
  unfold Blk at h; unfold BlkB at h'
  rw [h] at h'
  simp at h'
theorem Blk.sl (h : Blk W b l) {n : Nat} (hn : n = l.length) : SlE intE 1 W (some ⟨b, 0, none⟩) n l := slE_of_block h hn
end
theorem castL_getD (l : List Nat) (k : Nat) : (castL l).getD k 0 = ((l.getD k 0 : Nat) : Int) := by
  unfold castL
  rw [List.getD_eq_getElem?_getD, List.getElem?_map, List.getD_eq_getElem?_getD]
  cases l[k]? <;> rfl
theorem castL_set (l : List Nat) (k x : Nat) : castL (l.set k x) = (castL l).set k (x : Int) := by simp [castL, List.map_set]
/-- The solver's block: the table, the prices, the row of each column, the way. -/
structure Sv (W : World) (sp : Nat) (A : Option Addr) (n c m bu bv bp bw : Nat) (u v : List Int) (p way : List Nat) : Prop where
  box : W.heap[sp]? = some (.cells #[.slice A n c, .slice (some ⟨bu, 0, none⟩) (n + 1) (n + 1), .slice (some ⟨bv, 0, none⟩) (m + 1) (m + 1), .slice (some ⟨bp, 0, none⟩) (m + 1) (m + 1), .slice (some ⟨bw, 0, none⟩) (m + 1) (m + 1)] 79 (0, 0))
  hu : Blk W bu u
  hv : Blk W bv v
  hp : Blk W bp (castL p)
  hw : Blk W bw (castL way)
  lu : u.length = n + 1
  lv : v.length = m + 1
  lp : p.length = m + 1
  lw : way.length = m + 1
/-- The solver's blocks are apart. -/
structure Ne5 (lo sp bu bv bp bw : Nat) : Prop where
  a1 : bu ≠ bv
  a2 : bu ≠ bp
  a3 : bu ≠ bw
  a4 : bv ≠ bp
  a5 : bv ≠ bw
  a6 : bp ≠ bw
  l0 : lo ≤ sp
  l1 : lo ≤ bu
  l2 : lo ≤ bv
  l3 : lo ≤ bp
  l4 : lo ≤ bw
section
variable {W W' : World} {sp n c m bu bv bp bw : Nat} {A : Option Addr} {u v : List Int} {p way : List Nat}
theorem Sv.cells (h : Sv W sp A n c m bu bv bp bw u v p way) : W.cell? ⟨sp, 0, none⟩ = some (.slice A n c) ∧ W.cell? ⟨sp, 1, none⟩ = some (.slice (some ⟨bu, 0, none⟩) (n + 1) (n + 1)) ∧ W.cell? ⟨sp, 2, none⟩ = some (.slice (some ⟨bv, 0, none⟩) (m + 1) (m + 1)) ∧
    W.cell? ⟨sp, 3, none⟩ = some (.slice (some ⟨bp, 0, none⟩) (m + 1) (m + 1)) ∧ W.cell? ⟨sp, 4, none⟩ = some (.slice (some ⟨bw, 0, none⟩) (m + 1) (m + 1)) :=
  ⟨by rw [cell_of_row _ _ 0 _ _ (0, 0) h.box]; rfl, by rw [cell_of_row _ _ 1 _ _ (0, 0) h.box]; rfl, by rw [cell_of_row _ _ 2 _ _ (0, 0) h.box]; rfl, by rw [cell_of_row _ _ 3 _ _ (0, 0) h.box]; rfl, by rw [cell_of_row _ _ 4 _ _ (0, 0) h.box]; rfl⟩
theorem Sv.ne (h : Sv W sp A n c m bu bv bp bw u v p way) {b : Nat} {l : List Int} (hb : Blk W b l) : sp ≠ b := fun e => by
  subst e
  unfold Blk at hb
  rw [h.box] at hb
  simp at hb
theorem Sv.neB (h : Sv W sp A n c m bu bv bp bw u v p way) {b : Nat} {l : List Bool} (hb : BlkB W b l) : sp ≠ b := fun e => by
  subst e
  unfold BlkB at hb
  rw [h.box] at hb
  simp at hb
theorem Sv.lt (h : Sv W sp A n c m bu bv bp bw u v p way) : sp < W.heap.size := (Array.getElem?_eq_some_iff.1 h.box).1
theorem Sv.drewN (h : Sv W sp A n c m bu bv bp bw u v p way) (q : Nat) : Sv (W.drewN q) sp A n c m bu bv bp bw u v p way := ⟨h.box, h.hu, h.hv, h.hp, h.hw, h.lu, h.lv, h.lp, h.lw⟩
theorem Sv.other (h : Sv W sp A n c m bu bv bp bw u v p way) {b : Nat} (h0 : sp ≠ b) (h1 : bu ≠ b) (h2 : bv ≠ b) (h3 : bp ≠ b) (h4 : bw ≠ b) (k : Nat) (x : Value) : Sv (W.setCell ⟨b, k, none⟩ x) sp A n c m bu bv bp bw u v p way :=
  ⟨(Below.heap_setCell W ⟨b, k, none⟩ x sp h0).trans h.box, h.hu.other h1 k x, h.hv.other h2 k x, h.hp.other h3 k x, h.hw.other h4 k x, h.lu, h.lv, h.lp, h.lw⟩
theorem Sv.below (h : Sv W sp A n c m bu bv bp bw u v p way) (hb : Below W.heap.size W W') : Sv W' sp A n c m bu bv bp bw u v p way :=
  ⟨(hb.block sp h.lt).trans h.box, h.hu.below hb, h.hv.below hb, h.hp.below hb, h.hw.below hb, h.lu, h.lv, h.lp, h.lw⟩
variable {lo : Nat}
theorem Sv.setW (h : Sv W sp A n c m bu bv bp bw u v p way) (hn : Ne5 lo sp bu bv bp bw) (k x : Nat) : Sv (W.setCell ⟨bw, k, none⟩ (.int .i64 (x : Int))) sp A n c m bu bv bp bw u v p (way.set k x) :=
  ⟨(Below.heap_setCell W ⟨bw, k, none⟩ _ sp (h.ne h.hw)).trans h.box, h.hu.other hn.a3 k _, h.hv.other hn.a5 k _, h.hp.other hn.a6 k _, by rw [castL_set]; exact h.hw.set k _, h.lu, h.lv, h.lp, by simpa using h.lw⟩
theorem Sv.setP (h : Sv W sp A n c m bu bv bp bw u v p way) (hn : Ne5 lo sp bu bv bp bw) (k x : Nat) : Sv (W.setCell ⟨bp, k, none⟩ (.int .i64 (x : Int))) sp A n c m bu bv bp bw u v (p.set k x) way :=
  ⟨(Below.heap_setCell W ⟨bp, k, none⟩ _ sp (h.ne h.hp)).trans h.box, h.hu.other hn.a2 k _, h.hv.other hn.a4 k _, by rw [castL_set]; exact h.hp.set k _, h.hw.other (fun e => hn.a6 e.symm) k _, h.lu, h.lv, by simpa using h.lp, h.lw⟩
theorem Sv.setU (h : Sv W sp A n c m bu bv bp bw u v p way) (hn : Ne5 lo sp bu bv bp bw) (k : Nat) (x : Int) : Sv (W.setCell ⟨bu, k, none⟩ (.int .i64 x)) sp A n c m bu bv bp bw (u.set k x) v p way :=
  ⟨(Below.heap_setCell W ⟨bu, k, none⟩ _ sp (h.ne h.hu)).trans h.box, h.hu.set k _, h.hv.other (fun e => hn.a1 e.symm) k _, h.hp.other (fun e => hn.a2 e.symm) k _, h.hw.other (fun e => hn.a3 e.symm) k _, by simpa using h.lu, h.lv, h.lp, h.lw⟩
theorem Sv.setV (h : Sv W sp A n c m bu bv bp bw u v p way) (hn : Ne5 lo sp bu bv bp bw) (k : Nat) (x : Int) : Sv (W.setCell ⟨bv, k, none⟩ (.int .i64 x)) sp A n c m bu bv bp bw u (v.set k x) p way :=
  ⟨(Below.heap_setCell W ⟨bv, k, none⟩ _ sp (h.ne h.hv)).trans h.box, h.hu.other hn.a1 k _, h.hv.set k _, h.hp.other (fun e => hn.a4 e.symm) k _, h.hw.other (fun e => hn.a5 e.symm) k _, h.lu, by simpa using h.lv, h.lp, h.lw⟩
theorem Sv.at_ (h : Sv W sp A n c m bu bv bp bw u v p way) {k : Nat} (hk : k ≤ m) : W.cell? ⟨bv, k, none⟩ = some (.int .i64 (v.getD k 0)) ∧ W.cell? ⟨bp, k, none⟩ = some (.int .i64 ((p.getD k 0 : Nat) : Int)) ∧ W.cell? ⟨bw, k, none⟩ = some (.int .i64 ((way.getD k 0 : Nat) : Int)) ∧
    W.frozen? ⟨bv, k, none⟩ = false ∧ W.frozen? ⟨bp, k, none⟩ = false ∧ W.frozen? ⟨bw, k, none⟩ = false := by
  obtain ⟨a1, a2⟩ := h.hv.at_ (k := k) (by rw [h.lv]; omega)
  obtain ⟨b1, b2⟩ := h.hp.at_ (k := k) (by rw [castL_len, h.lp]; omega)
  obtain ⟨c1, c2⟩ := h.hw.at_ (k := k) (by rw [castL_len, h.lw]; omega)
  rw [castL_getD] at b1 c1
  exact ⟨a1, b1, c1, a2, b2, c2⟩
theorem Sv.atU (h : Sv W sp A n c m bu bv bp bw u v p way) {k : Nat} (hk : k ≤ n) : W.cell? ⟨bu, k, none⟩ = some (.int .i64 (u.getD k 0)) ∧ W.frozen? ⟨bu, k, none⟩ = false := h.hu.at_ (by rw [h.lu]; omega)
end
set_option maxHeartbeats 1000000 in
theorem at_any (w0 : World) (sp n c m : Nat) (A : Option Addr) (T : List (List Int)) (hT : SlR w0 A n T) (hrect : ∀ x ∈ T, x.length = m) (W : World) (hb : Below w0.heap.size w0 W) (hbox : W.cell? ⟨sp, 0, none⟩ = some (.slice A n c)) (x y : Int) (i j : Nat) (hx : x = (i : Int)) (hy : y = (j : Int)) (h1 : 1 ≤ i) (h2 : i ≤ n) (h3 : 1 ≤ j) (h4 : j ≤ m) (hn : n ≤ 1000) (hm : m ≤ 1000) :
    Calls Try.prog 76 #[.pointer (some ⟨sp, 0, none⟩), .int .i64 x, .int .i64 y] W fun e W' => e = .returned (.int .i64 (aF T i j)) ∧ W = W' := by
  refine calls_cps ?_
  intro R hR
  obtain ⟨i0, rfl⟩ : ∃ i0, i = i0 + 1 := ⟨i - 1, by omega⟩
  obtain ⟨j0, rfl⟩ : ∃ j0, j = j0 + 1 := ⟨j - 1, by omega⟩
  obtain rfl : x = (i0 : Int) + 1 := by omega
  obtain rfl : y = (j0 : Int) + 1 := by omega
  obtain ⟨b, o, Ai, ci, bi, oi, rfl, _, _, q1, rfl, q2⟩ := table_at hT hrect hb (r := i0) (k := j0) (by omega) (by omega)
  obtain ⟨z, hz⟩ : ∃ z, ct T i0 j0 = z := ⟨_, rfl⟩
  rw [hz] at q2
  have i1 : (i0 : Int) < (n : Int) := by omega
  have i2 : (j0 : Int) < (m : Int) := by omega
  have haf : aF T (i0 + 1) (j0 + 1) = if z = -1 then 1000000000000 else z := by unfold aF; simp only [Nat.add_sub_cancel]; rw [hz]
  by_cases hz1 : z = -1
  · subst hz1
    rw [if_pos rfl] at haf
    have Hf := Lib.hid (hR.out (.returned (.int .i64 1000000000000)) W ⟨by rw [haf], rfl⟩)
    clear hx hy hR haf hz hT hrect hb
    go_enter Try.func76, Try.ntmps76
    go_wp2
    exact Hf.out
  · rw [if_neg hz1] at haf
    have hz2 : (z != -1) = true := by simpa using hz1
    have Hf := Lib.hid (hR.out (.returned (.int .i64 z)) W ⟨by rw [haf], rfl⟩)
    clear hx hy hR haf hz hT hrect hb hz1
    go_enter Try.func76, Try.ntmps76
    go_wp2
    exact Hf.out
end Go.Proofs.Ytjdhcdoekfikpaa
