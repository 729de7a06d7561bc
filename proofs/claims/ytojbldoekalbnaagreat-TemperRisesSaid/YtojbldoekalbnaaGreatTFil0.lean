/-
  The contract of temper's circle.fill: the table of the least costs of all that is behind each place; condition: the ring is valid.
-/
import Derived.Test.YtojbldoekalbnaaGreatTBst
import Derived.Test.YtojbldoekalbnaaGreatKx
import Derived.Deep.OwnRows
import Derived.Laws.OwnMore
import Derived.Laws.EntriesVeiled
import Derived.BigRegion
namespace Go.Proofs.YtojbldoekalbnaaGreat
open Go.RowKit
theorem slE_kx {S : Nat → Prop} {W W' : World} {A : Option Addr} {n : Nat} {l : List Int} (h : SlE intE 1 W A n l) (hk : Kx S W W') (hs : ∀ a, A = some a → ¬ S a.block) : SlE intE 1 W' A n l :=
  ⟨h.1, h.2.1, fun hn => by
    obtain ⟨b, o, e, hb, hc⟩ := h.2.2 hn
    exact ⟨b, o, e, Nat.lt_of_lt_of_le hb hk.size, fun j u hu => (World.cell?_of_block (w := W) (hk.block b hb (hs _ e))).trans (hc j u hu)⟩⟩
/-- A block that holds a list of ints. -/
def Blk (W : World) (g : Nat) (l : List Int) : Prop := W.heap[g]? = some (.cells (l.map (Value.int .i64)).toArray 3 (0, 0))
theorem Blk.lt {W : World} {g : Nat} {l : List Int} (h : Blk W g l) : g < W.heap.size := (Array.getElem?_eq_some_iff.1 h).1
theorem Blk.cell {W : World} {g i : Nat} {l : List Int} (h : Blk W g l) {x : Int} (hx : l[i]? = some x) : W.cell? ⟨g, i, none⟩ = some (.int .i64 x) := by
  rw [cell_of_row W g i _ _ (0, 0) h]; simp [hx]
theorem Blk.frozen {W : World} {g : Nat} {l : List Int} (h : Blk W g l) (i : Nat) : W.frozen? ⟨g, i, none⟩ = false := by
  have h' : W.heap[g]? = some _ := h
  simp [World.frozen?, h']
theorem Blk.sl {W : World} {g k : Nat} {l : List Int} (h : Blk W g l) (hk : k = l.length) : SlE intE 1 W (some ⟨g, 0, none⟩) k l := by
  refine ⟨hk, by rw [flat_length intE_len, hk], fun _ => ⟨g, 0, rfl, h.lt, fun j u hu => ?_⟩⟩
  rw [flat_int] at hu
  rw [Nat.zero_add, cell_of_row W g j _ _ (0, 0) h]
  simpa using hu
theorem Blk.set {W : World} {g : Nat} {l : List Int} (h : Blk W g l) (i : Nat) (x : Int) : Blk (W.setCell ⟨g, i, none⟩ (.int .i64 x)) g (l.set i x) := by
  have h' : W.heap[g]? = some _ := h
  unfold Blk
  simp only [World.setCell, Array.getElem?_modify, h']
  simp [List.map_set]
theorem Blk.of_eq {W W' : World} {g : Nat} {l : List Int} (h : Blk W g l) (he : W'.heap[g]? = W.heap[g]?) : Blk W' g l := he.trans h
theorem Blk.made {W : World} {g k : Nat} (h : W.heap[g]? = some (.cells (madeCells #[Value.int .i64 0] k) 3 (0, 0))) : Blk W g (List.replicate k 0) := by
  unfold Blk
  rw [h]
  congr 2
  apply Array.toList_inj.1
  rw [toList_madeCells_one]
  simp
theorem run_mkInt (k : Nat) (hm : k ≤ 100000) (w : World) : (Instr.makeSlice 22 (.int .i64 (k : Int)) (.int .i64 (k : Int))).run Tryz.prog w = .ok (.slice (some ⟨w.heap.size, 0, none⟩) k k) (w.alloc (.cells (madeCells #[Value.int .i64 0] k) 3)) :=
  run_make_row' 22 3 (.int .i64 0) 8 Tryz.underlying22 infoInt8 rfl .i64 .i64 k (by omega) (by omega) w
theorem infoSl24 : (Tryz.prog.info? 22).map (fun i => (i.zero, i.size, i.bytes)) = some (some (.slice none 0 0), 1, 24) := by kernel_rfl
theorem run_mkRows (k : Nat) (hm : k ≤ 100000) (w : World) : (Instr.makeSlice 81 (.int .i64 (k : Int)) (.int .i64 (k : Int))).run Tryz.prog w = .ok (.slice (some ⟨w.heap.size, 0, none⟩) k k) (w.alloc (.cells (madeCells #[Value.slice none 0 0] k) 22)) :=
  run_make_row' 81 22 (.slice none 0 0) 24 Tryz.underlying81 infoSl24 rfl .i64 .i64 k (by omega) (by omega) w
/-- The search's table under way: the circle, the table's rows from t0 on. -/
structure Rst (W : World) (r : Rg) (first : List Int) (b rb L K : Nat) (gs : Nat → Nat) (C : Array Value) (t0 : Nat) : Prop where
  circ : W.heap[b]? = some (.cells C 83 (0, 0))
  rows : ∃ rs : List Value, rs.length = L ∧ W.heap[rb]? = some (.cells rs.toArray 22 (0, 0)) ∧ ∀ j, t0 ≤ j → j < L → rs[j]? = some (.slice (some ⟨gs j, 0, none⟩) K K)
  own : ∀ j, t0 ≤ j → j < L → Blk W (gs j) (r.rowV first (L - 1 - j) j)
section
variable {W W' : World} {r : Rg} {first : List Int} {b rb L K t0 : Nat} {gs : Nat → Nat} {C : Array Value}
theorem Rst.keep (h : Rst W r first b rb L K gs C t0) (hk : ∀ j o, W.heap[j]? = some o → (j = b ∨ j = rb ∨ ∃ i, t0 ≤ i ∧ i < L ∧ j = gs i) → W'.heap[j]? = some o) : Rst W' r first b rb L K gs C t0 := by
  obtain ⟨h1, ⟨rs, h2, h3, h4⟩, h5⟩ := h
  exact ⟨hk _ _ h1 (.inl rfl), ⟨rs, h2, hk _ _ h3 (.inr (.inl rfl)), h4⟩, fun j j1 j2 => hk _ _ (h5 j j1 j2) (.inr (.inr ⟨j, j1, j2, rfl⟩))⟩
theorem Rst.below (h : Rst W r first b rb L K gs C t0) (hb : Below W.heap.size W W') : Rst W' r first b rb L K gs C t0 :=
  h.keep fun j _o ho _ => (hb.block j (Array.getElem?_eq_some_iff.1 ho).1).trans ho
theorem Rst.drewN (h : Rst W r first b rb L K gs C t0) (x : Nat) : Rst (W.drewN x) r first b rb L K gs C t0 := h.keep fun _ _ ho _ => ho
theorem Rst.drew (h : Rst W r first b rb L K gs C t0) : Rst W.drew r first b rb L K gs C t0 := h.keep fun _ _ ho _ => ho
theorem Rst.apart (h : Rst W r first b rb L K gs C t0) {g : Nat} {l : List Int} (hg : Blk W g l) : b ≠ g ∧ rb ≠ g ∧ b ≠ rb := by
  obtain ⟨h1, ⟨rs, h2, h3, h4⟩, h5⟩ := h
  have hg' : W.heap[g]? = some _ := hg
  refine ⟨fun e => ?_, fun e => ?_, fun e => ?_⟩
  · rw [e, hg'] at h1; simp at h1
  · rw [e, hg'] at h3; simp at h3
  · rw [e, h3] at h1; simp at h1
/-- A store into the row under way. -/
theorem Rst.store (h : Rst W r first b rb L K gs C t0) {g : Nat} {l : List Int} (hg : Blk W g l) (hne : ∀ j, t0 ≤ j → j < L → gs j ≠ g) (i : Nat) (v : Value) : Rst (W.setCell ⟨g, i, none⟩ v) r first b rb L K gs C t0 := by
  obtain ⟨a1, a2, _⟩ := h.apart hg
  refine h.keep fun j o ho hj => (Below.heap_setCell _ _ _ _ fun e => ?_).trans ho
  dsimp only at e
  subst e
  rcases hj with hj | hj | ⟨i, i1, i2, i3⟩
  · exact a1 hj.symm
  · exact a2 hj.symm
  · exact hne i i1 i2 i3.symm
/-- The row that is done is the table's. -/
theorem Rst.next {u : Nat} (h : Rst W r first b rb L K gs C (u + 1)) {g : Nat} (hg : Blk W g (r.rowV first (L - 1 - u) u)) (hc : ∃ rs : List Value, rs.length = L ∧ W.heap[rb]? = some (.cells rs.toArray 22 (0, 0)) ∧ rs[u]? = some (.slice (some ⟨g, 0, none⟩) K K)) :
    Rst W r first b rb L K (fun j => if j = u then g else gs j) C u := by
  obtain ⟨h1, ⟨rs, h2, h3, h4⟩, h5⟩ := h
  obtain ⟨rs', k1, k2, k3⟩ := hc
  rw [h3] at k2
  simp only [Option.some.injEq, Obj.cells.injEq, and_true] at k2
  obtain rfl : rs = rs' := by simpa using congrArg Array.toList k2
  refine ⟨h1, ⟨rs, h2, h3, fun j j1 j2 => ?_⟩, fun j j1 j2 => ?_⟩
  · by_cases e : j = u
    · rw [if_pos e, e]; exact k3
    · rw [if_neg e]; exact h4 j (by omega) j2
  · by_cases e : j = u
    · rw [if_pos e, e]; exact hg
    · rw [if_neg e]; exact h5 j (by omega) j2
/-- A new row's header is laid. -/
theorem Rst.lay {u : Nat} (h : Rst W r first b rb L K gs C (u + 1)) (hu : u < L) {g : Nat} {l : List Int} (hg : Blk W g l) :
    Rst (W.setCell ⟨rb, u, none⟩ (.slice (some ⟨g, 0, none⟩) K K)) r first b rb L K gs C (u + 1) ∧ Blk (W.setCell ⟨rb, u, none⟩ (.slice (some ⟨g, 0, none⟩) K K)) g l ∧
    ∃ rs : List Value, rs.length = L ∧ (W.setCell ⟨rb, u, none⟩ (.slice (some ⟨g, 0, none⟩) K K)).heap[rb]? = some (.cells rs.toArray 22 (0, 0)) ∧ rs[u]? = some (.slice (some ⟨g, 0, none⟩) K K) := by
  obtain ⟨a1, a2, a3⟩ := h.apart hg
  have ap := fun j (j1 : u + 1 ≤ j) j2 => (h.apart (h.own j j1 j2)).2.1
  obtain ⟨h1, ⟨rs, h2, h3, h4⟩, h5⟩ := h
  have hrb : (W.setCell ⟨rb, u, none⟩ (.slice (some ⟨g, 0, none⟩) K K)).heap[rb]? = some (.cells (rs.set u (.slice (some ⟨g, 0, none⟩) K K)).toArray 22 (0, 0)) := by
    simp only [World.setCell, Array.getElem?_modify, h3]
    simp
  refine ⟨⟨(Below.heap_setCell _ _ _ _ a3).trans h1, ⟨_, by simp [h2], hrb, fun j j1 j2 => ?_⟩, fun j j1 j2 => ?_⟩, hg.of_eq (Below.heap_setCell _ _ _ _ (Ne.symm a2)), _, by simp [h2], hrb, by rw [List.getElem?_set_self (by omega)]⟩
  · rw [List.getElem?_set_ne (by omega)]; exact h4 j j1 j2
  · exact (h5 j j1 j2).of_eq (Below.heap_setCell _ _ _ _ (fun e => ap j j1 j2 e.symm))
theorem Rst.row (h : Rst W r first b rb L K gs C t0) {j : Nat} (h1 : t0 ≤ j) (h2 : j < L) : W.cell? ⟨rb, j, none⟩ = some (.slice (some ⟨gs j, 0, none⟩) K K) ∧ ∀ i, W.frozen? ⟨rb, i, none⟩ = false := by
  obtain ⟨rs, k1, k2, k3⟩ := h.rows
  refine ⟨?_, fun i => by simp [World.frozen?, k2]⟩
  rw [cell_of_row W rb j _ _ (0, 0) k2]
  simp [k3 j h1 h2]
end
/-- The row under way: the values before an index are found. -/
def PartR (r : Rg) (first : List Int) (z u k : Nat) (l : List Int) : Prop := l.length = r.codes * r.sums ∧ ∀ i, i < k → l[i]? = (r.rowV first z u)[i]?
theorem rowV_len (r : Rg) (first : List Int) (z u : Nat) : (r.rowV first z u).length = r.codes * r.sums := by simp [Rg.rowV]
theorem PartR.set {r : Rg} {first : List Int} {z u k : Nat} {l : List Int} (h : PartR r first z u k l) {x : Int} (hk : k < r.codes * r.sums) (hx : (r.rowV first z u)[k]? = some x) : PartR r first z u (k + 1) (l.set k x) := by
  refine ⟨by simp [h.1], fun i hi => ?_⟩
  by_cases e : k = i
  · subst e; rw [List.getElem?_set_self (by rw [h.1]; exact hk), hx]
  · rw [List.getElem?_set_ne e]; exact h.2 i (by omega)
theorem PartR.fin {r : Rg} {first : List Int} {z u : Nat} {l : List Int} (h : PartR r first z u (r.codes * r.sums) l) : l = r.rowV first z u := by
  refine List.ext_getElem? fun i => ?_
  by_cases hi : i < r.codes * r.sums
  · exact h.2 i hi
  · rw [List.getElem?_eq_none (by rw [h.1]; omega), List.getElem?_eq_none (by rw [rowV_len]; omega)]
theorem nlow_bd {r : Rg} (hr : r.Ok) : -288 ≤ (r.N : Int) * r.low ∧ (r.N : Int) * r.low ≤ 288 := by
  have h1 := hr.n2
  have h2 := hr.l1
  have h3 := hr.l2
  have := mul_abs (a := (r.N : Int)) (b := r.low) (A := 24) (B := 12) (by omega) (by omega) (by omega)
  omega
theorem setCell_cells {W : World} {b i : Nat} {C : Array Value} {ty : TypeId} {v : Value} (h : W.heap[b]? = some (.cells C ty (0, 0))) : (W.setCell ⟨b, i, none⟩ v).heap[b]? = some (.cells (C.setIfInBounds i v) ty (0, 0)) := by
  simp only [World.setCell, Array.getElem?_modify, h]
  simp
theorem kx_setb (W : World) (b i : Nat) (v : Value) : Kx (fun j => j = b) W (W.setCell ⟨b, i, none⟩ v) := kx_set (S := fun j => j = b) (Kx.refl _ W) rfl i v
/-- The table is made, its rows are not yet. -/
theorem rst_start {wd : World} {r : Rg} {first : List Int} {b L K : Nat} {gs : Nat → Nat} {C C1 : Array Value} (hc : wd.heap[b]? = some (.cells C 83 (0, 0))) (h1 : C.setIfInBounds 12 (.slice (some ⟨wd.heap.size, 0, none⟩) L L) = C1) :
    Rst ((wd.setCell ⟨b, 12, none⟩ (.slice (some ⟨wd.heap.size, 0, none⟩) L L)).alloc (.cells (madeCells #[Value.slice none 0 0] L) 22)) r first b wd.heap.size L K gs C1 L ∧
    Kx (fun j => j = b) wd ((wd.setCell ⟨b, 12, none⟩ (.slice (some ⟨wd.heap.size, 0, none⟩) L L)).alloc (.cells (madeCells #[Value.slice none 0 0] L) 22)) := by
  have hb : b < wd.heap.size := (Array.getElem?_eq_some_iff.1 hc).1
  have hsz : (wd.setCell ⟨b, 12, none⟩ (.slice (some ⟨wd.heap.size, 0, none⟩) L L)).heap.size = wd.heap.size := by simp [World.setCell]
  refine ⟨⟨?_, ⟨(madeCells #[Value.slice none 0 0] L).toList, by rw [toList_madeCells_one]; simp, ?_, fun j h1 h2 => absurd h1 (by omega)⟩, fun j h1 h2 => absurd h1 (by omega)⟩, (kx_setb wd b 12 _).below (below_new _ _)⟩
  · rw [Below.heap_alloc _ _ _ (by rw [hsz]; exact hb), setCell_cells hc, h1]
  · have h := heap_alloc_new (wd.setCell ⟨b, 12, none⟩ (.slice (some ⟨wd.heap.size, 0, none⟩) L L)) (.cells (madeCells #[Value.slice none 0 0] L) 22)
    rw [hsz] at h
    rw [h]
/-- A row of the table under way. -/
structure Fil (w W : World) (r : Rg) (first : List Int) (b rb L K : Nat) (gs : Nat → Nat) (C : Array Value) (u g k : Nat) (l : List Int) : Prop where
  rst : Rst W r first b rb L K gs C (u + 1)
  blk : Blk W g l
  hdr : ∃ rs : List Value, rs.length = L ∧ W.heap[rb]? = some (.cells rs.toArray 22 (0, 0)) ∧ rs[u]? = some (.slice (some ⟨g, 0, none⟩) K K)
  part : PartR r first (L - 1 - u) u k l
  kx : Kx (fun j => j = b) w W
  ne : ∀ j, u + 1 ≤ j → j < L → gs j ≠ g
  gw : w.heap.size ≤ g
section
variable {w W W' : World} {r : Rg} {first : List Int} {b rb L K : Nat} {gs : Nat → Nat} {C : Array Value} {u g k : Nat} {l : List Int}
theorem Fil.below (h : Fil w W r first b rb L K gs C u g k l) (hb : Below W.heap.size W W') : Fil w W' r first b rb L K gs C u g k l := by
  obtain ⟨rs, a1, a2, a3⟩ := h.hdr
  exact ⟨h.rst.below hb, h.blk.of_eq (hb.block _ h.blk.lt), ⟨rs, a1, (hb.block _ (Array.getElem?_eq_some_iff.1 a2).1).trans a2, a3⟩, h.part, h.kx.below hb, h.ne, h.gw⟩
theorem Fil.drewN (h : Fil w W r first b rb L K gs C u g k l) (x : Nat) : Fil w (W.drewN x) r first b rb L K gs C u g k l := h.below (below_drewN (Below.refl _ _) x)
theorem Fil.drew (h : Fil w W r first b rb L K gs C u g k l) : Fil w W.drew r first b rb L K gs C u g k l := h.drewN 1
theorem Fil.set (h : Fil w W r first b rb L K gs C u g k l) {x : Int} (hk : k < r.codes * r.sums) (hx : (r.rowV first (L - 1 - u) u)[k]? = some x) : Fil w (W.setCell ⟨g, k, none⟩ (.int .i64 x)) r first b rb L K gs C u g (k + 1) (l.set k x) := by
  obtain ⟨rs, a1, a2, a3⟩ := h.hdr
  have hap := h.rst.apart h.blk
  refine ⟨h.rst.store h.blk h.ne _ _, h.blk.set k x, ⟨rs, a1, (Below.heap_setCell _ _ _ _ hap.2.1).trans a2, a3⟩, h.part.set hk hx, ?_, h.ne, h.gw⟩
  refine h.kx.trans (kx_setb W g k _) (fun j hj e => absurd h.gw (by subst e; omega))
theorem Fil.cells (h : Fil w W r first b rb L K gs C u g k l) (hk : k < r.codes * r.sums) : W.cell? ⟨rb, u, none⟩ = some (.slice (some ⟨g, 0, none⟩) K K) ∧ W.frozen? ⟨g, k, none⟩ = false ∧ ∃ v, W.cell? ⟨g, k, none⟩ = some v := by
  obtain ⟨rs, a1, a2, a3⟩ := h.hdr
  refine ⟨?_, h.blk.frozen k, _, h.blk.cell (List.getElem?_eq_getElem (by rw [h.part.1]; exact hk))⟩
  rw [cell_of_row W rb u _ _ (0, 0) a2]
  simp [a3]
theorem Fil.fin (h : Fil w W r first b rb L K gs C u g (r.codes * r.sums) l) : Rst W r first b rb L K (fun j => if j = u then g else gs j) C u :=
  h.rst.next (by have := h.blk; rwa [h.part.fin] at this) h.hdr
/-- A new row, of zeros, and its header. -/
theorem fil_start (h : Rst W r first b rb L K gs C (u + 1)) (hu : u < L) (hK : K = r.codes * r.sums) (hk : Kx (fun j => j = b) w W) (hrb : w.heap.size ≤ rb) :
    Fil w ((W.setCell ⟨rb, u, none⟩ (.slice (some ⟨W.heap.size, 0, none⟩) K K)).alloc (.cells (madeCells #[Value.int .i64 0] K) 3)) r first b rb L K gs C u W.heap.size 0 (List.replicate K 0) := by
  have hsz : (W.setCell ⟨rb, u, none⟩ (.slice (some ⟨W.heap.size, 0, none⟩) K K)).heap.size = W.heap.size := by simp [World.setCell]
  have hown := h.own
  obtain ⟨rs, a1, a2, a3⟩ := h.rows
  have hbr : b ≠ rb := fun e => by have h1 := h.circ; rw [e, a2] at h1; simp at h1
  have hgr : ∀ j, u + 1 ≤ j → j < L → gs j ≠ rb := fun j j1 j2 e => (h.apart (hown j j1 j2)).2.1 e.symm
  have key : ∀ j o, W.heap[j]? = some o → j ≠ rb → ((W.setCell ⟨rb, u, none⟩ (.slice (some ⟨W.heap.size, 0, none⟩) K K)).alloc (.cells (madeCells #[Value.int .i64 0] K) 3)).heap[j]? = some o := fun j o ho hj => by
    rw [Below.heap_alloc _ _ _ (by rw [hsz]; exact (Array.getElem?_eq_some_iff.1 ho).1)]
    exact (Below.heap_setCell _ _ _ _ hj).trans ho
  have hrbn : ((W.setCell ⟨rb, u, none⟩ (.slice (some ⟨W.heap.size, 0, none⟩) K K)).alloc (.cells (madeCells #[Value.int .i64 0] K) 3)).heap[rb]? = some (.cells (rs.set u (.slice (some ⟨W.heap.size, 0, none⟩) K K)).toArray 22 (0, 0)) := by
    rw [Below.heap_alloc _ _ _ (by rw [hsz]; exact (Array.getElem?_eq_some_iff.1 a2).1), setCell_cells a2]
    simp
  refine ⟨⟨key _ _ h.circ hbr, ⟨_, by simp [a1], hrbn, fun j j1 j2 => ?_⟩, fun j j1 j2 => key _ _ (hown j j1 j2) (hgr j j1 j2)⟩, Blk.made ?_, ⟨_, by simp [a1], hrbn, by rw [List.getElem?_set_self (by omega)]⟩, ⟨by simp [hK], fun i hi => absurd hi (by omega)⟩, ?_, fun j j1 j2 e => ?_, hk.size⟩
  · rw [List.getElem?_set_ne (by omega)]; exact a3 j j1 j2
  · have h := heap_alloc_new (W.setCell ⟨rb, u, none⟩ (.slice (some ⟨W.heap.size, 0, none⟩) K K)) (.cells (madeCells #[Value.int .i64 0] K) 3)
    rw [hsz] at h
    exact h
  · exact (hk.trans (kx_setb W rb u _) (fun j hj e => absurd hrb (by subst e; omega))).below (below_new _ _)
  · have := (hown j j1 j2).lt; omega
end
end Go.Proofs.YtojbldoekalbnaaGreat
