/-
  Contracts of match's functions: matched, Check, the document's Check, allowed, Most, All, Delete, Hall; each states its condition.
-/
import Derived.Test.YtjdhcdoekfikpaaMFa
import Derived.Test.YtjdhcdoekfikpaaMPl
import Derived.Deep.RegionHeld3
import Derived.Outline
import Derived.Laws.EntriesVeiled
import Derived.Shelf.Slices.Delete
namespace Go.Proofs.Ytjdhcdoekfikpaa
section
open Go.RowKit

/-- make with a variable size, of elements of one cell. -/
theorem wpList_mkZ {P : Program} {w : World} {ops : Array Oper} {rest : List Oper} {o : Oper} {a : Act} {Q : Exit → Act → World → Prop}
    (hg : o.guard = none) (l c : Operand) (t : TypeId) (hop : o.op = Op.makeSlice t l c) (e : TypeId) {z : Value} {bytes : Nat}
    (ht : P.underlying t = some (.slice e)) (hi : (P.info? e).map (fun i => (i.zero, i.size, i.bytes)) = some (some z, 1, bytes)) (hz : z.cells = #[z]) (hby : bytes ≤ 100)
    (L : Int) (n : Nat) (hl : a.eval l = .int .i64 L) (hc : a.eval c = .int .i64 L) (hL : L = (n : Int)) (b2 : n ≤ 1000000000)
    (hK : ∀ w', w'.heap[w.heap.size]? = some (.cells (List.replicate n z).toArray e (0, 0)) → w.grownBy w' none → wpList P ops Q rest (a.put o.dst (.slice (some ⟨w.heap.size, 0, none⟩) n n)) w') :
    wpList P ops Q (o :: rest) a w := by
  obtain ⟨i0, hi0, z0, z1, z2⟩ := info_parts hi
  refine wpList_make_full w hg l c t hop w.heap.size e i0 _ 1 ht hi0 z0 z1 .i64 .i64 L L n hl hc hL hL (by rw [z2]; exact Nat.le_trans (Nat.mul_le_mul hby b2) (by omega)) (by unfold maxLen; omega) (Nat.le_refl _) fun w' ho hgr => hK w' ?_ hgr
  have h := own_full ho
  rw [h]
  congr 2
  simp only [Nat.mul_one]
  rw [hz, toList_madeCells_one]
theorem Kx.low' {S : Nat → Prop} {w A B : World} (hb : Below w.heap.size w A) (h : Kx S A B) (hs : ∀ j, S j → w.heap.size ≤ j) : Below w.heap.size w B := Kx.low hb h hs hb.size
theorem or_ge {b g1 g2 : Nat} (h1 : b ≤ g1) (h2 : b ≤ g2) : ∀ j, (j = g1 ∨ j = g2) → b ≤ j := by rintro j (rfl | rfl) <;> assumption
theorem infoBool : (Try.prog.info? 4).map (fun i => (i.zero, i.size, i.bytes)) = some (some (.bool false), 1, 1) := by kernel_rfl
/-- A block that is known whole is an owned row. -/
theorem own_of_block {w : World} {base g n : Nat} {e : TypeId} {xs : List Value} (h : w.heap[g]? = some (.cells xs.toArray e (0, 0))) (hn : xs.length = n) (hb : base ≤ g) (hm : n ≤ maxLen) : w.ownsRow base e 1 (.slice (some ⟨g, 0, none⟩) n n) n xs :=
  ⟨by omega, .inr ⟨g, n, xs.toArray, rfl, hb, h, Nat.le_refl _, hm, by simp [hn], by rw [List.take_of_length_le]; simp [hn]⟩⟩
theorem grownBy_setCellAt (W : World) (b k : Nat) (v : Value) : W.grownBy (W.setCell ⟨b, k, none⟩ v) (some b) :=
  ⟨rfl, rfl, rfl, by simp [World.setCell], fun j _ hn => Below.heap_setCell W ⟨b, k, none⟩ v j (fun e => hn (by rw [e]))⟩

theorem MayOk.at {w0 W : World} {B n m : Nat} {F : FuncId} {caps : Array Value} {g : Nat → Nat → Bool} (h : MayOk w0 B F caps n m g) (hb : Below B w0 W) (hB : B ≤ W.heap.size) : MayOk W W.heap.size F caps n m g :=
  fun W1 r k hb1 hr hk => h W1 r k (hb.trans (hb1.mono hB)) hr hk
/-- The block of pairs between two rows: the columns that were seen may be anything. -/
structure Ps (W : World) (B bp n m : Nat) (mayV : Value) (br cr : Nat) (of : List Int) : Prop where
  box : ∃ sv, W.heap[bp]? = some (.cells #[.int .i64 (n : Int), .int .i64 (m : Int), mayV, .slice (some ⟨br, 0, none⟩) m cr, sv] 101 (0, 0))
  row : W.ownsRow B 3 1 (.slice (some ⟨br, 0, none⟩) m cr) m (of.map (Value.int .i64))
  bpB : B ≤ bp
section
variable {W W' : World} {B bp n m : Nat} {mayV : Value} {br cr bs cs : Nat} {of : List Int} {seen : List Bool}
theorem Fs.ps (h : Fs W B bp n m mayV br cr bs cs of seen) : Ps W B bp n m mayV br cr of := ⟨⟨_, h.box⟩, h.row, h.bpB⟩
theorem Ps.ne (h : Ps W B bp n m mayV br cr of) : bp ≠ br := by
  obtain ⟨_, _, c1, h1, _⟩ := row_heap h.row
  obtain ⟨sv, h2⟩ := h.box
  exact fun e => by rw [e, h1] at h2; simp at h2
theorem Ps.lt (h : Ps W B bp n m mayV br cr of) : bp < W.heap.size := by
  obtain ⟨sv, h2⟩ := h.box
  exact (Array.getElem?_eq_some_iff.1 h2).1
theorem Ps.len (h : Ps W B bp n m mayV br cr of) : of.length = m := by have := h.row.1; simpa using this
theorem Ps.grown (h : Ps W B bp n m mayV br cr of) (hg : W.grownBy W' none) : Ps W' B bp n m mayV br cr of := by
  obtain ⟨sv, h2⟩ := h.box
  exact ⟨⟨sv, (hg.block bp h.lt (by simp)).trans h2⟩, h.row.kept hg (.inr (by simp [Value.ownBlock])), h.bpB⟩
theorem Ps.free (h : Ps W B bp n m mayV br cr of) : W.frozen? ⟨bp, 4, none⟩ = false := by
  obtain ⟨sv, h2⟩ := h.box
  simp [World.frozen?, h2]
theorem Ps.cell (h : Ps W B bp n m mayV br cr of) : ∃ sv, W.cell? ⟨bp, 4, none⟩ = some sv := by
  obtain ⟨sv, h2⟩ := h.box
  exact ⟨sv, by rw [cell_of_row _ _ 4 _ _ (0, 0) h2]; rfl⟩
/-- The search's state is laid anew: no column was seen. -/
theorem Ps.fs (h : Ps W B bp n m mayV br cr of) (hs : W.heap[bs]? = some (.cells (List.replicate m (Value.bool false)).toArray 4 (0, 0))) (hb : B ≤ bs) (hm : m ≤ 1000) (_hne : br ≠ bs) :
    Fs (W.setCell ⟨bp, 4, none⟩ (.slice (some ⟨bs, 0, none⟩) m m)) B bp n m mayV br cr bs m of (List.replicate m false) := by
  obtain ⟨sv, h2⟩ := h.box
  have hne2 : bp ≠ bs := fun e => by rw [e, hs] at h2; simp at h2
  have hg := grownBy_setCellAt W bp 4 (.slice (some ⟨bs, 0, none⟩) m m)
  refine ⟨?_, h.row.kept hg (.inr (by simp [Value.ownBlock]; exact fun e => h.ne e.symm)), (own_of_block (by rw [List.map_replicate]; exact hs) (by simp) hb (by unfold maxLen; omega)).kept hg (.inr (by simp [Value.ownBlock]; exact fun e => hne2 e.symm)), h.bpB⟩
  simp [World.setCell, Array.getElem?_modify, h2]
end
theorem rowsOk_start (n m : Nat) : RowsOk n (List.replicate m (-1)) := fun k => by
  rw [List.getD_eq_getElem?_getD, List.getElem?_replicate]
  split <;> (simp; try omega)
theorem valid_start (g : Nat → Nat → Bool) (m : Nat) : Valid g m (List.replicate m (-1)) := fun k hk h => by
  rw [List.getD_eq_getElem?_getD, List.getElem?_replicate, if_pos hk] at h
  simp at h
theorem rowsOk_step {n r : Nat} {of of' : List Int} (h : RowsOk n of) (hr : r < n) (hc : ∀ q, cn q of' = cn q of + if q = r then 1 else 0) : RowsOk n of' := by
  intro k
  rcases Int.lt_or_le (of'.getD k (-1)) 0 with h0 | h0
  · omega
  · obtain ⟨q, hq⟩ : ∃ q : Nat, of'.getD k (-1) = (q : Int) := ⟨(of'.getD k (-1)).toNat, by omega⟩
    have hk : k < of'.length := by
      by_cases hk : k < of'.length
      · exact hk
      · rw [List.getD_eq_getElem?_getD, List.getElem?_eq_none (by omega)] at hq
        simp at hq
        try omega
    have h1 : 0 < cn q of' := cn_pos.2 ⟨k, hk, hq⟩
    rw [hc q] at h1
    by_cases e : q = r
    · omega
    · rw [if_neg e] at h1
      obtain ⟨j, _, hj⟩ := cn_pos.1 h1
      have := h j
      omega
theorem kuhnF_cons (g : Nat → Nat → Bool) (m r : Nat) (rs : List Nat) (of : List Int) (n : Nat) (u : Sta) (hu : findF g m (m + 1) r of (List.replicate m false) = u) : kuhnF g m (r :: rs) of n = if u.2.2 = true then kuhnF g m rs u.1 (n + 1) else kuhnF g m rs of n := by
  rw [kuhnF, hu]
theorem slE_newAt {w : World} {b : Nat} (x : Int) (hb : b = w.heap.size) : SlE intE 1 (w.alloc (.cells #[.int .i64 x] 3)) (some ⟨b, 0, none⟩) 1 [x] := by
  subst hb
  refine ⟨rfl, ?_⟩
  have := Sl.new w #[.int .i64 x] 3 1 1 rfl
  simpa [intE] using this
theorem rep1_map (x : Int) (m : Nat) : rep1 x m m = (List.replicate m x).map (Value.int .i64) := by simp [rep1]
theorem gb_keep {W w1 : World} {a b c : Value} {t : TypeId} {o : Obj} (hb : Below ((W.alloc (.cells #[a, b, c] t)).alloc o).heap.size ((W.alloc (.cells #[a, b, c] t)).alloc o).drew w1) :
    w1.cell? ⟨W.heap.size, 0, none⟩ = some a ∧ w1.cell? ⟨W.heap.size, 1, none⟩ = some b ∧ w1.cell? ⟨W.heap.size, 2, none⟩ = some c ∧ w1.heap[W.heap.size]? = some (.cells #[a, b, c] t (0, 0)) ∧ Below W.heap.size W w1 := by
  have h0 : ((W.alloc (.cells #[a, b, c] t)).alloc o).heap[W.heap.size]? = some (.cells #[a, b, c] t (0, 0)) :=
    ((below_new (W.alloc (.cells #[a, b, c] t)) o).block _ (by simp)).trans (heap_alloc_new W _)
  have h1 : w1.heap[W.heap.size]? = some (.cells #[a, b, c] t (0, 0)) := (hb.block _ (by simp; omega)).trans h0
  obtain ⟨q0, q1, q2, _⟩ := cells3 h1
  refine ⟨q0, q1, q2, h1, ?_⟩
  have h2 : Below W.heap.size W ((W.alloc (.cells #[a, b, c] t)).alloc o).drew := ((below_new W _).trans ((below_new (W.alloc (.cells #[a, b, c] t)) o).mono (by simp))).drew
  exact h2.trans (hb.mono (by simp; omega))
theorem cells3' {W : World} {b : Nat} {t : TypeId} {u0 u1 u2 : Value} (h : W.heap[b]? = some (.cells #[u0, u1, u2] t (0, 0))) :
    W.cell? ⟨b, 0, none⟩ = some u0 ∧ W.cell? ⟨b, 1, none⟩ = some u1 ∧ W.cell? ⟨b, 2, none⟩ = some u2 ∧ (∀ j, W.frozen? ⟨b, j, none⟩ = false) := cells3 h
set_option maxRecDepth 100000 in
set_option maxHeartbeats 2000000 in
theorem matched_any (n m n' : Nat) (F : FuncId) (caps : Array Value) (g : Nat → Nat → Bool) (hent : Enters Try.prog F) (W : World) (hmay : MayOk W W.heap.size F caps n m g) (hm1 : 1 ≤ m) (hm : m ≤ 1000) (hn : n ≤ 1000)
    (A : Option Addr) (c L : Nat) (rows : List Nat) (hL : L ≤ 1000) (hrows : ∀ r ∈ rows, r < n) (hA : SlE intE 1 W A L (rows.map fun (r : Nat) => (r : Int))) :
    Calls Try.prog 53 #[.agg #[.int .i64 (n' : Int), .int .i64 (m : Int), .func (.func F) #[] caps], .slice A L c] W fun e W' => ∃ bp, e = .returned (.tuple #[.pointer (some ⟨bp, 0, none⟩), .int .i64 (kuhn g m rows : Int)]) ∧ Below W.heap.size W W' := by
  refine calls_cps ?_
  intro R hR
  have Hrows := Lib.hid hrows
  have Hlen := Lib.hid (show L = rows.length by rw [hA.1, List.length_map])
  have Hmay := Lib.hid hmay
  clear hrows hmay
  go_enter Try.func53, Try.ntmps53
  go_wp2_with fail
  obtain ⟨q0, q1, q2, q3⟩ := cells3' (heap_alloc_new W (.cells #[.int .i64 (n' : Int), .int .i64 (m : Int), .func (.func F) #[] caps] 83))
  have hb0 : Below W.heap.size W (W.alloc (.cells #[.int .i64 (n' : Int), .int .i64 (m : Int), .func (.func F) #[] caps] 83)) := below_new W _
  have hx0 := heap_alloc_new W (.cells #[.int .i64 (n' : Int), .int .i64 (m : Int), .func (.func F) #[] caps] 83)
  go_region_held3 (fun w' => w'.cell? ⟨W.heap.size, 0, none⟩ = some (.int .i64 (n' : Int)) ∧ w'.cell? ⟨W.heap.size, 1, none⟩ = some (.int .i64 (m : Int)) ∧ w'.cell? ⟨W.heap.size, 2, none⟩ = some (.func (.func F) #[] caps))
    (first | go_keep | exact ⟨(gb_keep hb1).1, (gb_keep hb1).2.1, (gb_keep hb1).2.2.1⟩)
    (first | (go_at_call 66; refine (repeat_any _ _ _ m hm1 hm _ (by exact slE_newAt _ (World.size_alloc _ _).symm)).mono ?_; rintro e w1 ⟨g0, rfl, hg0, hblk, hb1⟩))
  obtain ⟨q0, q1, q2, hx1, hb2⟩ := gb_keep hb1
  have hw1 : W.heap.size < w1.heap.size := (Array.getElem?_eq_some_iff.1 hx1).1
  have hg1 : W.heap.size < g0 := by have := hg0; simp at this; omega
  have hP : Ps (w1.alloc (.cells #[.int .i64 (n' : Int), .int .i64 (m : Int), .func (.func F) #[] caps, .slice (some ⟨g0, 0, none⟩) m m, .slice none 0 0] 101)) W.heap.size w1.heap.size n' m (.func (.func F) #[] caps) g0 m (List.replicate m (-1)) :=
    ⟨⟨_, heap_alloc_new w1 _⟩, (own_of_block (by rw [← rep1_map]; exact hblk) (by simp) (by omega) (by unfold maxLen; omega)).kept (World.grownBy_alloc w1 _ none) (.inr (by simp [Value.ownBlock])), by omega⟩
  have hxa := ((below_new w1 (.cells #[.int .i64 (n' : Int), .int .i64 (m : Int), .func (.func F) #[] caps, .slice (some ⟨g0, 0, none⟩) m m, .slice none 0 0] 101)).block _ hw1).trans hx1
  have hb3 := hb2.trans ((below_new w1 (.cells #[.int .i64 (n' : Int), .int .i64 (m : Int), .func (.func F) #[] caps, .slice (some ⟨g0, 0, none⟩) m m, .slice none 0 0] 101)).mono (Nat.le_of_lt hw1))
  clear hb1 hg0 hblk hb0 hx0
  obtain ⟨bp, hbp⟩ : ∃ bp, w1.heap.size = bp := ⟨_, rfl⟩
  rw [hbp] at hP
  have hWbp : W.heap.size < bp := by omega
  have Hbp := Lib.hid hbp
  have Hxa := Lib.hid hxa
  have HP := Lib.hid hP
  have Hb3 := Lib.hid hb3
  have HA := Lib.hid hA
  have hm64 : m ≤ 9223372036854775807 := by omega
  clear hbp hxa hP hb3 q0 q1 q2 q3 hx1 hb2 hA
  go_wp2_with fail
  rw [Hbp.out]
  go_loopg [7, 10, 22] L (fun gk s7 s10 s22 wr => ∃ (k n0 : Nat) (of : List Int), k + gk = L ∧ n0 ≤ k ∧ s7 = .int .i64 ((n0 : Nat) : Int) ∧ s22 = .int .i64 ((k : Nat) : Int) ∧ wr.heap[W.heap.size]? = some (.cells #[.int .i64 (n' : Int), .int .i64 (m : Int), .func (.func F) #[] caps] 83 (0, 0)) ∧
    Ps wr W.heap.size bp n' m (.func (.func F) #[] caps) g0 m of ∧ Below W.heap.size W wr ∧ Hid (Valid g m of ∧ RowsOk n of ∧ kuhn g m rows = (kuhnF g m (rows.drop k) of n0).2))
  case atStart => exact ⟨0, 0, _, by omega, Nat.le_refl _, rfl, rfl, Hxa.out, HP.out, Hb3.out, Lib.hid ⟨valid_start g m, rowsOk_start n m, rfl⟩⟩
  case round =>
    obtain ⟨k, n0, of, hgk, hn0, rfl, rfl, hx, hP, hb, Hv⟩ := hrel
    obtain ⟨wi, rfl⟩ : ∃ wi : World, wi = wr := ⟨_, rfl⟩
    by_cases hlt : k < L
    · obtain ⟨b, o, x, rfl, hbl, hxk, hcell⟩ := (HA.out.below hb).at1 hlt
      have hkr : k < rows.length := by rw [← Hlen.out]; exact hlt
      obtain ⟨r, hr⟩ : ∃ r, rows[k] = r := ⟨_, rfl⟩
      obtain rfl : x = (r : Int) := by
        rw [List.getElem?_map, List.getElem?_eq_getElem hkr] at hxk
        simp at hxk
        rw [← hxk, hr]
      have hrn : r < n := Hrows.out r (by rw [← hr]; exact List.getElem_mem hkr)
      have Hdrop := Lib.hid (show rows.drop k = r :: rows.drop (k + 1) by rw [List.drop_eq_getElem_cons hkr, hr])
      obtain ⟨q0, q1, q2, q3⟩ := cells3' hx
      have i1 : (k : Int) < (L : Int) := by omega
      have i2 : (0 : Int) ≤ (m : Int) := by omega
      have Hx := Lib.hid hx
      have HP := Lib.hid hP
      have Hb := Lib.hid hb
      have hsz := hb.size
      have hWi : W.heap.size < wi.heap.size := (Array.getElem?_eq_some_iff.1 hx).1
      have hpl := hP.lt
      have hgl : g0 < wi.heap.size := (row_heap hP.row).2.1
      have HPl := Lib.hid hpl
      have Hgl := Lib.hid hgl
      clear hx hP hb hr hkr hxk hpl hgl
      go_wp2_with (at_make; refine wpList_mkZ rfl (.tmp 28) (.tmp 28) _ rfl 4 Try.underlying91 infoBool rfl (by omega) m m rfl rfl rfl (by omega) ?_; intro w2 hw2 hg2; have hP2 := HP.out.grown hg2; have hF2 := hP2.fs hw2 hsz hm (by have := Hgl.out; omega); have hfree := hP2.free; obtain ⟨sv, hsv⟩ := hP2.cell; have hb4 := Hb.out.grown hg2 hsz (fun k hk => by cases hk); have hb5 := hb4.setCell (p := ⟨bp, 4, none⟩) hP2.bpB (.slice (some ⟨wi.heap.size, 0, none⟩) m m); have HF2 := Lib.hid hF2; have HB5 := Lib.hid hb5; have Hx2 := Lib.hid ((Below.heap_setCell w2 ⟨bp, 4, none⟩ (.slice (some ⟨wi.heap.size, 0, none⟩) m m) W.heap.size (Nat.ne_of_lt hWbp)).trans ((hg2.block _ (Array.getElem?_eq_some_iff.1 Hx.out).1 (by simp)).trans Hx.out)); clear hw2 hg2 hP2 hF2 hb4 hb5)
      obtain ⟨u, hu⟩ : ∃ u, findF g m (m + 1) r of (List.replicate m false) = u := ⟨_, rfl⟩
      have hol : of.length = m := HP.out.len
      have hpost := find_post g m of hol Hv.out.1 (m + 1) r (List.replicate m false) (by simp) (by rw [unseen_fresh]; omega)
      have hcons := kuhnF_cons g m r (rows.drop (k + 1)) of n0 u hu
      rw [hu] at hpost
      rw [← Hdrop.out] at hcons
      have HU := Lib.hid hu
      have HPo := Lib.hid hpost
      have HCo := Lib.hid hcons
      clear hu hpost hcons hol
      refine (find_any W W.heap.size bp n m n' F caps g g0 m wi.heap.size m hent Hmay.out hm hn (Nat.le_of_lt hg1) hsz m r of (List.replicate m false) _ (by rw [unseen_fresh]; omega) hrn HF2.out HB5.out HB5.out.size Hv.out.1 Hv.out.2.1).mono ?_
      rw [HU.out]
      rintro e w4 ⟨rfl, hF4, hK4⟩
      have hb6 := Kx.low HB5.out hK4 (by rintro j (rfl | rfl) <;> omega) HB5.out.size
      have hx4 := (hK4.block _ (Array.getElem?_eq_some_iff.1 Hx2.out).1 (by omega)).trans Hx2.out
      have hP4 := hF4.ps
      clear hF4 hK4
      cases hok : u.2.2 with
      | true =>
        obtain ⟨hv1, hv2, _⟩ := HPo.out.yes hok
        have hro := rowsOk_step Hv.out.2.1 hrn hv2
        have hk := HCo.out
        rw [if_pos hok] at hk
        have HV2 := Lib.hid (show Valid g m u.1 ∧ RowsOk n u.1 ∧ kuhn g m rows = (kuhnF g m (rows.drop (k + 1)) u.1 (n0 + 1)).2 from ⟨hv1, hro, by rw [Hv.out.2.2, hk]⟩)
        clear hv1 hv2 hro hk hok
        go_wp2_with fail
        go_roundg (gk - 1)
        case measure => omega
        case rel => exact ⟨k + 1, n0 + 1, u.1, by omega, by omega, by go_num, by go_num, hx4, hP4, hb6, HV2⟩
      | false =>
        have h1 := (HPo.out.no hok).1
        rw [h1] at hP4
        have hk := HCo.out
        rw [if_neg (by rw [hok]; simp)] at hk
        have HV2 := Lib.hid (show Valid g m of ∧ RowsOk n of ∧ kuhn g m rows = (kuhnF g m (rows.drop (k + 1)) of n0).2 from ⟨Hv.out.1, Hv.out.2.1, by rw [Hv.out.2.2, hk]⟩)
        clear h1 hk hok
        go_wp2_with fail
        go_roundg (gk - 1)
        case measure => omega
        case rel => exact ⟨k + 1, n0, of, by omega, by omega, rfl, by go_num, hx4, hP4, hb6, HV2⟩
    · obtain rfl : L = k := by omega
      have hk := Hv.out.2.2
      rw [List.drop_of_length_le (by rw [← Hlen.out]; exact Nat.le_refl _)] at hk
      have Hfin := Lib.hid (hR.out (.returned (.tuple #[.pointer (some ⟨bp, 0, none⟩), .int .i64 (n0 : Int)])) wi ⟨bp, by rw [hk]; rfl, hb⟩)
      clear hx hP hb hk
      go_wp2
      exact Hfin.out
end
section
open Go.RowKit

def cellB (c : Int) : Bool := decide (-1 ≤ c) && decide (c ≤ 1000000000)
def rowB (n m : Nat) (r : List Int) : Bool := decide (r.length = m) && decide (n ≤ r.length) && decide (r.length ≤ 64) && r.all cellB
def wid (T : List (List Int)) : Nat := (T.headD []).length
/-- The table is valid. -/
def tabB (T : List (List Int)) : Bool := decide (1 ≤ T.length) && decide (T.length ≤ 64) && T.all (rowB T.length (wid T))
structure TOk (T : List (List Int)) (m : Nat) : Prop where
  n1 : 1 ≤ T.length
  nm : T.length ≤ m
  m64 : m ≤ 64
  rect : ∀ x ∈ T, x.length = m
  cell : ∀ x ∈ T, ∀ c ∈ x, -1 ≤ c ∧ c ≤ 1000000000
theorem cellB_iff {c : Int} : cellB c = true ↔ -1 ≤ c ∧ c ≤ 1000000000 := by simp [cellB]
theorem rowB_iff {n m : Nat} {r : List Int} : rowB n m r = true ↔ r.length = m ∧ n ≤ r.length ∧ r.length ≤ 64 ∧ ∀ c ∈ r, -1 ≤ c ∧ c ≤ 1000000000 := by
  simp [rowB, cellB_iff, and_assoc]
theorem tabB_iff {T : List (List Int)} : tabB T = true ↔ TOk T (wid T) := by
  constructor
  · intro h
    simp only [tabB, Bool.and_eq_true, decide_eq_true_eq, List.all_eq_true] at h
    obtain ⟨⟨h1, h2⟩, h3⟩ := h
    have h4 := fun x hx => rowB_iff.1 (h3 x hx)
    obtain ⟨a, r, rfl⟩ : ∃ a r, T = a :: r := by
      cases T with
      | nil => simp at h1
      | cons a r => exact ⟨a, r, rfl⟩
    have h5 := h4 a (by simp)
    exact ⟨h1, by rw [← h5.1]; exact h5.2.1, by rw [← h5.1]; exact h5.2.2.1, fun x hx => (h4 x hx).1, fun x hx => (h4 x hx).2.2.2⟩
  · intro h
    simp only [tabB, Bool.and_eq_true, decide_eq_true_eq, List.all_eq_true]
    exact ⟨⟨h.n1, Nat.le_trans h.nm h.m64⟩, fun x hx => rowB_iff.2 ⟨h.rect x hx, by rw [h.rect x hx]; exact h.nm, by rw [h.rect x hx]; exact h.m64, h.cell x hx⟩⟩
theorem TOk.wid {T : List (List Int)} {m : Nat} (h : TOk T m) : wid T = m := by
  cases T with
  | nil => have := h.n1; simp at this
  | cons a r => exact h.rect a (by simp)
theorem TOk.ct_mem {T : List (List Int)} {m : Nat} (h : TOk T m) {i j : Nat} (hi : i < T.length) (hj : j < m) : ∃ r ∈ T, r.length = m ∧ ct T i j ∈ r := by
  refine ⟨T[i], List.getElem_mem hi, h.rect _ (List.getElem_mem hi), ?_⟩
  have hl : j < (T[i]).length := by rw [h.rect _ (List.getElem_mem hi)]; exact hj
  have e : ct T i j = (T[i])[j] := by
    unfold ct
    rw [getD_get _ _ _ hi, getD_get _ _ _ hl]
  rw [e]
  exact List.getElem_mem hl
theorem TOk.costOk {T : List (List Int)} {m : Nat} (h : TOk T m) : CostOk T m := fun i j hi hj => by
  obtain ⟨r, hr, _, hc⟩ := h.ct_mem hi hj
  exact h.cell r hr _ hc
theorem tab_no_row {T : List (List Int)} {i : Nat} {r : List Int} (hr : T[i]? = some r) (h : rowB T.length (wid T) r = false) : tabB T = false := by
  unfold tabB
  have : T.all (rowB T.length (wid T)) = false := by
    rw [List.all_eq_false]
    exact ⟨r, List.mem_of_getElem? hr, by rw [h]; simp⟩
  rw [this]; simp
theorem row_no_cell {n m : Nat} {r : List Int} {j : Nat} {c : Int} (hc : r[j]? = some c) (h : cellB c = false) : rowB n m r = false := by
  unfold rowB
  have : r.all cellB = false := by
    rw [List.all_eq_false]
    exact ⟨c, List.mem_of_getElem? hc, by rw [h]; simp⟩
  rw [this]; simp
theorem all_snoc {α : Type} {P : α → Bool} {l : List α} {k : Nat} {x : α} (h : (l.take k).all P = true) (hx : l[k]? = some x) (hp : P x = true) : (l.take (k + 1)).all P = true := by
  obtain ⟨hk, rfl⟩ := List.getElem?_eq_some_iff.1 hx
  rw [List.take_succ_eq_append_getElem hk, List.all_append, h]
  simp [hp]
theorem head_wid {T : List (List Int)} {r : List Int} (h : T[0]? = some r) : r.length = wid T := by
  cases T with
  | nil => simp at h
  | cons a t => simp at h; subst h; rfl
theorem SlR.head {w : World} {A : Option Addr} {n : Nat} {T : List (List Int)} (h : SlR w A n T) (h0 : 0 < n) : ∃ b o A0 c0, A = some ⟨b, o, none⟩ ∧ w.cell? ⟨b, o, none⟩ = some (.slice A0 (wid T) c0) := by
  obtain ⟨b, o, r, Ai, ci, hA, _, hr, hc, _⟩ := h.at_ h0
  exact ⟨b, o, Ai, ci, hA, by rw [← head_wid hr]; simpa using hc⟩
set_option maxRecDepth 100000 in
set_option maxHeartbeats 2000000 in
theorem check_any (A : Option Addr) (n c : Nat) (T : List (List Int)) (w : World) (hT : SlR w A n T) (hn : n ≤ 9223372036854775807) (hrow : ∀ r ∈ T, r.length ≤ 9223372036854775807) :
    Calls Try.prog 36 #[.slice A n c] w fun e w' => e = .returned (.int .i64 (if tabB T = true then 0 else 1)) ∧ w = w' := by
  refine calls_cps ?_
  intro R hR
  have Hyes := Lib.hid (show tabB T = true → R (.returned (.int .i64 0)) w from fun h => hR.out _ _ ⟨by rw [if_pos h], rfl⟩)
  have Hno := Lib.hid (show tabB T = false → R (.returned (.int .i64 1)) w from fun h => hR.out _ _ ⟨by rw [if_neg (by rw [h]; simp)], rfl⟩)
  have HT := Lib.hid hT
  have Hrow := Lib.hid hrow
  have Hl := Lib.hid hT.1
  clear hR hT hrow
  by_cases h1 : n < 1
  · have Hf := Lib.hid (Hno.out (by unfold tabB; rw [decide_eq_false (by rw [← Hl.out]; omega)]; rfl))
    go_enter Try.func36, Try.ntmps36
    go_wp2
    exact Hf.out
  by_cases h2 : 64 < n
  · have Hf := Lib.hid (Hno.out (by unfold tabB; rw [decide_eq_false (p := T.length ≤ 64) (by rw [← Hl.out]; omega)]; simp))
    go_enter Try.func36, Try.ntmps36
    go_wp2
    exact Hf.out
  obtain ⟨b, o, A0, c0, rfl, hhead⟩ := HT.out.head (by omega)
  obtain ⟨m, hm⟩ : ∃ m, wid T = m := ⟨_, rfl⟩
  rw [hm] at hhead
  have Hm := Lib.hid hm
  have Hhead := Lib.hid hhead
  clear hm hhead
  have i5 : (n : Int) ≤ 64 := by omega
  have i6 : (1 : Int) ≤ (n : Int) := by omega
  go_enter Try.func36, Try.ntmps36
  go_wp2_with fail
  go_loop [17] (fun s17 => ∃ k : Nat, k ≤ n ∧ s17 = .int .i64 ((k : Nat) : Int) ∧ Hid ((T.take k).all (rowB n m) = true)) (fun s17 => n - (intOf s17).toNat)
  case atStart => exact ⟨0, by omega, rfl, Lib.hid (by simp)⟩
  case round =>
    obtain ⟨k, hk, rfl, Ha⟩ := hrel
    by_cases hlt : k < n
    · obtain ⟨b', o', r, Ai, ci, e, hbl, hr, hcell, hrow⟩ := HT.out.at_ hlt
      simp only [Option.some.injEq, Addr.mk.injEq, and_true] at e
      obtain ⟨rfl, rfl⟩ := e
      obtain ⟨l, hl⟩ : ∃ l, r.length = l := ⟨_, rfl⟩
      rw [hl] at hcell hrow
      have i1 : (k : Int) < (n : Int) := by omega
      have hl64 : l ≤ 9223372036854775807 := by rw [← hl]; exact Hrow.out r (List.mem_of_getElem? hr)
      have Hr := Lib.hid hr
      have HL := Lib.hid hl
      have Hrw := Lib.hid hrow
      have hhead := Hhead.out
      clear hr hl hrow
      by_cases h3 : l = m
      · by_cases h4 : n ≤ l
        · by_cases h5 : l ≤ 64
          · have g3 : ((l : Int) != m) = false := by simp [h3]
            have g4 : decide ((l : Int) < (n : Int)) = false := by simp; omega
            have g5 : decide ((64 : Int) < (l : Int)) = false := by simp; omega
            have H3 := Lib.hid h3
            have H4 := Lib.hid h4
            have H5 := Lib.hid h5
            clear h3
            go_wp2_with fail
            go_loop [42] (fun s42 => ∃ j : Nat, j ≤ l ∧ s42 = .int .i64 ((j : Nat) : Int) ∧ Hid ((r.take j).all cellB = true)) (fun s42 => l - (intOf s42).toNat)
            case atStart => exact ⟨0, by omega, rfl, Lib.hid (by simp)⟩
            case round =>
              obtain ⟨j, hj, rfl, Hj⟩ := hrel
              by_cases hltj : j < l
              · obtain ⟨b2, o2, x, rfl, _, hx, q0⟩ := Hrw.out.at1 hltj
                have i2 : (j : Int) < (l : Int) := by omega
                have Hx := Lib.hid hx
                clear hx
                by_cases hx1 : x < -1
                · have Hf := Lib.hid (Hno.out (tab_no_row Hr.out (row_no_cell Hx.out (by unfold cellB; rw [decide_eq_false (by omega)]; rfl))))
                  go_wp2
                  exact Hf.out
                · by_cases hx2 : 1000000000 < x
                  · have Hf := Lib.hid (Hno.out (tab_no_row Hr.out (row_no_cell Hx.out (by unfold cellB; rw [decide_eq_false (p := x ≤ 1000000000) (by omega)]; simp))))
                    go_wp2
                    exact Hf.out
                  · have HJ := Lib.hid (all_snoc Hj.out Hx.out (cellB_iff.2 (by omega)))
                    go_wp2
                    exact ⟨⟨j + 1, by omega, by go_num, HJ⟩, by simp [intOf]; omega⟩
              · obtain rfl : l = j := by omega
                have hc := Hj.out
                rw [List.take_of_length_le (by rw [HL.out]; exact Nat.le_refl _)] at hc
                have HA := Lib.hid (all_snoc Ha.out Hr.out (by unfold rowB; rw [HL.out, decide_eq_true H3.out, decide_eq_true H4.out, decide_eq_true H5.out, hc]; rfl))
                clear hc
                go_wp2
                exact ⟨⟨k + 1, by omega, by go_num, HA⟩, by simp [intOf]; omega⟩
          · have g3 : ((l : Int) != m) = false := by simp [h3]
            have Hf := Lib.hid (Hno.out (tab_no_row Hr.out (by unfold rowB; rw [HL.out, decide_eq_false h5]; simp)))
            clear h3
            go_wp2
            exact Hf.out
        · have g3 : ((l : Int) != m) = false := by simp [h3]
          have Hf := Lib.hid (Hno.out (tab_no_row Hr.out (by unfold rowB; rw [HL.out, ← Hl.out, decide_eq_false h4]; simp)))
          clear h3
          go_wp2
          exact Hf.out
      · have g3 : ((l : Int) != m) = true := by simp; omega
        have Hf := Lib.hid (Hno.out (tab_no_row Hr.out (by unfold rowB; rw [HL.out, Hm.out, decide_eq_false h3]; rfl)))
        clear h3
        go_wp2
        exact Hf.out
    · obtain rfl : n = k := by omega
      have h := Ha.out
      rw [List.take_of_length_le (by rw [Hl.out]; exact Nat.le_refl _)] at h
      have Hf := Lib.hid (Hyes.out (by unfold tabB; rw [← Hl.out, Hm.out, h, decide_eq_true (by omega), decide_eq_true (by omega)]; rfl))
      clear h
      go_wp2
      exact Hf.out
end
section
open Go.RowKit

def inB (v lo hi : Int) : Bool := decide (lo ≤ v) && decide (v ≤ hi)
theorem inB_iff {v lo hi : Int} : inB v lo hi = true ↔ lo ≤ v ∧ v ≤ hi := by simp [inB]
theorem inB_no {v lo hi : Int} (h : ¬ (lo ≤ v ∧ v ≤ hi)) : inB v lo hi = false := by
  cases hb : inB v lo hi with
  | false => rfl
  | true => exact absurd (inB_iff.1 hb) h
set_option maxHeartbeats 1000000 in
theorem refIn_any (v lo hi : Int) (w : World) : Calls Try.prog 46 #[.int .i64 v, .int .i64 lo, .int .i64 hi] w fun e w' => e = .returned (.bool (inB v lo hi)) ∧ w = w' := by
  refine calls_cps ?_
  intro R hR
  by_cases h1 : lo ≤ v
  · by_cases h2 : v ≤ hi
    · have Hf := Lib.hid (hR.out (.returned (.bool true)) w ⟨by rw [inB_iff.2 ⟨h1, h2⟩], rfl⟩)
      go_enter Try.func46, Try.ntmps46
      go_wp2
      exact Hf.out
    · have Hf := Lib.hid (hR.out (.returned (.bool false)) w ⟨by rw [inB_no (by omega)], rfl⟩)
      go_enter Try.func46, Try.ntmps46
      go_wp2
      exact Hf.out
  · have Hf := Lib.hid (hR.out (.returned (.bool false)) w ⟨by rw [inB_no (by omega)], rfl⟩)
    go_enter Try.func46, Try.ntmps46
    go_wp2
    exact Hf.out
theorem refIn_yes (v lo hi : Int) (w : World) (h : lo ≤ v ∧ v ≤ hi) : Calls Try.prog 46 #[.int .i64 v, .int .i64 lo, .int .i64 hi] w fun e w' => e = .returned (.bool true) ∧ w = w' :=
  (refIn_any v lo hi w).mono fun _ _ hh => by rw [inB_iff.2 h] at hh; exact hh
theorem refIn_no (v lo hi : Int) (w : World) (h : ¬ (lo ≤ v ∧ v ≤ hi)) : Calls Try.prog 46 #[.int .i64 v, .int .i64 lo, .int .i64 hi] w fun e w' => e = .returned (.bool false) ∧ w = w' :=
  (refIn_any v lo hi w).mono fun _ _ hh => by rw [inB_no h] at hh; exact hh
set_option maxRecDepth 100000 in
set_option maxHeartbeats 4000000 in
theorem refCheck_any (A : Option Addr) (n c : Nat) (T : List (List Int)) (w : World) (hT : SlR w A n T) (hn : n ≤ 9223372036854775807) (hrow : ∀ r ∈ T, r.length ≤ 9223372036854775807) :
    Calls Try.prog 21 #[.slice A n c] w fun e w' => e = .returned (.int .i64 (if tabB T = true then 0 else 1)) ∧ Qt w w' := by
  refine calls_cps ?_
  intro R hR
  have Hyes := Lib.hid (show ∀ W, Qt w W → tabB T = true → R (.returned (.int .i64 0)) W from fun W hq h => hR.out _ _ ⟨by rw [if_pos h], hq⟩)
  have Hno := Lib.hid (show ∀ W, Qt w W → tabB T = false → R (.returned (.int .i64 1)) W from fun W hq h => hR.out _ _ ⟨by rw [if_neg (by rw [h]; simp)], hq⟩)
  have HT := Lib.hid hT
  have Hrow := Lib.hid hrow
  have Hl := Lib.hid hT.1
  clear hR hT hrow
  by_cases h1 : n < 1
  · have Hf := Lib.hid (Hno.out w (Qt.refl _) (by unfold tabB; rw [decide_eq_false (by rw [← Hl.out]; omega)]; rfl))
    go_enter Try.func21, Try.ntmps21
    go_wp2_with (go_at_call 46; refine (refIn_no _ _ _ _ (by omega)).mono ?_; rintro e w1 ⟨rfl, rfl⟩)
    exact Hf.out
  by_cases h2 : 64 < n
  · have Hf := Lib.hid (Hno.out w (Qt.refl _) (by unfold tabB; rw [decide_eq_false (p := T.length ≤ 64) (by rw [← Hl.out]; omega)]; simp))
    go_enter Try.func21, Try.ntmps21
    go_wp2_with (go_at_call 46; refine (refIn_no _ _ _ _ (by omega)).mono ?_; rintro e w1 ⟨rfl, rfl⟩)
    exact Hf.out
  obtain ⟨b, o, A0, c0, rfl, hhead⟩ := HT.out.head (by omega)
  obtain ⟨m, hm⟩ : ∃ m, wid T = m := ⟨_, rfl⟩
  rw [hm] at hhead
  have Hm := Lib.hid hm
  have Hhead := Lib.hid hhead
  obtain ⟨r0, hr0⟩ : ∃ r0, T[0]? = some r0 := ⟨_, List.getElem?_eq_getElem (by rw [← Hl.out]; omega)⟩
  have Hr0 := Lib.hid hr0
  have Hm0 := Lib.hid ((head_wid hr0).trans hm)
  have i5 : (n : Int) ≤ 64 := by omega
  have i6 : (1 : Int) ≤ (n : Int) := by omega
  have hm63 : m ≤ 9223372036854775807 := by rw [← Hm0.out]; exact Hrow.out r0 (List.mem_of_getElem? hr0)
  clear hm hr0
  by_cases h3 : n ≤ m ∧ m ≤ 64
  · obtain ⟨h4, h5⟩ := h3
    go_enter Try.func21, Try.ntmps21
    go_wp2_with (go_at_call 46; refine (refIn_yes _ _ _ _ (by omega)).mono ?_; rintro e w1 ⟨rfl, rfl⟩)
    clear hhead
    go_loopw [3] (fun s3 wr => ∃ k : Nat, k ≤ n ∧ s3 = .int .i64 ((k : Nat) : Int) ∧ Hid ((T.take k).all (rowB n m) = true) ∧ Qt w wr) (fun s3 _ => n - (intOf s3).toNat)
    case atStart => exact ⟨0, by omega, rfl, Lib.hid (by simp), Qt.refl _⟩
    case round =>
      obtain ⟨k, hk, rfl, Ha, hq⟩ := hrel
      obtain ⟨wi, rfl⟩ : ∃ wi : World, wi = wr := ⟨_, rfl⟩
      by_cases hlt : k < n
      · obtain ⟨b', o', r, Ai, ci, e, hbl, hr, hcell, hrow⟩ := (hq.slr HT.out).at_ hlt
        simp only [Option.some.injEq, Addr.mk.injEq, and_true] at e
        obtain ⟨rfl, rfl⟩ := e
        obtain ⟨l, hl⟩ : ∃ l, r.length = l := ⟨_, rfl⟩
        rw [hl] at hcell hrow
        have i1 : (k : Int) < (n : Int) := by omega
        have hl64 : l ≤ 9223372036854775807 := by rw [← hl]; exact Hrow.out r (List.mem_of_getElem? hr)
        have Hr := Lib.hid hr
        have HL := Lib.hid hl
        have Hrw := Lib.hid hrow
        have hhead : wi.cell? ⟨b, o, none⟩ = some (.slice A0 m c0) := by obtain ⟨q, rfl⟩ := hq; exact Hhead.out
        clear hr hl hrow
        by_cases h3 : l = m
        · have g3 : ((l : Int) != m) = false := by simp [h3]
          have H3 := Lib.hid h3
          clear h3
          go_wp2_with fail
          go_quiet (fail)
          go_wp2_with fail
          go_loopw [4] (fun s4 wr => ∃ j : Nat, j ≤ l ∧ s4 = .int .i64 ((j : Nat) : Int) ∧ Hid ((r.take j).all cellB = true) ∧ Qt w wr) (fun s4 _ => l - (intOf s4).toNat)
          case atStart => exact ⟨0, by omega, rfl, Lib.hid (by simp), hq.step _⟩
          case round =>
            clear hcell hhead
            obtain ⟨j, hj, rfl, Hj, hqj⟩ := hrel
            obtain ⟨wj, rfl⟩ : ∃ wj : World, wj = wr := ⟨_, rfl⟩
            obtain ⟨b', o', r', Aj, cj, e, _, hr', hcell, hrow⟩ := (hqj.slr HT.out).at_ hlt
            simp only [Option.some.injEq, Addr.mk.injEq, and_true] at e
            obtain ⟨rfl, rfl⟩ := e
            have he := Hr.out
            rw [hr'] at he
            injection he with he
            subst he
            rw [HL.out] at hcell hrow
            have Hrj := Lib.hid hrow
            clear hr' hrow
            by_cases hltj : j < l
            · obtain ⟨b2, o2, x, rfl, _, hx, q0⟩ := Hrj.out.at1 hltj
              have i2 : (j : Int) < (l : Int) := by omega
              have Hx := Lib.hid hx
              clear hx
              by_cases hx1 : -1 ≤ x ∧ x ≤ 1000000000
              · have HJ := Lib.hid (all_snoc Hj.out Hx.out (cellB_iff.2 hx1))
                go_wp2_with (go_at_call 46; refine (refIn_yes _ _ _ _ (by omega)).mono ?_; rintro e w1 ⟨rfl, rfl⟩)
                exact ⟨⟨j + 1, by omega, by go_num, HJ, hqj⟩, by simp [intOf]; omega⟩
              · have Hf := Lib.hid (Hno.out _ hqj (tab_no_row Hr.out (row_no_cell Hx.out (by cases hb : cellB x with | false => rfl | true => exact absurd (cellB_iff.1 hb) hx1))))
                go_wp2_with (go_at_call 46; refine (refIn_no _ _ _ _ (by omega)).mono ?_; rintro e w1 ⟨rfl, rfl⟩)
                exact Hf.out
            · obtain rfl : l = j := by omega
              have hc := Hj.out
              rw [List.take_of_length_le (by rw [HL.out]; exact Nat.le_refl _)] at hc
              have HA := Lib.hid (all_snoc Ha.out Hr.out (by unfold rowB; rw [HL.out, decide_eq_true H3.out, decide_eq_true (by rw [H3.out]; exact h4), decide_eq_true (by rw [H3.out]; exact h5), hc]; rfl))
              clear hc
              go_wp2
              exact ⟨⟨k + 1, by omega, by go_num, HA, hqj⟩, by simp [intOf]; omega⟩
        · have g3 : ((l : Int) != m) = true := by simp; omega
          have Hf := Lib.hid (show ∀ W, Qt w W → R (.returned (.int .i64 1)) W from fun W hq => Hno.out W hq (tab_no_row Hr.out (by unfold rowB; rw [HL.out, Hm.out, decide_eq_false h3]; rfl)))
          clear h3
          go_wp2_with fail
          go_quiet (fail)
          go_wp2
          exact Hf.out _ (hq.step _)
      · obtain rfl : n = k := by omega
        have h := Ha.out
        rw [List.take_of_length_le (by rw [Hl.out]; exact Nat.le_refl _)] at h
        have Hf := Lib.hid (Hyes.out wi hq (by unfold tabB; rw [← Hl.out, Hm.out, h, decide_eq_true (by omega), decide_eq_true (by omega)]; rfl))
        clear h
        go_wp2
        exact Hf.out
  · have Hf := Lib.hid (Hno.out w (Qt.refl _) (tab_no_row Hr0.out (by unfold rowB; rw [Hm0.out, ← Hl.out]; simp; omega)))
    go_enter Try.func21, Try.ntmps21
    go_wp2_with (first | (go_at_call 46; refine (refIn_yes _ _ _ _ (by omega)).mono ?_; rintro e w1 ⟨rfl, rfl⟩) | (go_at_call 46; refine (refIn_no _ _ _ _ (by omega)).mono ?_; rintro e w1 ⟨rfl, rfl⟩))
    exact Hf.out
end
section
open Go.RowKit

theorem Enters65 : Enters Try.prog 65 := enters_of Try.func65 (by kernel_rfl) rfl
set_option maxHeartbeats 1000000 in
/-- What tells which costs are allowed only reads. -/
theorem allowed_may (W : World) (g n c m : Nat) (A : Option Addr) (T : List (List Int)) (hT : SlR W A n T) (hok : TOk T m) (hg : W.heap[g]? = some (.cells #[.slice A n c] 22 (0, 0))) :
    MayOk W W.heap.size 65 #[.pointer (some ⟨g, 0, none⟩)] n m (gT T) := by
  intro W1 r k hb hr hk
  refine calls_cps ?_
  intro R hR
  have hg1 := (hb.block g (Array.getElem?_eq_some_iff.1 hg).1).trans hg
  have q0 : W1.cell? ⟨g, 0, none⟩ = some (.slice A n c) := by rw [cell_of_row _ _ 0 _ _ (0, 0) hg1]; rfl
  obtain ⟨b, o, Ai, ci, bi, oi, rfl, _, _, q1, rfl, q2⟩ := table_at hT hok.rect hb hr hk
  have hc := hok.costOk r k (by rw [← hT.1]; exact hr) hk
  have i1 : (r : Int) < (n : Int) := by omega
  have i2 : (k : Int) < (m : Int) := by omega
  obtain ⟨y, hy⟩ : ∃ y, ct T r k = y := ⟨_, rfl⟩
  rw [hy] at q2 hc
  have Hf := Lib.hid (hR.out (.returned (.bool (y != -1))) W1 ⟨ret_bool (by rw [show gT T r k = decide (0 ≤ y) by unfold gT; rw [hy], Bool.eq_iff_iff]; simp; omega), Qt.refl _⟩)
  clear hR hy hg hg1 hT hok hb
  show Calls Try.prog 65 #[.int .i64 (r : Int), .int .i64 (k : Int), .pointer (some ⟨g, 0, none⟩)] W1 R
  go_enter Try.func65, Try.ntmps65
  go_wp2
  exact Hf.out
set_option maxRecDepth 100000 in
set_option maxHeartbeats 2000000 in
theorem allowed_any (A : Option Addr) (n c m : Nat) (T : List (List Int)) (w : World) (hT : SlR w A n T) (hok : TOk T m) :
    Calls Try.prog 51 #[.slice A n c] w fun e w' => ∃ g, e = .returned (.agg #[.int .i64 (n : Int), .int .i64 (m : Int), .func (.func 65) #[] #[.pointer (some ⟨g, 0, none⟩)]]) ∧
      w'.heap[g]? = some (.cells #[.slice A n c] 22 (0, 0)) ∧ w.heap.size ≤ g ∧ Below w.heap.size w w' := by
  refine calls_cps ?_
  intro R hR
  have hn1 : 1 ≤ n := by rw [hT.1]; exact hok.n1
  obtain ⟨b, o, A0, c0, rfl, hh⟩ := hT.head (by omega)
  rw [hok.wid] at hh
  have hbl : b < w.heap.size := by
    obtain ⟨b', o', hA, hlt, _⟩ := hT.2 (by omega)
    injection hA with hA
    injection hA with hA
    subst hA
    exact hlt
  have hn := hT.1
  have h64 := hok.m64
  have hnm : n ≤ m := by rw [hT.1]; exact hok.nm
  clear hT hok hn
  have n1 : b ≠ w.heap.size := by omega
  have n2 : b ≠ w.heap.size + 1 := by omega
  have i5 : (n : Int) ≤ 64 := by omega
  have i6 : (1 : Int) ≤ (n : Int) := by omega
  have i7 : 0 < n := by omega
  go_enter Try.func51, Try.ntmps51
  go_wp2_with fail
  have hb1 : Below w.heap.size w (w.alloc (.cells #[.slice (some ⟨b, o, none⟩) n c] 22)) := below_new w _
  go_region_held3 (fun w' => w'.cell? ⟨w.heap.size, 0, none⟩ = some (.slice (some ⟨b, o, none⟩) n c) ∧ w'.cell? ⟨b, o, none⟩ = some (.slice A0 m c0)) (go_keep) (fail)
  go_wp2
  refine bodyPost_ret (v := .agg #[.int .i64 (n : Int), .int .i64 (m : Int), .func (.func 65) #[] #[.pointer (some ⟨w.heap.size, 0, none⟩)]]) ?_ rfl (hR.out _ _ ⟨w.heap.size, rfl, ?_, Nat.le_refl _, ?_⟩)
  · simp [results, Try.results51, go_sem]
  · exact ((below_new (w.alloc (.cells #[.slice (some ⟨b, o, none⟩) n c] 22)) _).block _ (by simp)).trans (heap_alloc_new w _)
  · exact ((below_new w _).trans ((below_new (w.alloc (.cells #[.slice (some ⟨b, o, none⟩) n c] 22)) _).mono (by simp))).drew
end
section
open Go.RowKit

def numL (n : Nat) : List Int := (List.range n).map fun (i : Nat) => (i : Int)
theorem numL_len (n : Nat) : (numL n).length = n := by simp [numL]
theorem numL_succ (n : Nat) : numL (n + 1) = numL n ++ [(n : Int)] := by simp [numL, List.range_succ]
theorem slE_of_block {W : World} {g n : Nat} {e : TypeId} {l : List Int} (h : W.heap[g]? = some (.cells (l.map (Value.int .i64)).toArray e (0, 0))) (hn : n = l.length) : SlE intE 1 W (some ⟨g, 0, none⟩) n l := by
  refine ⟨hn, by rw [flat_length intE_len]; omega, fun _ => ⟨g, 0, rfl, (Array.getElem?_eq_some_iff.1 h).1, fun j u hu => ?_⟩⟩
  rw [Nat.zero_add, cell_of_row _ _ _ _ _ (0, 0) h]
  rw [flat_int] at hu
  simpa using hu
theorem range_lt (n : Nat) : ∀ r ∈ List.range n, r < n := fun _r hr => List.mem_range.1 hr
set_option maxRecDepth 100000 in
set_option maxHeartbeats 2000000 in
theorem most_no (A : Option Addr) (n c : Nat) (T : List (List Int)) (w : World) (hT : SlR w A n T) (hn : n ≤ 9223372036854775807) (hrow : ∀ r ∈ T, r.length ≤ 9223372036854775807) (ht : tabB T = false) :
    Calls Try.prog 34 #[.slice A n c] w fun e w' => e = .returned (.tuple #[.int .i64 0, .int .i64 1]) ∧ Below w.heap.size w w' := by
  refine calls_cps ?_
  intro R hR
  go_enter Try.func34, Try.ntmps34
  go_wp2_with (go_at_call 36; refine (check_any _ _ _ T _ hT hn hrow).mono ?_; rw [ht]; rintro e w1 ⟨rfl, rfl⟩)
  exact hR.out _ _ ⟨rfl, Below.refl _ _⟩
set_option maxRecDepth 100000 in
set_option maxHeartbeats 2000000 in
theorem most_yes (A : Option Addr) (n c m : Nat) (T : List (List Int)) (w : World) (hT : SlR w A n T) (hok : TOk T m) :
    Calls Try.prog 34 #[.slice A n c] w fun e w' => e = .returned (.tuple #[.int .i64 (kuhn (gT T) m (List.range n) : Int), .int .i64 0]) ∧ Below w.heap.size w w' := by
  refine calls_cps ?_
  intro R hR
  have hn64 : n ≤ 64 := by rw [hT.1]; exact Nat.le_trans hok.nm hok.m64
  have hrow : ∀ r ∈ T, r.length ≤ 9223372036854775807 := fun r hr => by rw [hok.rect r hr]; have := hok.m64; omega
  have ht : tabB T = true := tabB_iff.2 (by rw [hok.wid]; exact hok)
  have hm1 : 1 ≤ m := Nat.le_trans hok.n1 hok.nm
  have hm64 := hok.m64
  obtain ⟨K, hK⟩ : ∃ K, kuhn (gT T) m (List.range n) = K := ⟨_, rfl⟩
  have HK := Lib.hid hK
  have HT := Lib.hid hT
  have Hok := Lib.hid hok
  have Hrow := Lib.hid hrow
  have Ht := Lib.hid ht
  clear hK hT hok hrow ht
  go_enter Try.func34, Try.ntmps34
  go_wp2_with fail
  refine (check_any _ _ _ T _ HT.out (by omega) Hrow.out).mono ?_
  rw [if_pos Ht.out]
  rintro e w0 ⟨rfl, rfl⟩
  go_wp2_with fail
  refine (allowed_any _ _ _ m T _ HT.out Hok.out).mono ?_
  rintro e w1 ⟨g, rfl, hbx, hg, hb1⟩
  go_wp2_with fail
  refine (numbers_any n (by omega) _).mono ?_
  rintro e w2 ⟨g2, rfl, hg2, hblk, hb2⟩
  have hbx2 := (hb2.block g (Array.getElem?_eq_some_iff.1 hbx).1).trans hbx
  have hT2 := (HT.out.below hb1).below hb2
  have hf2 := hb1.trans (hb2.mono hb1.size)
  clear hb1 hb2 hbx hg hg2
  go_wp2_with fail
  refine (matched_any n m n _ _ (gT T) Enters65 w2 (allowed_may w2 g n c m _ T hT2 Hok.out hbx2) hm1 (by omega) (by omega) _ _ n (List.range n) (by omega) (range_lt n) (slE_of_block hblk (by simp))).mono ?_
  rw [HK.out]
  rintro e w3 ⟨bp, rfl, hb3⟩
  have Hf := Lib.hid (hR.out (.returned (.tuple #[.int .i64 (K : Int), .int .i64 0])) w3 ⟨by rw [HK.out], hf2.trans (hb3.mono hf2.size)⟩)
  clear hb3 hf2 hblk hbx2 hT2
  go_wp2
  exact Hf.out
end
section
open Go.RowKit

set_option maxRecDepth 100000 in
set_option maxHeartbeats 2000000 in
theorem refAll_any (A : Option Addr) (n c : Nat) (hn : n ≤ 64) (w : World) :
    Calls Try.prog 30 #[.slice A n c] w fun e w' => ∃ A' c', e = .returned (.slice A' n c') ∧ w'.ownsRow w.heap.size 3 1 (.slice A' n c') n ((numL n).flatMap intE) ∧ Below w.heap.size w w' := by
  refine calls_cps ?_
  intro R hR
  go_enter Try.func30, Try.ntmps30
  go_wp2_with fail
  go_loopw [3, 4] (fun s3 s4 wr => ∃ (k : Nat) (A' : Option Addr) (c' : Nat), k ≤ n ∧ s3 = .slice A' k c' ∧ s4 = .int .i64 ((k : Nat) : Int) ∧ wr.ownsRow w.heap.size 3 1 (.slice A' k c') k ((numL k).flatMap intE) ∧ Below w.heap.size w wr) (fun _ s4 _ => n - (intOf s4).toNat)
  case atStart => exact ⟨0, _, _, by omega, rfl, rfl, own_new w #[] 3 1 0 w.heap.size rfl (Nat.le_refl _) (by unfold maxLen; omega), below_new w _⟩
  case round =>
    obtain ⟨k, A', c', hk, rfl, rfl, ho, hb⟩ := hrel
    obtain ⟨wi, rfl⟩ : ∃ wi : World, wi = wr := ⟨_, rfl⟩
    by_cases hlt : k < n
    · have i1 : (k : Int) < (n : Int) := by omega
      have hsz := hb.size
      go_wp2_with (at_builtin; refine wpList_app rfl (.tmp 12) (.tmp 14) _ rfl elemInt w.heap.size _ _ _ rfl (ho.kept (World.grownBy_alloc wi _ none) (by cases (Value.slice A' k c').ownBlock <;> simp)) _ _ _ _ rfl (Sl.new _ _ _ 1 1 rfl) (by simp [Value.oneCell']) (by unfold maxLen; omega) (by omega) (by simp; omega) ?_; intro A1 c1 w2 ho2 hg2 _; have hb2 := below_own (hb.alloc hsz _) (ho.kept (World.grownBy_alloc wi _ none) (by cases (Value.slice A' k c').ownBlock <;> simp)) (Nat.le_refl _) (by simp; omega) hg2; have HO := Lib.hid (show w2.ownsRow w.heap.size 3 1 (.slice A1 (k + 1) c1) (k + 1) ((numL (k + 1)).flatMap intE) from by rw [numL_succ, List.flatMap_append]; exact ho2); have HB := Lib.hid hb2; clear ho2 hg2 hb2 ho hb)
      exact ⟨⟨k + 1, A1, c1, by omega, rfl, by go_num, HO.out, HB.out⟩, by simp [intOf]; omega⟩
    · obtain rfl : n = k := by omega
      have Hf := Lib.hid (hR.out (.returned (.slice A' n c')) wi ⟨_, _, rfl, ho, hb⟩)
      clear ho hb
      go_wp2
      exact Hf.out
end
section
open Go.RowKit Go.Shelf Go.Lib Go.Sort

def delRen : Ren := ⟨fun _ => 55, fun k => if k = 0 then 0 else if k = 3 then 3 else if k = 4 then 4 else 26, fun k => k⟩
theorem delLays : Lays2.n23 Try.prog delRen := {
  mixed := by kernel_rfl
  f23 := by kernel_rfl
  t0 := by kernel_rfl
  a0 := fun _ => by kernel_rfl
  z0 := fun _ => by kernel_rfl
  v0 := fun _ => by kernel_rfl
  t3 := by kernel_rfl
  a3 := fun _ => by kernel_rfl
  z3 := fun _ => by kernel_rfl
  v3 := fun _ => by kernel_rfl
  t4 := by kernel_rfl
  a4 := fun _ => by kernel_rfl
  z4 := fun _ => by kernel_rfl
  v4 := fun _ => by kernel_rfl
  t22 := by kernel_rfl
  a22 := fun _ => by kernel_rfl
  z22 := fun _ => by kernel_rfl
  v22 := fun _ => by kernel_rfl
  i3 := by kernel_rfl }
theorem flat_get1 (l : List Int) (j : Nat) : (l.flatMap intE)[j]? = (l[j]?).map (Value.int .i64) := by rw [flat_int, List.getElem?_map]
theorem putRow_own {W : World} {base g n c q : Nat} {l d : List Int} (ho : W.ownsRow base 3 1 (.slice (some ⟨g, 0, none⟩) n c) n (l.flatMap intE)) (hd : d.length = n) {k : Nat} (hk : k ≤ n) :
    (putRow (Value.int .i64) (Sort.ahead W q) g 0 d.toArray).ownsRow base 3 1 (.slice (some ⟨g, 0, none⟩) k c) k ((d.take k).flatMap intE) ∧ W.grownBy (putRow (Value.int .i64) (Sort.ahead W q) g 0 d.toArray) (some g) := by
  rcases ho.2 with ⟨h', _⟩ | ⟨g', cap', cur, h', hb, hg, hnc, hcm, hcs, htake⟩
  · simp at h'
  · simp only [Value.slice.injEq, Option.some.injEq, Addr.mk.injEq, and_true, true_and] at h'
    obtain ⟨rfl, rfl⟩ := h'
    have hH : (putRow (Value.int .i64) (Sort.ahead W q) g 0 d.toArray).heap[g]? = some (.cells (putCells (Value.int .i64) 0 d.toArray cur) 3 (0, 0)) := by
      simp [putRow, mapBlock, Array.getElem?_modify, onCells]
      exact ⟨_, hg, rfl⟩
    refine ⟨⟨by rw [flat_length intE_len, List.length_take, hd]; omega, .inr ⟨g, c, _, rfl, hb, hH, by omega, hcm, by simp [putCells, hcs], ?_⟩⟩, ⟨rfl, rfl, rfl, by simp [putRow, mapBlock, Sort.ahead], fun j _ hj => ?_⟩⟩
    · apply List.ext_getElem?
      intro j
      rw [flat_get1, List.getElem?_take, List.getElem?_take, Nat.mul_one]
      by_cases hj : j < k
      · rw [if_pos hj, if_pos hj]
        have hjc : j < cur.size := by rw [hcs]; omega
        have hjd : j < d.length := by omega
        simp [putCells, hjc, hjd]
      · rw [if_neg hj, if_neg hj]; rfl
    · have hne : g ≠ j := fun e => hj (by rw [e])
      simp [putRow, mapBlock, Array.getElem?_modify, hne, Sort.ahead]
set_option maxHeartbeats 1000000 in
theorem del_any (g n c i base : Nat) (l : List Int) (W : World) (ho : W.ownsRow base 3 1 (.slice (some ⟨g, 0, none⟩) n c) n (l.flatMap intE)) (hn : n = l.length) (hi : i < n) :
    Calls Try.prog 55 #[.slice (some ⟨g, 0, none⟩) n c, .int .i64 (i : Int), .int .i64 ((i : Int) + 1)] W fun e W' => e = .returned (.slice (some ⟨g, 0, none⟩) (n - 1) c) ∧
      W'.ownsRow base 3 1 (.slice (some ⟨g, 0, none⟩) (n - 1) c) (n - 1) ((l.eraseIdx i).flatMap intE) ∧ W.grownBy W' (some g) := by
  subst hn
  obtain ⟨_, _, cur, _, hnc, hcm⟩ := row_heap ho
  have hH : Holds (Value.int .i64) W g 0 l.toArray := fun j hj => by
    have hj' : j < l.length := by simpa using hj
    rw [Nat.zero_add]
    refine ⟨?_, ho.frozenAt j⟩
    rw [ho.cellAt j (by omega), flat_get1, List.getElem?_eq_getElem hj']
    simp [hj']
  have h := Any.slices_Delete_int delLays g 0 c i (i + 1) l W hH hnc (by unfold maxLen at hcm; omega) (by omega) (by omega)
  refine h.mono ?_
  rintro e W' ⟨rfl, q, rfl⟩
  have hd : (l.take i ++ l.drop (i + 1) ++ List.replicate (i + 1 - i) 0).length = l.length := by simp; omega
  obtain ⟨h1, h2⟩ := putRow_own (q := q) ho hd (k := l.length - 1) (by omega)
  refine ⟨by rw [show i + 1 - i = 1 by omega], ?_, h2⟩
  have e1 : (l.take i ++ l.drop (i + 1) ++ List.replicate (i + 1 - i) 0).take (l.length - 1) = l.eraseIdx i := by
    rw [List.take_append_of_le_length (by simp; omega), List.take_of_length_le (by simp; omega), List.eraseIdx_eq_take_drop_succ]
  rw [e1] at h1
  exact h1
theorem del_any' (g n c i base : Nat) (l : List Int) (W : World) (ho : W.ownsRow base 3 1 (.slice (some ⟨g, 0, none⟩) (n + 1) c) (n + 1) (l.flatMap intE)) (hn : n + 1 = l.length) (hi : i < n + 1) :
    Calls Try.prog 55 #[.slice (some ⟨g, 0, none⟩) (n + 1) c, .int .i64 (i : Int), .int .i64 ((i : Int) + 1)] W fun e W' => e = .returned (.slice (some ⟨g, 0, none⟩) n c) ∧
      W'.ownsRow base 3 1 (.slice (some ⟨g, 0, none⟩) n c) n ((l.eraseIdx i).flatMap intE) ∧ W.grownBy W' (some g) := del_any g (n + 1) c i base l W ho hn hi
end
section
open Go.RowKit

def castL (S : List Nat) : List Int := S.map fun (i : Nat) => (i : Int)
theorem castL_len (S : List Nat) : (castL S).length = S.length := by simp [castL]
theorem idxL_mem {S : List Nat} {r : Nat} (h : r ∈ S) : ∃ j, idxL (r : Int) (castL S) 0 = ((j : Nat) : Int) ∧ S[j]? = some r := by
  rcases idxL_spec (r : Int) (castL S) 0 with ⟨_, h2⟩ | ⟨j, h1, h2⟩
  · exact absurd (List.mem_map.2 ⟨r, h, rfl⟩) h2
  · refine ⟨j, by rw [h1, Nat.zero_add], ?_⟩
    unfold castL at h2
    rw [List.getElem?_map] at h2
    cases hx : S[j]? with
    | none => rw [hx] at h2; simp at h2
    | some x => rw [hx] at h2; simp at h2; rw [show x = r by omega]
theorem erase_idx : ∀ {S : List Nat} {j r : Nat}, S.Nodup → S[j]? = some r → S.eraseIdx j = S.erase r
  | [], j, r, _, h => by simp at h
  | a :: l, 0, r, _, h => by simp at h; subst h; simp
  | a :: l, j + 1, r, hn, h => by
    have h' : l[j]? = some r := by simpa using h
    have hr : r ∈ l := List.mem_of_getElem? h'
    have hne : a ≠ r := fun e => (List.nodup_cons.1 hn).1 (e ▸ hr)
    rw [List.eraseIdx_cons_succ, List.erase_cons_tail (by simpa using hne), erase_idx (List.nodup_cons.1 hn).2 h']
theorem castL_eraseIdx (S : List Nat) (j : Nat) : (castL S).eraseIdx j = castL (S.eraseIdx j) := by
  apply List.ext_getElem?
  intro a
  simp only [castL, List.getElem?_eraseIdx, List.getElem?_map]
  split <;> rfl
/-- The graph in its block, and the table. -/
structure HG (w W : World) (gb g n c m : Nat) (A : Option Addr) (T : List (List Int)) : Prop where
  gbx : W.heap[gb]? = some (.cells #[.int .i64 (n : Int), .int .i64 (m : Int), .func (.func 65) #[] #[.pointer (some ⟨g, 0, none⟩)]] 83 (0, 0))
  bx : W.heap[g]? = some (.cells #[.slice A n c] 22 (0, 0))
  tb : SlR W A n T
  bel : Below w.heap.size w W
theorem HG.below {w W W1 : World} {gb g n c m : Nat} {A : Option Addr} {T : List (List Int)} (h : HG w W gb g n c m A T) (hb : Below W.heap.size W W1) : HG w W1 gb g n c m A T :=
  ⟨(hb.block gb (Array.getElem?_eq_some_iff.1 h.gbx).1).trans h.gbx, (hb.block g (Array.getElem?_eq_some_iff.1 h.bx).1).trans h.bx, h.tb.below hb, h.bel.trans (hb.mono h.bel.size)⟩
theorem below_grown_new {W0 W W1 : World} {g : Nat} (hb : Below W0.heap.size W0 W) (hg : W.grownBy W1 (some g)) (hl : W0.heap.size ≤ g) : Below W0.heap.size W0 W1 := hb.grown hg hb.size (fun k hk => by injection hk with hk; omega)
set_option maxRecDepth 100000 in
set_option maxHeartbeats 2000000 in
theorem hall_no (A : Option Addr) (n c : Nat) (T : List (List Int)) (w : World) (hT : SlR w A n T) (hn : n ≤ 9223372036854775807) (hrow : ∀ r ∈ T, r.length ≤ 9223372036854775807) (ht : tabB T = false) :
    Calls Try.prog 28 #[.slice A n c] w fun e w' => e = .returned (.tuple #[.slice none 0 0, .int .i64 1]) ∧ Below w.heap.size w w' := by
  refine calls_cps ?_
  intro R hR
  go_enter Try.func28, Try.ntmps28
  go_wp2_with (go_at_call 36; refine (check_any _ _ _ T _ hT hn hrow).mono ?_; rw [ht]; rintro e w1 ⟨rfl, rfl⟩)
  exact hR.out _ _ ⟨rfl, Below.refl _ _⟩
set_option maxRecDepth 100000 in
set_option maxHeartbeats 4000000 in
theorem hall_yes (A : Option Addr) (n c m : Nat) (T : List (List Int)) (w : World) (hT : SlR w A n T) (hok : TOk T m) :
    Calls Try.prog 28 #[.slice A n c] w fun e w' => (if kuhn (gT T) m (List.range n) = n then e = .returned (.tuple #[.slice none 0 0, .int .i64 6])
      else ∃ A' c', e = .returned (.tuple #[.slice A' (hallF (gT T) m (List.range n) (List.range n)).length c', .int .i64 0]) ∧ SlE intE 1 w' A' (hallF (gT T) m (List.range n) (List.range n)).length (castL (hallF (gT T) m (List.range n) (List.range n))) ∧
        (hallF (gT T) m (List.range n) (List.range n)).length ≤ c' ∧ c' ≤ 9223372036854775807) ∧ Below w.heap.size w w' := by
  refine calls_cps ?_
  intro R hR
  have hn64 : n ≤ 64 := by rw [hT.1]; exact Nat.le_trans hok.nm hok.m64
  have hrow : ∀ r ∈ T, r.length ≤ 9223372036854775807 := fun r hr => by rw [hok.rect r hr]; have := hok.m64; omega
  have ht : tabB T = true := tabB_iff.2 (by rw [hok.wid]; exact hok)
  have hn1 : 1 ≤ n := by rw [hT.1]; exact hok.n1
  have hm1 : 1 ≤ m := Nat.le_trans hok.n1 hok.nm
  have hm64 := hok.m64
  obtain ⟨K, hK⟩ : ∃ K, kuhn (gT T) m (List.range n) = K := ⟨_, rfl⟩
  obtain ⟨Hs, hHs⟩ : ∃ Hs, hallF (gT T) m (List.range n) (List.range n) = Hs := ⟨_, rfl⟩
  rw [hK, hHs] at hR
  have HK := Lib.hid hK
  have HHs := Lib.hid hHs
  have HT := Lib.hid hT
  have Hok := Lib.hid hok
  have Hrow := Lib.hid hrow
  have Ht := Lib.hid ht
  clear hK hT hok hrow ht hHs
  go_enter Try.func28, Try.ntmps28
  go_wp2_with fail
  refine (check_any _ _ _ T _ HT.out (by omega) Hrow.out).mono ?_
  rw [if_pos Ht.out]
  rintro e w0 ⟨rfl, rfl⟩
  go_wp2_with fail
  refine (allowed_any _ _ _ m T _ HT.out Hok.out).mono ?_
  rintro e w1 ⟨g, rfl, hbx, hg, hb1⟩
  have hG : HG w (w1.alloc (.cells #[.int .i64 (n : Int), .int .i64 (m : Int), .func (.func 65) #[] #[.pointer (some ⟨g, 0, none⟩)]] 83)) w1.heap.size g n c m A T :=
    ⟨heap_alloc_new w1 _, ((below_new w1 _).block g (Array.getElem?_eq_some_iff.1 hbx).1).trans hbx, (HT.out.below hb1).below (below_new w1 _), hb1.alloc hb1.size _⟩
  have HG0 := Lib.hid hG
  clear hbx hb1 hG hg
  go_wp2_with fail
  refine (numbers_any n (by omega) _).mono ?_
  rintro e w2 ⟨g2, rfl, hg2, hblk, hb2⟩
  have hG := HG0.out.below hb2
  obtain ⟨q0, q1, q2, q3⟩ := cells3' hG.gbx
  have HG2 := Lib.hid hG
  have HN := Lib.hid (slE_of_block (n := n) hblk (by simp))
  obtain ⟨gb, hgb⟩ : ∃ gb, w1.heap.size = gb := ⟨_, rfl⟩
  rw [hgb] at HG2 q0 q1 q2 q3
  have Hgb := Lib.hid hgb
  clear hb2 hG hg2 hblk hgb
  go_wp2_with (rw [Hgb.out])
  refine (matched_any n m n _ _ (gT T) Enters65 w2 (allowed_may w2 g n c m _ T HG2.out.tb Hok.out HG2.out.bx) hm1 (by omega) (by omega) _ _ n (List.range n) (by omega) (range_lt n) HN.out).mono ?_
  rw [HK.out]
  rintro e w3 ⟨bp, rfl, hb3⟩
  have HG3 := Lib.hid (HG2.out.below hb3)
  have HN3 := Lib.hid (HN.out.below hb3)
  clear hb3 q0 q1 q2 q3
  by_cases hKn : K = n
  · have g0 : ((K : Int) == n) = true := by simp [hKn]
    have Hf := Lib.hid (hR.out (.returned (.tuple #[.slice none 0 0, .int .i64 6])) w3 (by rw [if_pos hKn]; exact ⟨rfl, HG3.out.bel⟩))
    clear hKn
    go_wp2
    exact Hf.out
  have g0 : ((K : Int) == n) = false := by simp; omega
  have Hfin := Lib.hid (show ∀ (A' : Option Addr) (c' : Nat) (W' : World), SlE intE 1 W' A' Hs.length (castL Hs) → Hs.length ≤ c' → c' ≤ 9223372036854775807 → Below w.heap.size w W' → R (.returned (.tuple #[.slice A' Hs.length c', .int .i64 0])) W' from
    fun A' c' W' h1 h2 h3 h4 => hR.out _ _ (by rw [if_neg hKn]; exact ⟨⟨A', c', rfl, h1, h2, h3⟩, h4⟩))
  have Hlt := Lib.hid (show kuhn (gT T) m (List.range n) < (List.range n).length by
    have := kuhn_le (gT T) m (List.range n) (nodup_range n)
    rw [HK.out] at this ⊢
    rw [List.length_range] at this ⊢
    omega)
  clear hKn hR
  go_wp2_with fail
  refine (numbers_any n (by omega) _).mono ?_
  rintro e w4 ⟨g4, rfl, hg4, hblk, hb4⟩
  have HG4 := Lib.hid (HG3.out.below hb4)
  have HN4 := Lib.hid (HN3.out.below hb4)
  have HM4 := Lib.hid (slE_of_block (n := n) hblk (by simp))
  clear hb4 hg4 hblk
  go_wp2_with fail
  go_loopg [6, 10, 39] n (fun gk s6 s10 s39 wr => ∃ (k L ga ca : Nat) (S : List Nat), k + gk = n ∧ s39 = .int .i64 ((k : Nat) : Int) ∧ s6 = .slice (some ⟨ga, 0, none⟩) L ca ∧ L ≤ n ∧ L ≤ ca ∧ ca ≤ 9223372036854775807 ∧ HG w wr gb g n c m A T ∧ SlE intE 1 wr (some ⟨g4, 0, none⟩) n (numL n) ∧
    SlE intE 1 wr (some ⟨ga, 0, none⟩) L (castL S) ∧ Hid (S.Nodup ∧ (∀ r ∈ S, r < n) ∧ (∀ r ∈ (List.range n).drop k, r ∈ S) ∧ hallF (gT T) m (List.range n) (List.range n) = hallF (gT T) m ((List.range n).drop k) S))
  case atStart => exact ⟨0, n, g2, n, List.range n, by omega, rfl, rfl, Nat.le_refl _, Nat.le_refl _, by omega, HG4.out, HM4.out, HN4.out, Lib.hid ⟨nodup_range n, range_lt n, fun r hr => hr, rfl⟩⟩
  case round =>
    obtain ⟨k, L, ga, ca, S, hgk, rfl, rfl, hLn, hLc, hc63, hG, hM, hN, HS⟩ := hrel
    obtain ⟨wi, rfl⟩ : ∃ wi : World, wi = wr := ⟨_, rfl⟩
    by_cases hlt : k < n
    · obtain ⟨b, o, x, e, hbl, hxk, hcell⟩ := hM.at1 hlt
      simp only [Option.some.injEq, Addr.mk.injEq, and_true] at e
      obtain ⟨rfl, rfl⟩ := e
      obtain rfl : x = (k : Int) := by
        unfold numL at hxk
        rw [List.getElem?_map, List.getElem?_range hlt] at hxk
        simpa using hxk.symm
      rw [Nat.zero_add] at hcell
      have hkS : k ∈ S := HS.out.2.2.1 k (by rw [drop_range_cons hlt]; simp)
      obtain ⟨j, hj, hjS⟩ := idxL_mem hkS
      have hLS : L = S.length := by rw [hN.1, castL_len]
      have hjL : j < L := by rw [hLS]; exact (List.getElem?_eq_some_iff.1 hjS).1
      have i1 : (k : Int) < (n : Int) := by omega
      have z1 : IntKind.i64.wrap ((j : Int) + 1) = (j : Int) + 1 := IntWalk.i64_in _ (by omega)
      obtain ⟨L1, rfl⟩ : ∃ L1, L = L1 + 1 := ⟨L - 1, by omega⟩
      have hS' : (castL S).eraseIdx j = castL (S.erase k) := by rw [castL_eraseIdx, erase_idx HS.out.1 hjS]
      have hSl : L1 = (S.erase k).length := by rw [List.length_erase_of_mem hkS]; omega
      have hSn : (S.erase k).Nodup := erase_nodup HS.out.1 k
      have hSm : ∀ r ∈ S.erase k, r < n := fun r hr => HS.out.2.1 r ((mem_erase HS.out.1).1 hr).2
      have hSd : ∀ r ∈ (List.range n).drop (k + 1), r ∈ S.erase k := fun r hr => (mem_erase HS.out.1).2 ⟨by have := (mem_drop_range.1 hr).1; omega, HS.out.2.2.1 r (by rw [drop_range_cons hlt]; simp [hr])⟩
      have hSd2 : ∀ r ∈ (List.range n).drop (k + 1), r ∈ S := fun r hr => HS.out.2.2.1 r (by rw [drop_range_cons hlt]; simp [hr])
      obtain ⟨K', hK'⟩ : ∃ K', kuhn (gT T) m (S.erase k) = K' := ⟨_, rfl⟩
      have hst : hallF (gT T) m (List.range n) (List.range n) = if K' < L1 then hallF (gT T) m ((List.range n).drop (k + 1)) (S.erase k) else hallF (gT T) m ((List.range n).drop (k + 1)) S := by
        rw [HS.out.2.2.2, drop_range_cons hlt, hallF, hK', ← hSl]
      have Hj := Lib.hid hj
      have HX := Lib.hid (And.intro hSn (And.intro hSm (And.intro hSd hSd2)))
      have HS' := Lib.hid hS'
      have HSl := Lib.hid hSl
      have HK' := Lib.hid hK'
      have Hst := Lib.hid hst
      have HG5 := Lib.hid hG
      have HM5 := Lib.hid hM
      have HN5 := Lib.hid hN
      have HLS := Lib.hid hLS
      clear hj hkS hjS hS' hSl hSn hSm hSd hSd2 hK' hst hG hM hN hLS hxk
      go_wp2_with fail
      refine (index_any _ _ _ (castL S) _ _ HN5.out (by omega)).mono ?_
      rw [Hj.out]
      rintro e w5 ⟨rfl, rfl⟩
      go_wp2_with fail
      refine (clone_any _ _ _ (castL S) _ HN5.out (by omega)).mono ?_
      rintro e w5 ⟨A5, c5, rfl, ho5, hb5⟩
      obtain ⟨g5, c6, hv5, hg5, hgl5⟩ := ho5.form (by omega)
      simp only [Value.slice.injEq, true_and] at hv5
      obtain ⟨rfl, rfl⟩ := hv5
      have HG6 := Lib.hid (HG5.out.below hb5)
      have Ho5 := Lib.hid ho5
      have Hb5 := Lib.hid hb5
      clear ho5 hb5
      go_wp2_with fail
      refine (del_any' g5 L1 _ j _ (castL S) _ Ho5.out (by rw [HLS.out, castL_len]) hjL).mono ?_
      rw [HS'.out]
      rintro e w6 ⟨rfl, ho6, hg6⟩
      have hb6 : Below wi.heap.size wi w6 := below_grown_new Hb5.out hg6 hg5
      have HG7 := Lib.hid (HG5.out.below hb6)
      have HM7 := Lib.hid (HM5.out.below hb6)
      have HN7 := Lib.hid (HN5.out.below hb6)
      have HE7 := Lib.hid (SlE.of_own ho6 (by rw [castL_len]; exact HSl.out))
      obtain ⟨q0, q1, q2, q3⟩ := cells3' HG7.out.gbx
      clear ho6 hg6 hb6
      go_wp2_with fail
      refine (matched_any n m n _ _ (gT T) Enters65 w6 (allowed_may w6 g n c m _ T HG7.out.tb Hok.out HG7.out.bx) hm1 (by omega) (by omega) _ _ L1 (S.erase k) (by omega) HX.out.2.1 HE7.out).mono ?_
      rw [HK'.out]
      rintro e w7 ⟨bp7, rfl, hb7⟩
      have hG8 := HG7.out.below hb7
      have hM8 := HM7.out.below hb7
      have hN8 := HN7.out.below hb7
      have hE8 := HE7.out.below hb7
      have hst := Hst.out
      obtain ⟨_, _, _, _, hc1, hc2⟩ := row_heap Ho5.out
      have hc3 : c5 ≤ 9223372036854775807 := by unfold maxLen at hc2; omega
      clear hb7 q0 q1 q2 q3 hc2
      by_cases hlk : K' < L1
      · rw [if_pos hlk] at hst
        have HR := Lib.hid (show (S.erase k).Nodup ∧ (∀ r ∈ S.erase k, r < n) ∧ (∀ r ∈ (List.range n).drop (k + 1), r ∈ S.erase k) ∧ hallF (gT T) m (List.range n) (List.range n) = hallF (gT T) m ((List.range n).drop (k + 1)) (S.erase k) from ⟨HX.out.1, HX.out.2.1, HX.out.2.2.1, hst⟩)
        clear hst
        go_wp2_with fail
        go_roundg (gk - 1)
        case measure => omega
        case rel => exact ⟨k + 1, L1, g5, c5, S.erase k, by omega, by go_num, rfl, by omega, by omega, hc3, hG8, hM8, hE8, HR⟩
      · rw [if_neg hlk] at hst
        have HR := Lib.hid (show S.Nodup ∧ (∀ r ∈ S, r < n) ∧ (∀ r ∈ (List.range n).drop (k + 1), r ∈ S) ∧ hallF (gT T) m (List.range n) (List.range n) = hallF (gT T) m ((List.range n).drop (k + 1)) S from ⟨HS.out.1, HS.out.2.1, HX.out.2.2.2, hst⟩)
        clear hst
        go_wp2_with fail
        go_roundg (gk - 1)
        case measure => omega
        case rel => exact ⟨k + 1, L1 + 1, ga, ca, S, by omega, by go_num, rfl, hLn, hLc, hc63, hG8, hM8, hN8, HR⟩
    · obtain rfl : n = k := by omega
      have hst := HS.out.2.2.2
      rw [List.drop_of_length_le (by simp), hallF, HHs.out] at hst
      subst hst
      have hL := hN.1
      rw [castL_len] at hL
      subst hL
      have Hf := Lib.hid (Hfin.out _ ca wi hN hLc hc63 hG.bel)
      clear hG hM hN
      go_wp2
      exact Hf.out
end
end Go.Proofs.Ytjdhcdoekfikpaa
