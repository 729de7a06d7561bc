/-
  The contract of match's matched: it counts the rows as the plain search does; conditions: which columns a row may have is told by a function that only reads; the rows are below n.
-/
import Derived.Test.YtjdhcdoekfikpaaMClone
import Derived.Deep.RegionHeld3
import Derived.Outline
namespace Go.Proofs.Ytjdhcdoekfikpaa
open Go.RowKit

/-- make with a variable size, of elements of one cell. -/
theorem wpList_mkZ {P : Program} {w : World} {ops : Array Oper} {rest : List Oper} {o : Oper} {a : Act} {Q : Exit → Act → World → Prop}
    (hg : o.guard = none) (l c : Operand) (t : TypeId) (hop : o.op = Op.makeSlice t l c) (e : TypeId) {z : Value} {bytes : Nat}
    (ht : P.underlying t = some (.slice e)) (hi : (P.info? e).map (fun i => (i.zero, i.size, i.bytes)) = some (some z, 1, bytes)) (hz : z.cells = #[z]) (hby : bytes ≤ 100)
    (L : Int) (n : Nat) (hl : a.eval l = .int .i64 L) (hc : a.eval c = .int .i64 L) (hL : L = (n : Int)) (b2 : n ≤ 1000000000)
    (hK : ∀ w', w'.heap[w.heap.size]? = some (.cells (List.replicate n z).toArray e (0, 0)) → w.grownBy w' none → wpList P ops Q rest (a.put o.dst (.slice (some ⟨w.heap.size, 0, none⟩) n n)) w') :
    wpList P ops Q (o :: rest) a w := by
  obtain ⟨i0, hi0, z0, z1, z2⟩ := info_parts hi
  refine wpList_make_full w hg l c t hop w.heap.size e i0 _ 1 ht hi0 z0 z1 .i64 .i64 L L n hl hc hL hL (by rw [z2]; exact Nat.le_trans (Nat.mul_le_mul hby b2) (by omega)) (by unfold maxLen; omega) (Nat.le_refl _) fun w' ho hgr => hK w' ?_ hgr
  have h := own_full ho
  rw [h]
  congr 2
  simp only [Nat.mul_one]
  rw [hz, toList_madeCells_one]
theorem Kx.low' {S : Nat → Prop} {w A B : World} (hb : Below w.heap.size w A) (h : Kx S A B) (hs : ∀ j, S j → w.heap.size ≤ j) : Below w.heap.size w B := Kx.low hb h hs hb.size
theorem or_ge {b g1 g2 : Nat} (h1 : b ≤ g1) (h2 : b ≤ g2) : ∀ j, (j = g1 ∨ j = g2) → b ≤ j := by rintro j (rfl | rfl) <;> assumption
theorem infoBool : (Try.prog.info? 4).map (fun i => (i.zero, i.size, i.bytes)) = some (some (.bool false), 1, 1) := by kernel_rfl
/-- A block that is known whole is an owned row. -/
theorem own_of_block {w : World} {base g n : Nat} {e : TypeId} {xs : List Value} (h : w.heap[g]? = some (.cells xs.toArray e (0, 0))) (hn : xs.length = n) (hb : base ≤ g) (hm : n ≤ maxLen) : w.ownsRow base e 1 (.slice (some ⟨g, 0, none⟩) n n) n xs :=
  ⟨by omega, .inr ⟨g, n, xs.toArray, rfl, hb, h, Nat.le_refl _, hm, by simp [hn], by rw [List.take_of_length_le]; simp [hn]⟩⟩
theorem grownBy_setCellAt (W : World) (b k : Nat) (v : Value) : W.grownBy (W.setCell ⟨b, k, none⟩ v) (some b) :=
  ⟨rfl, rfl, rfl, by simp [World.setCell], fun j _ hn => Below.heap_setCell W ⟨b, k, none⟩ v j (fun e => hn (by rw [e]))⟩

theorem MayOk.at {w0 W : World} {B n m : Nat} {F : FuncId} {caps : Array Value} {g : Nat → Nat → Bool} (h : MayOk w0 B F caps n m g) (hb : Below B w0 W) (hB : B ≤ W.heap.size) : MayOk W W.heap.size F caps n m g :=
  fun W1 r k hb1 hr hk => h W1 r k (hb.trans (hb1.mono hB)) hr hk
/-- The block of pairs between two rows: the columns that were seen may be anything. -/
structure Ps (W : World) (B bp n m : Nat) (mayV : Value) (br cr : Nat) (of : List Int) : Prop where
  box : ∃ sv, W.heap[bp]? = some (.cells #[.int .i64 (n : Int), .int .i64 (m : Int), mayV, .slice (some ⟨br, 0, none⟩) m cr, sv] 101 (0, 0))
  row : W.ownsRow B 3 1 (.slice (some ⟨br, 0, none⟩) m cr) m (of.map (Value.int .i64))
  bpB : B ≤ bp
section
variable {W W' : World} {B bp n m : Nat} {mayV : Value} {br cr bs cs : Nat} {of : List Int} {seen : List Bool}
theorem Fs.ps (h : Fs W B bp n m mayV br cr bs cs of seen) : Ps W B bp n m mayV br cr of := ⟨⟨_, h.box⟩, h.row, h.bpB⟩
theorem Ps.ne (h : Ps W B bp n m mayV br cr of) : bp ≠ br := by
  obtain ⟨_, _, c1, h1, _⟩ := row_heap h.row
  obtain ⟨sv, h2⟩ := h.box
  exact fun e => by rw [e, h1] at h2; simp at h2
theorem Ps.lt (h : Ps W B bp n m mayV br cr of) : bp < W.heap.size := by
  obtain ⟨sv, h2⟩ := h.box
  exact (Array.getElem?_eq_some_iff.1 h2).1
theorem Ps.len (h : Ps W B bp n m mayV br cr of) : of.length = m := by have := h.row.1; simpa using this
theorem Ps.grown (h : Ps W B bp n m mayV br cr of) (hg : W.grownBy W' none) : Ps W' B bp n m mayV br cr of := by
  obtain ⟨sv, h2⟩ := h.box
  exact ⟨⟨sv, (hg.block bp h.lt (by simp)).trans h2⟩, h.row.kept hg (.inr (by simp [Value.ownBlock])), h.bpB⟩
theorem Ps.free (h : Ps W B bp n m mayV br cr of) : W.frozen? ⟨bp, 4, none⟩ = false := by
  obtain ⟨sv, h2⟩ := h.box
  simp [World.frozen?, h2]
theorem Ps.cell (h : Ps W B bp n m mayV br cr of) : ∃ sv, W.cell? ⟨bp, 4, none⟩ = some sv := by
  obtain ⟨sv, h2⟩ := h.box
  exact ⟨sv, by rw [cell_of_row _ _ 4 _ _ (0, 0) h2]; rfl⟩
/-- The search's state is laid anew: no column was seen. -/
theorem Ps.fs (h : Ps W B bp n m mayV br cr of) (hs : W.heap[bs]? = some (.cells (List.replicate m (Value.bool false)).toArray 4 (0, 0))) (hb : B ≤ bs) (hm : m ≤ 1000) (_hne : br ≠ bs) :
    Fs (W.setCell ⟨bp, 4, none⟩ (.slice (some ⟨bs, 0, none⟩) m m)) B bp n m mayV br cr bs m of (List.replicate m false) := by
  obtain ⟨sv, h2⟩ := h.box
  have hne2 : bp ≠ bs := fun e => by rw [e, hs] at h2; simp at h2
  have hg := grownBy_setCellAt W bp 4 (.slice (some ⟨bs, 0, none⟩) m m)
  refine ⟨?_, h.row.kept hg (.inr (by simp [Value.ownBlock]; exact fun e => h.ne e.symm)), (own_of_block (by rw [List.map_replicate]; exact hs) (by simp) hb (by unfold maxLen; omega)).kept hg (.inr (by simp [Value.ownBlock]; exact fun e => hne2 e.symm)), h.bpB⟩
  simp [World.setCell, Array.getElem?_modify, h2]
end
theorem rowsOk_start (n m : Nat) : RowsOk n (List.replicate m (-1)) := fun k => by
  rw [List.getD_eq_getElem?_getD, List.getElem?_replicate]
  split <;> (simp; try omega)
theorem valid_start (g : Nat → Nat → Bool) (m : Nat) : Valid g m (List.replicate m (-1)) := fun k hk h => by
  rw [List.getD_eq_getElem?_getD, List.getElem?_replicate, if_pos hk] at h
  simp at h
theorem rowsOk_step {n r : Nat} {of of' : List Int} (h : RowsOk n of) (hr : r < n) (hc : ∀ q, cn q of' = cn q of + if q = r then 1 else 0) : RowsOk n of' := by
  intro k
  rcases Int.lt_or_le (of'.getD k (-1)) 0 with h0 | h0
  · omega
  · obtain ⟨q, hq⟩ : ∃ q : Nat, of'.getD k (-1) = (q : Int) := ⟨(of'.getD k (-1)).toNat, by omega⟩
    have hk : k < of'.length := by
      by_cases hk : k < of'.length
      · exact hk
      · rw [List.getD_eq_getElem?_getD, List.getElem?_eq_none (by omega)] at hq
        simp at hq
        try omega
    have h1 : 0 < cn q of' := cn_pos.2 ⟨k, hk, hq⟩
    rw [hc q] at h1
    by_cases e : q = r
    · omega
    · rw [if_neg e] at h1
      obtain ⟨j, _, hj⟩ := cn_pos.1 h1
      have := h j
      omega
theorem kuhnF_cons (g : Nat → Nat → Bool) (m r : Nat) (rs : List Nat) (of : List Int) (n : Nat) (u : Sta) (hu : findF g m (m + 1) r of (List.replicate m false) = u) : kuhnF g m (r :: rs) of n = if u.2.2 = true then kuhnF g m rs u.1 (n + 1) else kuhnF g m rs of n := by
  rw [kuhnF, hu]
theorem slE_newAt {w : World} {b : Nat} (x : Int) (hb : b = w.heap.size) : SlE intE 1 (w.alloc (.cells #[.int .i64 x] 3)) (some ⟨b, 0, none⟩) 1 [x] := by
  subst hb
  refine ⟨rfl, ?_⟩
  have := Sl.new w #[.int .i64 x] 3 1 1 rfl
  simpa [intE] using this
theorem rep1_map (x : Int) (m : Nat) : rep1 x m m = (List.replicate m x).map (Value.int .i64) := by simp [rep1]
theorem gb_keep {W w1 : World} {a b c : Value} {t : TypeId} {o : Obj} (hb : Below ((W.alloc (.cells #[a, b, c] t)).alloc o).heap.size ((W.alloc (.cells #[a, b, c] t)).alloc o).drew w1) :
    w1.cell? ⟨W.heap.size, 0, none⟩ = some a ∧ w1.cell? ⟨W.heap.size, 1, none⟩ = some b ∧ w1.cell? ⟨W.heap.size, 2, none⟩ = some c ∧ w1.heap[W.heap.size]? = some (.cells #[a, b, c] t (0, 0)) ∧ Below W.heap.size W w1 := by
  have h0 : ((W.alloc (.cells #[a, b, c] t)).alloc o).heap[W.heap.size]? = some (.cells #[a, b, c] t (0, 0)) :=
    ((below_new (W.alloc (.cells #[a, b, c] t)) o).block _ (by simp)).trans (heap_alloc_new W _)
  have h1 : w1.heap[W.heap.size]? = some (.cells #[a, b, c] t (0, 0)) := (hb.block _ (by simp; omega)).trans h0
  obtain ⟨q0, q1, q2, _⟩ := cells3 h1
  refine ⟨q0, q1, q2, h1, ?_⟩
  have h2 : Below W.heap.size W ((W.alloc (.cells #[a, b, c] t)).alloc o).drew := ((below_new W _).trans ((below_new (W.alloc (.cells #[a, b, c] t)) o).mono (by simp))).drew
  exact h2.trans (hb.mono (by simp; omega))
theorem cells3' {W : World} {b : Nat} {t : TypeId} {u0 u1 u2 : Value} (h : W.heap[b]? = some (.cells #[u0, u1, u2] t (0, 0))) :
    W.cell? ⟨b, 0, none⟩ = some u0 ∧ W.cell? ⟨b, 1, none⟩ = some u1 ∧ W.cell? ⟨b, 2, none⟩ = some u2 ∧ (∀ j, W.frozen? ⟨b, j, none⟩ = false) := cells3 h
set_option maxRecDepth 100000 in
set_option maxHeartbeats 2000000 in
theorem matched_any (n m n' : Nat) (F : FuncId) (caps : Array Value) (g : Nat → Nat → Bool) (hent : Enters Try.prog F) (W : World) (hmay : MayOk W W.heap.size F caps n m g) (hm1 : 1 ≤ m) (hm : m ≤ 1000) (hn : n ≤ 1000)
    (A : Option Addr) (c L : Nat) (rows : List Nat) (hL : L ≤ 1000) (hrows : ∀ r ∈ rows, r < n) (hA : SlE intE 1 W A L (rows.map fun (r : Nat) => (r : Int))) :
    Calls Try.prog 53 #[.agg #[.int .i64 (n' : Int), .int .i64 (m : Int), .func (.func F) #[] caps], .slice A L c] W fun e W' => ∃ bp, e = .returned (.tuple #[.pointer (some ⟨bp, 0, none⟩), .int .i64 (kuhn g m rows : Int)]) ∧ Below W.heap.size W W' := by
  refine calls_cps ?_
  intro R hR
  have Hrows := Lib.hid hrows
  have Hlen := Lib.hid (show L = rows.length by rw [hA.1, List.length_map])
  have Hmay := Lib.hid hmay
  clear hrows hmay
  go_enter Try.func53, Try.ntmps53
  go_wp2_with fail
  obtain ⟨q0, q1, q2, q3⟩ := cells3' (heap_alloc_new W (.cells #[.int .i64 (n' : Int), .int .i64 (m : Int), .func (.func F) #[] caps] 83))
  have hb0 : Below W.heap.size W (W.alloc (.cells #[.int .i64 (n' : Int), .int .i64 (m : Int), .func (.func F) #[] caps] 83)) := below_new W _
  have hx0 := heap_alloc_new W (.cells #[.int .i64 (n' : Int), .int .i64 (m : Int), .func (.func F) #[] caps] 83)
  go_region_held3 (fun w' => w'.cell? ⟨W.heap.size, 0, none⟩ = some (.int .i64 (n' : Int)) ∧ w'.cell? ⟨W.heap.size, 1, none⟩ = some (.int .i64 (m : Int)) ∧ w'.cell? ⟨W.heap.size, 2, none⟩ = some (.func (.func F) #[] caps))
    (first | go_keep | exact ⟨(gb_keep hb1).1, (gb_keep hb1).2.1, (gb_keep hb1).2.2.1⟩)
    (first | (go_at_call 66; refine (repeat_any _ _ _ m hm1 hm _ (by exact slE_newAt _ (World.size_alloc _ _).symm)).mono ?_; rintro e w1 ⟨g0, rfl, hg0, hblk, hb1⟩))
  obtain ⟨q0, q1, q2, hx1, hb2⟩ := gb_keep hb1
  have hw1 : W.heap.size < w1.heap.size := (Array.getElem?_eq_some_iff.1 hx1).1
  have hg1 : W.heap.size < g0 := by have := hg0; simp at this; omega
  have hP : Ps (w1.alloc (.cells #[.int .i64 (n' : Int), .int .i64 (m : Int), .func (.func F) #[] caps, .slice (some ⟨g0, 0, none⟩) m m, .slice none 0 0] 101)) W.heap.size w1.heap.size n' m (.func (.func F) #[] caps) g0 m (List.replicate m (-1)) :=
    ⟨⟨_, heap_alloc_new w1 _⟩, (own_of_block (by rw [← rep1_map]; exact hblk) (by simp) (by omega) (by unfold maxLen; omega)).kept (World.grownBy_alloc w1 _ none) (.inr (by simp [Value.ownBlock])), by omega⟩
  have hxa := ((below_new w1 (.cells #[.int .i64 (n' : Int), .int .i64 (m : Int), .func (.func F) #[] caps, .slice (some ⟨g0, 0, none⟩) m m, .slice none 0 0] 101)).block _ hw1).trans hx1
  have hb3 := hb2.trans ((below_new w1 (.cells #[.int .i64 (n' : Int), .int .i64 (m : Int), .func (.func F) #[] caps, .slice (some ⟨g0, 0, none⟩) m m, .slice none 0 0] 101)).mono (Nat.le_of_lt hw1))
  clear hb1 hg0 hblk hb0 hx0
  obtain ⟨bp, hbp⟩ : ∃ bp, w1.heap.size = bp := ⟨_, rfl⟩
  rw [hbp] at hP
  have hWbp : W.heap.size < bp := by omega
  have Hbp := Lib.hid hbp
  have Hxa := Lib.hid hxa
  have HP := Lib.hid hP
  have Hb3 := Lib.hid hb3
  have HA := Lib.hid hA
  have hm64 : m ≤ 9223372036854775807 := by omega
  clear hbp hxa hP hb3 q0 q1 q2 q3 hx1 hb2 hA
  go_wp2_with fail
  rw [Hbp.out]
  go_loopg [7, 10, 22] L (fun gk s7 s10 s22 wr => ∃ (k n0 : Nat) (of : List Int), k + gk = L ∧ n0 ≤ k ∧ s7 = .int .i64 ((n0 : Nat) : Int) ∧ s22 = .int .i64 ((k : Nat) : Int) ∧ wr.heap[W.heap.size]? = some (.cells #[.int .i64 (n' : Int), .int .i64 (m : Int), .func (.func F) #[] caps] 83 (0, 0)) ∧
    Ps wr W.heap.size bp n' m (.func (.func F) #[] caps) g0 m of ∧ Below W.heap.size W wr ∧ Hid (Valid g m of ∧ RowsOk n of ∧ kuhn g m rows = (kuhnF g m (rows.drop k) of n0).2))
  case atStart => exact ⟨0, 0, _, by omega, Nat.le_refl _, rfl, rfl, Hxa.out, HP.out, Hb3.out, Lib.hid ⟨valid_start g m, rowsOk_start n m, rfl⟩⟩
  case round =>
    obtain ⟨k, n0, of, hgk, hn0, rfl, rfl, hx, hP, hb, Hv⟩ := hrel
    obtain ⟨wi, rfl⟩ : ∃ wi : World, wi = wr := ⟨_, rfl⟩
    by_cases hlt : k < L
    · obtain ⟨b, o, x, rfl, hbl, hxk, hcell⟩ := (HA.out.below hb).at1 hlt
      have hkr : k < rows.length := by rw [← Hlen.out]; exact hlt
      obtain ⟨r, hr⟩ : ∃ r, rows[k] = r := ⟨_, rfl⟩
      obtain rfl : x = (r : Int) := by
        rw [List.getElem?_map, List.getElem?_eq_getElem hkr] at hxk
        simp at hxk
        rw [← hxk, hr]
      have hrn : r < n := Hrows.out r (by rw [← hr]; exact List.getElem_mem hkr)
      have Hdrop := Lib.hid (show rows.drop k = r :: rows.drop (k + 1) by rw [List.drop_eq_getElem_cons hkr, hr])
      obtain ⟨q0, q1, q2, q3⟩ := cells3' hx
      have i1 : (k : Int) < (L : Int) := by omega
      have i2 : (0 : Int) ≤ (m : Int) := by omega
      have Hx := Lib.hid hx
      have HP := Lib.hid hP
      have Hb := Lib.hid hb
      have hsz := hb.size
      have hWi : W.heap.size < wi.heap.size := (Array.getElem?_eq_some_iff.1 hx).1
      have hpl := hP.lt
      have hgl : g0 < wi.heap.size := (row_heap hP.row).2.1
      have HPl := Lib.hid hpl
      have Hgl := Lib.hid hgl
      clear hx hP hb hr hkr hxk hpl hgl
      go_wp2_with (at_make; refine wpList_mkZ rfl (.tmp 28) (.tmp 28) _ rfl 4 Try.underlying91 infoBool rfl (by omega) m m rfl rfl rfl (by omega) ?_; intro w2 hw2 hg2; have hP2 := HP.out.grown hg2; have hF2 := hP2.fs hw2 hsz hm (by have := Hgl.out; omega); have hfree := hP2.free; obtain ⟨sv, hsv⟩ := hP2.cell; have hb4 := Hb.out.grown hg2 hsz (fun k hk => by cases hk); have hb5 := hb4.setCell (p := ⟨bp, 4, none⟩) hP2.bpB (.slice (some ⟨wi.heap.size, 0, none⟩) m m); have HF2 := Lib.hid hF2; have HB5 := Lib.hid hb5; have Hx2 := Lib.hid ((Below.heap_setCell w2 ⟨bp, 4, none⟩ (.slice (some ⟨wi.heap.size, 0, none⟩) m m) W.heap.size (Nat.ne_of_lt hWbp)).trans ((hg2.block _ (Array.getElem?_eq_some_iff.1 Hx.out).1 (by simp)).trans Hx.out)); clear hw2 hg2 hP2 hF2 hb4 hb5)
      obtain ⟨u, hu⟩ : ∃ u, findF g m (m + 1) r of (List.replicate m false) = u := ⟨_, rfl⟩
      have hol : of.length = m := HP.out.len
      have hpost := find_post g m of hol Hv.out.1 (m + 1) r (List.replicate m false) (by simp) (by rw [unseen_fresh]; omega)
      have hcons := kuhnF_cons g m r (rows.drop (k + 1)) of n0 u hu
      rw [hu] at hpost
      rw [← Hdrop.out] at hcons
      have HU := Lib.hid hu
      have HPo := Lib.hid hpost
      have HCo := Lib.hid hcons
      clear hu hpost hcons hol
      refine (find_any W W.heap.size bp n m n' F caps g g0 m wi.heap.size m hent Hmay.out hm hn (Nat.le_of_lt hg1) hsz m r of (List.replicate m false) _ (by rw [unseen_fresh]; omega) hrn HF2.out HB5.out HB5.out.size Hv.out.1 Hv.out.2.1).mono ?_
      rw [HU.out]
      rintro e w4 ⟨rfl, hF4, hK4⟩
      have hb6 := Kx.low HB5.out hK4 (by rintro j (rfl | rfl) <;> omega) HB5.out.size
      have hx4 := (hK4.block _ (Array.getElem?_eq_some_iff.1 Hx2.out).1 (by omega)).trans Hx2.out
      have hP4 := hF4.ps
      clear hF4 hK4
      cases hok : u.2.2 with
      | true =>
        obtain ⟨hv1, hv2, _⟩ := HPo.out.yes hok
        have hro := rowsOk_step Hv.out.2.1 hrn hv2
        have hk := HCo.out
        rw [if_pos hok] at hk
        have HV2 := Lib.hid (show Valid g m u.1 ∧ RowsOk n u.1 ∧ kuhn g m rows = (kuhnF g m (rows.drop (k + 1)) u.1 (n0 + 1)).2 from ⟨hv1, hro, by rw [Hv.out.2.2, hk]⟩)
        clear hv1 hv2 hro hk hok
        go_wp2_with fail
        go_roundg (gk - 1)
        case measure => omega
        case rel => exact ⟨k + 1, n0 + 1, u.1, by omega, by omega, by go_num, by go_num, hx4, hP4, hb6, HV2⟩
      | false =>
        have h1 := (HPo.out.no hok).1
        rw [h1] at hP4
        have hk := HCo.out
        rw [if_neg (by rw [hok]; simp)] at hk
        have HV2 := Lib.hid (show Valid g m of ∧ RowsOk n of ∧ kuhn g m rows = (kuhnF g m (rows.drop (k + 1)) of n0).2 from ⟨Hv.out.1, Hv.out.2.1, by rw [Hv.out.2.2, hk]⟩)
        clear h1 hk hok
        go_wp2_with fail
        go_roundg (gk - 1)
        case measure => omega
        case rel => exact ⟨k + 1, n0, of, by omega, by omega, rfl, by go_num, hx4, hP4, hb6, HV2⟩
    · obtain rfl : L = k := by omega
      have hk := Hv.out.2.2
      rw [List.drop_of_length_le (by rw [← Hlen.out]; exact Nat.le_refl _)] at hk
      have Hfin := Lib.hid (hR.out (.returned (.tuple #[.pointer (some ⟨bp, 0, none⟩), .int .i64 (n0 : Int)])) wi ⟨bp, by rw [hk]; rfl, hb⟩)
      clear hx hP hb hk
      go_wp2
      exact Hfin.out
end Go.Proofs.Ytjdhcdoekfikpaa
