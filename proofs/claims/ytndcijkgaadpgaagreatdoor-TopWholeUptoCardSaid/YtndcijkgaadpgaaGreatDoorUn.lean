/-
  A house as its cells; New, Lots; no condition but that the cells hold a house. The printed book; conditions: the cells hold a house whose entries are entries, the tables lie below a block. (*House).Book; conditions: the cells hold a house whose entries are entries, the tables lie below a block.
-/
import Derived.Test.YtndcijkgaadpgaaGreatDoorUl
import Derived.Test.YtndcijkgaadpgaaGreatDoorUm
namespace Go.Proofs.YtndcijkgaadpgaaGreatDoor
section
section
open Go.RowKit Go.Shelf
/-- A house: its disk and book, its shapes; the other fields hold whatever. -/
structure Hs (W : World) (F : Nat → Prop) (h a dk : Nat) (d : Dk) (b : Bk) (sh : List Shp) : Prop where
  bd : Bd W F a dk d b
  own : F h
  cells : ∃ C : Array Value, W.heap[h]? = some (.cells C 56 (0, 0)) ∧ C[0]? = some (.bool true) ∧ C[13]? = some (.pointer (some ⟨dk, 0, none⟩)) ∧ C[14]? = some (.pointer (some ⟨a, 0, none⟩)) ∧
    ∃ A c, C[12]? = some (.slice A sh.length c) ∧ W.ownsRow 0 103 4 (.slice A sh.length c) sh.length (sh.flatMap Shp.enc) ∧ ∀ g, (Value.slice A sh.length c).ownBlock = some g → F g
theorem Hs.at {W : World} {F : Nat → Prop} {h a dk : Nat} {d : Dk} {b : Bk} {sh : List Shp} (hh : Hs W F h a dk d b sh) : ∃ A c, W.cell? ⟨h, 0, none⟩ = some (.bool true) ∧ W.cell? ⟨h, 13, none⟩ = some (.pointer (some ⟨dk, 0, none⟩)) ∧ W.cell? ⟨h, 14, none⟩ = some (.pointer (some ⟨a, 0, none⟩)) ∧
    W.cell? ⟨h, 12, none⟩ = some (.slice A sh.length c) ∧ (∀ j, W.frozen? ⟨h, j, none⟩ = false) ∧ Hid (W.ownsRow 0 103 4 (.slice A sh.length c) sh.length (sh.flatMap Shp.enc)) ∧ Hid (∀ g, (Value.slice A sh.length c).ownBlock = some g → F g) := by
  obtain ⟨C, h1, h2, h3, h4, A, c, h5, h6, h7⟩ := hh.cells
  exact ⟨A, c, by rw [cell_of_row _ _ 0 _ _ (0, 0) h1]; exact h2, by rw [cell_of_row _ _ 13 _ _ (0, 0) h1]; exact h3, by rw [cell_of_row _ _ 14 _ _ (0, 0) h1]; exact h4, by rw [cell_of_row _ _ 12 _ _ (0, 0) h1]; exact h5, fun j => by simp [World.frozen?, h1], Lib.hid h6, Lib.hid h7⟩
theorem Hs.below {W w : World} {F : Nat → Prop} {h a dk : Nat} {d : Dk} {b : Bk} {sh : List Shp} (hh : Hs W F h a dk d b sh) (k : Below W.heap.size W w) : Hs w F h a dk d b sh := by
  obtain ⟨C, h1, h2, h3, h4, A, c, h5, h6, h7⟩ := hh.cells
  exact ⟨hh.bd.below k, hh.own, C, (k.block _ (Array.getElem?_eq_some_iff.1 h1).1).trans h1, h2, h3, h4, A, c, h5, own_heap h6 (fun g hg => by obtain ⟨D, hD⟩ := own_blk h6 hg; exact k.block g (Array.getElem?_eq_some_iff.1 hD).1), h7⟩
set_option maxRecDepth 8000 in
set_option maxHeartbeats 2000000 in
theorem new_any (w : World) (F : Nat → Prop) (hu : Up w F) : Calls Tryz.prog 5 #[] w fun e w' => ∃ h a dk, w.heap.size ≤ h ∧ e = .returned (.pointer (some ⟨h, 0, none⟩)) ∧ Hs w' F h a dk Dk.new ⟨[], false⟩ [] ∧ Below w.heap.size w w' := by
  refine calls_cps ?_
  intro R hR
  have HU := Lib.hid hu
  have HD := Lib.hid (ndisk_any w F hu)
  clear hu
  go_enter Tryz.func5, Tryz.ntmps5
  go_wp2_with (go_at_call 18; (with_reducible refine HD.out.mono ?_); rintro e w1 ⟨rfl, hd1, hb1⟩; have HD1 := Lib.hid hd1; have HB1 := Lib.hid hb1; clear hd1 hb1)
  refine (open0_any w1 F w.heap.size HD1.out (HU.out.below HB1.out)).mono ?_
  rintro e w2 ⟨a, ha, rfl, hbd, hb2⟩
  have HBd := Lib.hid hbd
  have HB2 := Lib.hid hb2
  clear hbd hb2
  go_wp2
  have hb3 := below_new w2 (.cells #[.bool true, .pointer none, .slice none 0 0, .slice none 0 0, .slice none 0 0, .slice none 0 0, .slice none 0 0, .slice none 0 0, .slice none 0 0, .slice none 0 0, .pointer none, .slice none 0 0, .slice none 0 0, .pointer (some ⟨w.heap.size, 0, none⟩), .pointer (some ⟨a, 0, none⟩)] 56)
  have h12 : w.heap.size ≤ w2.heap.size := Nat.le_trans HB1.out.size HB2.out.size
  exact hR.out _ _ ⟨w2.heap.size, a, w.heap.size, h12, rfl, ⟨HBd.out.below hb3, HU.out _ h12, _, heap_alloc_new w2 _, rfl, rfl, rfl, none, 0, rfl, World.ownsRow_nil _ _ _ _, fun g hg => by simp [Value.ownBlock] at hg⟩, (HB1.out.trans (HB2.out.mono HB1.out.size)).trans (hb3.mono h12)⟩
/-- (*House).Lots. -/
theorem hlots_any (w : World) (F : Nat → Prop) (h a dk : Nat) (d : Dk) (b : Bk) (sh : List Shp) (hh : Hs w F h a dk d b sh) (hn : b.E.length ≤ 10000) :
    Calls Tryz.prog 15 #[.pointer (some ⟨h, 0, none⟩)] w fun e w' => ∃ (A : Option Addr) (c : Nat) (L : List Lot), e = .returned (.slice A L.length c) ∧ LotsOf (balE b.E) L ∧ L.Pairwise (fun x y => cfL x y ≤ 0) ∧ L.length ≤ 1000000 ∧ SlE lotE 3 w' A L.length L ∧ Below w.heap.size w w' := by
  refine calls_cps ?_
  intro R hR
  obtain ⟨A, c, q0, q1, q2, q3, -, -, -⟩ := hh.at
  have HL := Lib.hid (blots_any w F a dk b hh.bd.book hn)
  clear hh
  go_enter Tryz.func15, Tryz.ntmps15
  go_wp2_with fail
  refine HL.out.mono ?_
  rintro e w' ⟨A', c', L, rfl, h1, h2, h3, h4, -, h5⟩
  have H1 := Lib.hid h1
  have H2 := Lib.hid h2
  have H3 := Lib.hid h3
  have H4 := Lib.hid h4
  have H5 := Lib.hid h5
  clear h1 h2 h3 h4 h5
  go_wp2
  exact hR.out _ _ ⟨A', c', L, rfl, H1.out, H2.out, H3.out, H4.out, H5.out⟩
/-- Entry. -/
theorem entry0_any (w : World) (F : Nat → Prop) (a dk : Nat) (b : Bk) (h : Bok w F a dk b) (ix : Nat) (es : List Mv) (he : b.E[ix]? = some es) (h1 : 1 ≤ es.length) (h2 : es.length ≤ 1000) (hE : b.E.length ≤ 10000) :
    Calls Tryz.prog 55 #[.pointer (some ⟨a, 0, none⟩), .int .i64 (ix : Int)] w fun e w' => ∃ A' c', e = .returned (.tuple #[.slice A' es.length c', .int .i64 0]) ∧ SlE mvE 4 w' A' es.length es ∧ Below w.heap.size w w' := by
  refine calls_cps ?_
  intro R hR
  obtain ⟨A0, c0, mb, n0, d0, d1, d2, d3, _, HEnt, _⟩ := h.cells
  have hixl : ix < b.E.length := (List.getElem?_eq_some_iff.1 he).1
  obtain ⟨outer, o1, o2, o3⟩ := HEnt.out
  obtain ⟨Ai, ci, e1, e2, e3⟩ := o3 ix es he
  obtain ⟨eb, eo, rfl, heb, hsl⟩ := (Sl.of_own o1).2 (by omega)
  have hcell := hsl ix _ e1
  obtain ⟨N, hN⟩ : ∃ N, es.length = N := ⟨_, rfl⟩
  have HC := Lib.hid (clonem_any w Ai N ci es (by rw [← hN]; exact SlE.of_own e2 rfl) (by omega) (by omega))
  rw [hN] at hcell
  have hi1 : (ix : Int) < (b.E.length : Int) := by omega
  have HN := Lib.hid hN
  clear h HEnt o1 o2 o3 e1 e2 e3 hsl he hN
  go_enter Tryz.func55, Tryz.ntmps55
  go_wp2_with fail
  refine HC.out.mono ?_
  rintro e w' ⟨A', c', rfl, ho, hb⟩
  have HO := Lib.hid ho
  have HB := Lib.hid hb
  clear ho hb
  go_wp2
  exact hR.out _ _ ⟨A', c', by rw [HN.out]; rfl, by rw [HN.out]; exact SlE.of_own HO.out HN.out.symm, HB.out⟩
end
end
section
section
open Go.RowKit Go.Shelf
/-- A move in a line. -/
def mvL (m : Mv) : List UInt8 := 32 :: m.f.data.toList ++ 32 :: m.t.data.toList ++ 32 :: m.i.data.toList ++ 32 :: Lib.itoa m.q
/-- An entry's line. -/
def lineL (e : List Mv) : List UInt8 := [112, 111, 115, 116] ++ e.flatMap mvL
theorem infoLn : (Tryz.prog.info? 9).map (fun i => (i.zero, i.size, i.bytes)) = some (some (.string ByteArray.empty), 1, 16) := by kernel_rfl
theorem elemLn : ElemOk Tryz.prog 137 9 1 16 := ElemOk.of (z := .string ByteArray.empty) Tryz.underlying137 infoLn rfl (by omega)
theorem line_size (s f t i : ByteArray) : (s ++ ⟨#[32]⟩ ++ f ++ ⟨#[32]⟩ ++ t ++ ⟨#[32]⟩ ++ i).size = s.size + f.size + t.size + i.size + 3 := by
  rw [ba_size]
  simp only [ba_app, List.length_append, ← ba_size]
  show s.size + 1 + f.size + 1 + t.size + 1 + i.size = _
  omega
set_option maxRecDepth 8000 in
set_option maxHeartbeats 4000000 in
theorem printed_any (w : World) (F : Nat → Prop) (h a dk : Nat) (d : Dk) (b : Bk) (sh : List Shp) (_v : Value) (hh : Hs w F h a dk d b sh) (hn : b.E.length ≤ 10000) (he : ∀ e ∈ b.E, enOk e = true) (bg : Nat) (hg : Gl bg w) (hb : bg ≤ w.heap.size) :
    Calls Tryz.prog 27 #[.pointer (some ⟨h, 0, none⟩), .agg #[.slice none 0 0, .slice none 0 0]] w fun e w' => ∃ A c, e = .returned (.iface 137 (.slice A b.E.length c)) ∧ SlE strE 1 w' A b.E.length (strL (b.E.map lineL)) ∧ b.E.length ≤ c ∧ Below w.heap.size w w' := by
  refine calls_cps ?_
  intro R hR
  have HH := Lib.hid hh
  have HG := Lib.hid hg
  have HE := Lib.hid he
  have hb1 := below_al1' (below_new w (.cells #[.slice none 0 0, .slice none 0 0] 76)) (.cells #[] 9)
  have ho1 := own_newAt (w.alloc (.cells #[.slice none 0 0, .slice none 0 0] 76)) #[] 9 1 0 w.heap.size rfl (by simp) (by unfold maxLen; omega) rfl
  rw [World.size_alloc] at ho1
  obtain ⟨W1, hW1⟩ : ∃ W1, (w.alloc (.cells #[.slice none 0 0, .slice none 0 0] 76)).alloc (.cells #[] 9) = W1 := ⟨_, rfl⟩
  rw [hW1] at hb1 ho1
  have HW1 := Lib.hid hW1
  have HB1 := Lib.hid hb1
  have HO1 := Lib.hid ho1
  obtain ⟨A0, c0, -, -, q2, -⟩ := (hh.below hb1).at
  rw [← hW1] at q2
  obtain ⟨N, hN⟩ : ∃ N, b.E.length = N := ⟨_, rfl⟩
  have HN := Lib.hid hN
  rw [hN] at hn
  have HC := Lib.hid (count_any W1 F a dk b (hh.below hb1).bd.book)
  rw [hN] at HC
  clear hh hg he hb1 hN ho1 hW1
  go_enter Tryz.func27, Tryz.ntmps27
  go_wp2_with fail
  rw [HW1.out]
  refine HC.out.mono ?_
  rintro e w' ⟨rfl, rfl⟩
  go_wp2_with fail
  clear q2
  go_loopw [5, 18] (fun s5 s18 wr => ∃ (k m : Nat) (A : Option Addr) (c : Nat), k ≤ N ∧ s18 = .int .i64 (k : Int) ∧ s5 = .slice A k c ∧ Hid (wr.ownsRow w.heap.size 9 1 (.slice A k c) k ((strL ((b.E.take k).map lineL)).flatMap strE)) ∧ Hid (Below w.heap.size w wr)) (fun _ s18 _ => N - (intOf s18).toNat)
  case atStart => exact ⟨0, 0, _, _, Nat.zero_le _, rfl, rfl, Lib.hid (by simpa [strL] using HO1.out), HB1⟩
  case round =>
    obtain ⟨k, m, A, c, hk, rfl, rfl, Ho, Hb⟩ := hrel
    by_cases hlt : k < N
    · obtain ⟨e, hek⟩ : ∃ e, b.E[k]? = some e := ⟨_, List.getElem?_eq_getElem (by have := HN.out; omega)⟩
      have hok := HE.out e (List.mem_of_getElem? hek)
      have hz := mvZ_of hok
      have h1 : 1 ≤ e.length := by
        unfold enOk at hok
        simp only [Bool.and_eq_true, decide_eq_true_eq] at hok
        exact hok.1.2
      obtain ⟨A0, c0, -, -, q2, -⟩ := (HH.out.below Hb.out).at
      have i1 : (k : Int) < (N : Int) := by omega
      obtain ⟨n, hn2⟩ : ∃ n, e.length = n := ⟨_, rfl⟩
      have HEn := Lib.hid (entry0_any wr F a dk b (HH.out.below Hb.out).bd.book k e hek (by omega) (by have := hz.1; omega) (by have := HN.out; omega))
      rw [hn2] at HEn
      have Hn2 := Lib.hid hn2
      have HZ := Lib.hid hz
      have hn32 : n ≤ 32 := by rw [← hn2]; exact hz.1
      have Hek := Lib.hid hek
      clear hek hok hz h1 hn2
      go_wp2_with fail
      refine HEn.out.mono ?_
      rintro en w2 ⟨A2, c2, rfl, hx2, hb2⟩
      have HX2 := Lib.hid hx2
      have HB2 := Lib.hid (Hb.out.trans (hb2.mono Hb.out.size))
      have HO2 := Lib.hid (ownsRow_below Ho.out hb2)
      clear hx2 hb2 q2
      go_wp2_with fail
      go_loopw [9, 32] (fun s9 s32 wy => ∃ (j : Nat) (s : ByteArray), j ≤ n ∧ s32 = .int .i64 (j : Int) ∧ s9 = .string s ∧ s.size ≤ 4 + 80 * j ∧ Hid (s.data.toList = [112, 111, 115, 116] ++ (e.take j).flatMap mvL) ∧ Hid (Below w.heap.size w wy) ∧ Hid (wy.ownsRow w.heap.size 9 1 (.slice A k c) k ((strL ((b.E.take k).map lineL)).flatMap strE)) ∧ Hid (SlE mvE 4 wy A2 n e)) (fun _ s32 _ => n - (intOf s32).toNat)
      case atStart => exact ⟨0, _, Nat.zero_le _, rfl, rfl, by decide, Lib.hid rfl, HB2, HO2, HX2⟩
      case round =>
        obtain ⟨j, s, hj, rfl, rfl, hs, Hs, Hb3, Ho3, Hx3⟩ := hrel
        by_cases hlj : j < n
        · obtain ⟨b0, o, y, rfl, hb0, hy, q0, q1, q2, q3⟩ := Hx3.out.mv_at hlj
          obtain ⟨z1, z2, z3, z4, z5⟩ := HZ.out.2 y (List.mem_of_getElem? hy)
          have ij : (j : Int) < (n : Int) := by omega
          have Hy := Lib.hid hy
          clear hy
          have r1 : ¬ 9223372036854775807 < s.size + 1 := by omega
          have r2 : ¬ 9223372036854775807 < s.size + 1 + y.f.size := by omega
          have r3 : ¬ 9223372036854775807 < s.size + 1 + y.f.size + 1 := by omega
          have r4 : ¬ 9223372036854775807 < s.size + 1 + y.f.size + 1 + y.t.size := by omega
          have r5 : ¬ 9223372036854775807 < s.size + 1 + y.f.size + 1 + y.t.size + 1 := by omega
          have r6 : ¬ 9223372036854775807 < s.size + 1 + y.f.size + 1 + y.t.size + 1 + y.i.size := by omega
          have hbox := heap_alloc_new wr (.cells #[.string y.f, .string y.t, .string y.i, .int .i64 y.q] 142)
          obtain ⟨p0, p1, p2, p3, -⟩ := cells4 hbox
          have hbb := below_al1' (below_new wr (.cells #[.string y.f, .string y.t, .string y.i, .int .i64 y.q] 142)) (.cells #[.int .i64 y.q] 3)
          have HBB := Lib.hid hbb
          have HRow := Lib.hid (row_any (s ++ ⟨#[32]⟩ ++ y.f ++ ⟨#[32]⟩ ++ y.t ++ ⟨#[32]⟩ ++ y.i) (some ⟨wr.heap.size + 1, 0, none⟩) 1 1 [y.q] ((wr.alloc (.cells #[.string y.f, .string y.t, .string y.i, .int .i64 y.q] 142)).alloc (.cells #[.int .i64 y.q] 3))
            ⟨rfl, by have h := Sl.newAt (wr.alloc (.cells #[.string y.f, .string y.t, .string y.i, .int .i64 y.q] 142)) #[.int .i64 y.q] 3 1 1 rfl (b := wr.heap.size + 1) (by simp); exact h⟩ (by omega) (by rw [line_size]; omega) (fun x hx => by rw [List.mem_singleton] at hx; subst hx; exact ⟨by omega, by omega⟩) bg (HG.out.on ((Hb3.out.mono hb).trans (hbb.mono (by have := Hb3.out.size; omega)))) (by have := Hb3.out.size; simp; omega))
          clear hbox hbb
          go_wp2_with fail
          refine HRow.out.mono ?_
          rintro en w4 ⟨rfl, hb4⟩
          have HB4 := Lib.hid (HBB.out.trans (hb4.mono HBB.out.size))
          have hil := Lib.itoa_length_le y.q (by omega) (by omega)
          have Hil := Lib.hid hil
          clear hb4 hil p0 p1 p2 p3 q0 q1 q2 q3
          go_wp2_with fail
          refine ⟨⟨j + 1, _, hlj, by go_num, rfl, ?_, Lib.hid ?_, Lib.hid (Hb3.out.trans (HB4.out.mono Hb3.out.size)), Lib.hid (ownsRow_below Ho3.out HB4.out), Lib.hid (Hx3.out.below HB4.out)⟩, by simp [intOf] <;> omega⟩
          · rw [ba_size]
            have hl := Hil.out
            have e0 := ba_size s
            have e1 := ba_size y.f
            have e2 := ba_size y.t
            have e3 := ba_size y.i
            simp only [rowL, List.length_append, List.flatMap_cons, List.flatMap_nil, List.length_cons, List.append_nil]
            omega
          · rw [List.take_add_one, Hy.out, List.flatMap_append]
            simp only [rowL, Hs.out, mvL, List.flatMap_cons, List.flatMap_nil, List.append_nil, Option.toList_some, List.append_assoc, List.cons_append, List.nil_append]
        · have hjn : j = n := by omega
          subst hjn
          have ij : ¬ (j : Int) < (j : Int) := by omega
          have hse : s.data.toList = lineL e := by
            rw [Hs.out, List.take_of_length_le (by rw [Hx3.out.1]; exact Nat.le_refl _)]
            rfl
          have Hse := Lib.hid hse
          clear hse Hs
          go_wp2_with (at_builtin; go_loud (refine wpList_app rfl (.tmp 54) (.tmp 56) _ rfl elemLn w.heap.size _ _ _ rfl (Ho3.out.alloc _) _ _ _ _ rfl (Sl.newAt _ _ _ 1 1 rfl rfl) (str_one [s]) (by unfold maxLen; omega) (by omega) (by have := Hb3.out.size; simp; omega) ?_; intro A5 c5 w5 ho5 hg5 hp5; have HO5 := Lib.hid ho5; have HG5 := Lib.hid hg5; clear ho5 hg5 hp5))
          have hlow : Below w.heap.size w w5 := below_own (Hb3.out.alloc Hb3.out.size _) (Ho3.out.alloc _) (Nat.le_refl _) (by have := Hb3.out.size; simp; omega) HG5.out
          refine ⟨⟨k + 1, 0, A5, c5, hlt, by go_num, rfl, Lib.hid ?_, Lib.hid hlow⟩, by simp [intOf] <;> omega⟩
          have e6 : strL ((b.E.take (k + 1)).map lineL) = strL ((b.E.take k).map lineL) ++ [s] := by
            rw [List.take_add_one, Hek.out, List.map_append]
            unfold strL
            rw [List.map_append]
            congr 1
            show [(⟨(lineL e).toArray⟩ : ByteArray)] = [s]
            rw [ba_of Hse.out]
          rw [e6, List.flatMap_append]
          exact HO5.out
    · have hkn : k = N := by omega
      subst hkn
      have i1 : ¬ (k : Int) < (k : Int) := by omega
      have hx := SlE.of_own Ho.out (by unfold strL; rw [List.length_map, List.length_map, List.length_take, HN.out]; omega)
      rw [List.take_of_length_le (by rw [HN.out]; exact Nat.le_refl _)] at hx
      have hkc : k ≤ c := by
        rcases Ho.out.2 with ⟨hv, hk0⟩ | ⟨g, cc, cur, hv, _, _, hle, _⟩
        · omega
        · simp only [Value.slice.injEq] at hv
          omega
      have hf := hR.out (.returned (.iface 137 (.slice A k c))) wr ⟨A, c, by rw [HN.out], by rw [HN.out]; exact hx, by rw [HN.out]; exact hkc, Hb.out⟩
      have HF := Lib.hid hf
      clear hR hf hx Ho Hb
      go_wp2
      exact HF.out
end
end
section
section
open Go.RowKit Go.Shelf
theorem meth_lines (v : Value) (w : World) : (method 597 137 v "clavecin/house.text").run Tryz.prog w = .ok (450, v) w := by kernel_rfl
theorem meth_refusal (v : Value) (w : World) : (method 597 61 v "clavecin/house.text").run Tryz.prog w = .ok (20, v) w := by kernel_rfl
theorem lines_small (E : List (List Mv)) (hE : E.length ≤ 10000) (he : ∀ e ∈ E, enOk e = true) : (linesL (((strL (E.map lineL))).map (·.data.toList))).length ≤ 140737488355328 := by
  have e1 : (strL (E.map lineL)).map (·.data.toList) = E.map lineL := by
    unfold strL
    rw [List.map_map, List.map_map]
    rfl
  rw [e1]
  have key : ∀ (E : List (List Mv)), (∀ e ∈ E, enOk e = true) → (linesL (E.map lineL)).length ≤ 10000 * E.length := by
    intro E
    induction E with
    | nil => intro _; simp [linesL]
    | cons e E ih =>
      intro he
      have h1 := ih fun x hx => he x (List.mem_cons_of_mem _ hx)
      have hz := mvZ_of (he e List.mem_cons_self)
      have h2 : ∀ (l : List Mv), (∀ m ∈ l, m.f.size ≤ 12 ∧ m.t.size ≤ 12 ∧ m.i.size ≤ 12 ∧ 1 ≤ m.q ∧ m.q ≤ 1000000000) → (l.flatMap mvL).length ≤ 100 * l.length := by
        intro l
        induction l with
        | nil => intro _; simp
        | cons m l ihl =>
          intro hm
          have h3 := ihl fun x hx => hm x (List.mem_cons_of_mem _ hx)
          have h4 := hm m List.mem_cons_self
          have h5 := Lib.itoa_length_le m.q (by omega) (by omega)
          have e1 := ba_size m.f
          have e2 := ba_size m.t
          have e3 := ba_size m.i
          rw [List.flatMap_cons, List.length_append, List.length_cons]
          simp only [mvL, List.length_append, List.length_cons, List.cons_append]
          omega
      have h3 := h2 e hz.2
      have h4 := hz.1
      unfold linesL at h1 ⊢
      rw [List.map_cons, List.flatMap_cons, List.length_append, List.length_cons, List.length_append, List.length_singleton]
      simp only [lineL, List.length_append, List.length_cons, List.length_nil] at h1 ⊢
      omega
  have := key E he
  omega
set_option maxRecDepth 8000 in
set_option maxHeartbeats 4000000 in
theorem hbook_any (w : World) (F : Nat → Prop) (h a dk : Nat) (d : Dk) (b : Bk) (sh : List Shp) (hh : Hs w F h a dk d b sh) (hn : b.E.length ≤ 10000) (he : ∀ e ∈ b.E, enOk e = true) (bg : Nat) (hg : Gl bg w) (hb : bg ≤ w.heap.size) :
    Calls Tryz.prog 10 #[.pointer (some ⟨h, 0, none⟩)] w fun e w' => e = .returned (.string ⟨(linesL (b.E.map lineL)).toArray⟩) ∧ Below w.heap.size w w' := by
  refine calls_cps ?_
  intro R hR
  obtain ⟨A0, c0, q0, -, -, -⟩ := hh.at
  have HP := Lib.hid (printed_any w F h a dk d b sh .nilIface hh hn he bg hg hb)
  have HL := Lib.hid (lines_small b.E hn he)
  have e1 : (strL (b.E.map lineL)).map (·.data.toList) = b.E.map lineL := by
    unfold strL
    rw [List.map_map, List.map_map]
    rfl
  have He1 := Lib.hid e1
  have Hn := Lib.hid (show b.E.length ≤ 1000000 by omega)
  obtain ⟨N, hN⟩ : ∃ N, b.E.length = N := ⟨_, rfl⟩
  have hNE := Lib.hid hN
  rw [hN] at HP Hn
  clear hh hg he e1 hN
  go_enter Tryz.func10, Tryz.ntmps10
  go_wp2_with fail
  refine HP.out.mono ?_
  rintro e w1 ⟨A, c, rfl, hx, hc, hb1⟩
  have HX := Lib.hid hx
  have HB1 := Lib.hid hb1
  have Hc := Lib.hid hc
  clear hx hb1 hc
  have hm := meth_lines
  have hNE := hNE.out
  have HT := Lib.hid (ltext_any A N c (strL (b.E.map lineL)) w1 HX.out (by have := Hn.out; omega) Hc.out HL.out)
  clear hNE
  go_wp2_with fail
  refine HT.out.mono ?_
  rintro e w2 ⟨rfl, hb2⟩
  have HB2 := Lib.hid hb2
  clear hb2
  go_wp2
  rw [He1.out]
  exact hR.out _ _ ⟨rfl, HB1.out.trans (HB2.out.mono HB1.out.size)⟩
end
end
end Go.Proofs.YtndcijkgaadpgaaGreatDoor
