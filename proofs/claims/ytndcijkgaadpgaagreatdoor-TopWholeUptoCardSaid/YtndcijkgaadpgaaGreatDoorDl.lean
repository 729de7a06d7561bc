/-
  TopWhole returns true at every input whose texts are no longer than 2000000 bytes; condition: the tables lie below a block.
-/
import Derived.Test.YtndcijkgaadpgaaGreatDoorQd
import Derived.Test.YtndcijkgaadpgaaGreatDoorVd
namespace Go.Proofs.YtndcijkgaadpgaaGreatDoor
section
open Go.RowKit Go.Shelf
theorem and31 (x : Int) : ∃ v : Nat, bits BinOp.and IntKind.i64 x 31 = (v : Int) ∧ v < 32 := by
  have h2 : (BitVec.ofInt 64 (31 : Int)).toNat = 31 := by decide
  refine ⟨(BitVec.ofInt 64 x).toNat % 32, ?_, by omega⟩
  show IntKind.i64.wrap ((BitVec.ofInt 64 x &&& BitVec.ofInt 64 (31 : Int)).toNat : Int) = _
  rw [BitVec.toNat_and, h2, Nat.and_two_pow_sub_one_eq_mod _ 5]
  exact IntWalk.i64_in _ (by omega)
theorem and16 (x : Int) : ∃ v : Nat, bits BinOp.and IntKind.i64 x 65535 = (v : Int) ∧ v < 65536 := by
  have h2 : (BitVec.ofInt 64 (65535 : Int)).toNat = 65535 := by decide
  refine ⟨(BitVec.ofInt 64 x).toNat % 65536, ?_, by omega⟩
  show IntKind.i64.wrap ((BitVec.ofInt 64 x &&& BitVec.ofInt 64 (65535 : Int)).toNat : Int) = _
  rw [BitVec.toNat_and, h2, Nat.and_two_pow_sub_one_eq_mod _ 16]
  exact IntWalk.i64_in _ (by omega)
theorem gst_new {w : World} {F : Nat → Prop} {h a dk : Nat} (hh : Hs w F h a dk Dk.new ⟨[], false⟩ []) : GSt w F h Dk.new ⟨[], false⟩ 0 :=
  ⟨a, dk, [], hh, by decide, Gd.new.inv (by decide), fun _ hx => (by cases hx), Nat.le_refl _, fun l _ hB => by
    have h1 := congrArg List.length hB
    have h2 := enc_pos l
    rw [List.length_append] at h1
    have h3 : Dk.new.B.length = 0 := rfl
    omega⟩
/-- The printed book of any house. -/
theorem gbook_any (w : World) (F : Nat → Prop) (h : Nat) (d : Dk) (b : Bk) (m : Nat) (hh : GSt w F h d b m) (hm : m ≤ 90) (bg : Nat) (hg : Gl bg w) (hb : bg ≤ w.heap.size) :
    Calls Tryz.prog 10 #[.pointer (some ⟨h, 0, none⟩)] w fun e w' => e = .returned (.string ⟨(linesL (b.E.map lineL)).toArray⟩) ∧ Below w.heap.size w w' := by
  obtain ⟨a, dk, sh, h1, -, h3, h4⟩ := hh
  exact hbook_any w F h a dk d b sh h1 (by have := h4.2.1; omega) h3.ent bg hg hb
theorem hsbook_any (w : World) (F : Nat → Prop) (h : Nat) (b : Bk) (m : Nat) (hh : HSt w F h b m) (hm : m ≤ 90) (bg : Nat) (hg : Gl bg w) (hb : bg ≤ w.heap.size) :
    Calls Tryz.prog 10 #[.pointer (some ⟨h, 0, none⟩)] w fun e w' => e = .returned (.string ⟨(linesL (b.E.map lineL)).toArray⟩) ∧ Below w.heap.size w w' := by
  obtain ⟨a, dk, sh, h1, -, h3⟩ := hh
  exact hbook_any w F h a dk _ b sh h1 (by have := h3.few; omega) (fun e he => (h3.ent e he).1) bg hg hb
theorem ent_no {t : List UInt8} (h : EntB t = false) (h6 : 6 < t.length) : t.take 6 ≠ [101, 110, 116, 114, 121, 32] := by
  unfold EntB at h
  rw [decide_eq_true h6, Bool.true_and, decide_eq_false_iff_not] at h
  exact h
theorem ent_yes {t : List UInt8} (h : EntB t = true) : 6 < t.length ∧ t.take 6 = [101, 110, 116, 114, 121, 32] := by
  unfold EntB at h
  rw [Bool.and_eq_true, decide_eq_true_eq, decide_eq_true_eq] at h
  exact h
/-- What the law knows of a house and what it keeps. -/
structure WhI (wr : World) (F : Nat → Prop) (h i : Nat) (S : ByteArray) (o : Int) (d : Dk) (b : Bk) : Prop where
  st : GSt wr F h d b i
  sure : S = ⟨(linesL (b.E.map lineL)).toArray⟩
  op : o = if b.br then 1 else 0
/-- The replies to k entries. -/
def entT (k : Nat) : List UInt8 := (List.range k).flatMap fun (i : Nat) => rowL entW [(i : Int)] ++ [10]
theorem entT_succ (k : Nat) : entT (k + 1) = entT k ++ (rowL entW [(k : Int)] ++ [10]) := by
  unfold entT
  rw [List.range_succ, List.flatMap_append]
  simp
theorem ent_row_len {k : Nat} (h : k < 1000) : (rowL entW [(k : Int)] ++ [10]).length ≤ 30 := by
  have := itoa_short k (by omega)
  unfold rowL
  simp only [List.length_append, List.flatMap_cons, List.flatMap_nil, List.length_cons, List.length_nil]
  show 5 + _ + 1 ≤ _
  omega
theorem lns_book {E : List (List Mv)} (h : ∀ e ∈ E, enOk e = true) : lnsL (linesL (E.map lineL)) = E.map lineL :=
  lns_lines _ fun l hl => by
    obtain ⟨e, hm, rfl⟩ := List.mem_map.1 hl
    exact lineL_plain (h e hm)
/-- The lines of a printed book. -/
theorem blines_any (E : List (List Mv)) (he : ∀ e ∈ E, enOk e = true) (hn : E.length ≤ 100) (S : ByteArray) (hS : S = ⟨(linesL (E.map lineL)).toArray⟩) (w : World) :
    Calls Tryz.prog 12 #[.string S] w fun e w' => ∃ A c, e = .returned (.slice A E.length c) ∧ w'.ownsRow w.heap.size 9 1 (.slice A E.length c) E.length ((strL (E.map lineL)).flatMap strE) ∧ Below w.heap.size w w' := by
  have hd : S.data.toList = linesL (E.map lineL) := by rw [hS]
  have h := rlinesO_any S w (by rw [ba_size, hd]; have := lines_len E he; omega)
  rw [hd, lns_book he, List.length_map] at h
  exact h
theorem Hs.sub {W : World} {F G : Nat → Prop} {h a dk : Nat} {d : Dk} {b : Bk} {sh : List Shp} (hh : Hs W F h a dk d b sh) (k : ∀ j, F j → j < W.heap.size → G j) : Hs W G h a dk d b sh := by
  obtain ⟨C, h1, h2, h3, h4, A, c, h5, h6, h7⟩ := hh.cells
  refine ⟨hh.bd.sub fun j hj hc => k j hj ?_, k h hh.own (Array.getElem?_eq_some_iff.1 h1).1, C, h1, h2, h3, h4, A, c, h5, h6, fun g hg => k g (h7 g hg) (own_lt h6 hg)⟩
  rcases hc with ⟨C, ty, h⟩ | ⟨es, cl, h⟩
  · exact (Array.getElem?_eq_some_iff.1 h).1
  · exact (Array.getElem?_eq_some_iff.1 h).1
def psum (L : List Lot) (x : ByteArray) (k : Nat) : Int := (((L.take k).filter fun z => decide (z.2.1 = x)).map fun z => z.2.2).sum
theorem psum_succ {L : List Lot} {x : ByteArray} {k : Nat} {z : Lot} (h : L[k]? = some z) : psum L x (k + 1) = psum L x k + if z.2.1 = x then z.2.2 else 0 := by
  unfold psum
  rw [List.take_add_one, h, List.filter_append, List.map_append, List.sum_append]
  congr 1
  by_cases hx : z.2.1 = x
  · rw [if_pos hx]
    simp [hx]
  · rw [if_neg hx]
    simp [hx]
theorem psum_bd {L : List Lot} {x : ByteArray} (h : ∀ z ∈ L, -1099511627776 ≤ z.2.2 ∧ z.2.2 ≤ 1099511627776) : ∀ k, k ≤ L.length → -(1099511627776 * (k : Int)) ≤ psum L x k ∧ psum L x k ≤ 1099511627776 * (k : Int)
  | 0, _ => by
    have : psum L x 0 = 0 := rfl
    omega
  | k + 1, hk => by
    have h1 := psum_bd (x := x) h k (by omega)
    have h2 := h _ (List.getElem_mem (show k < L.length by omega))
    rw [psum_succ (List.getElem?_eq_getElem (show k < L.length by omega))]
    split <;> omega
theorem psum_all {E : List (List Mv)} {L : List Lot} (h : LotsOf (balE E) L) (hE : ∀ e ∈ E, enOk e = true) (x : ByteArray) : psum L x L.length = 0 := by
  unfold psum
  rw [List.take_length]
  exact lots_sum h hE x
theorem book_pre {E K : List (List Mv)} (h : E = K ∨ ∃ l, E = K ++ [l]) : ∃ r, linesL (E.map lineL) = linesL (K.map lineL) ++ r := by
  rcases h with rfl | ⟨l, rfl⟩
  · exact ⟨[], (List.append_nil _).symm⟩
  · exact ⟨linesL ([l].map lineL), by unfold linesL; rw [List.map_append, List.flatMap_append]⟩
set_option maxRecDepth 100000 in
set_option maxHeartbeats 8000000 in
theorem whole_any (w : World) (A : Option Addr) (n c : Nat) (L : List ByteArray) (act keep : Int) (hX : SlE strE 1 w A n L) (hsz : ∀ x ∈ L, x.size ≤ 2000000) (_hn : n ≤ 9223372036854775807) (bg : Nat) (hg : Gl bg w) (hb : bg ≤ w.heap.size) :
    Calls Tryz.prog 3 #[.slice A n c, .int .i64 act, .int .i64 keep] w fun e w' => e = .returned (.bool true) ∧ Below w.heap.size w w' := by
  refine calls_cps ?_
  intro R hR
  obtain ⟨F, hF0⟩ : ∃ F : Nat → Prop, (fun j => w.heap.size ≤ j) = F := ⟨_, rfl⟩
  have hu : Up w F := by rw [← hF0]; exact fun b hb => hb
  have hF : ∀ j, F j → bg ≤ j := fun j hj => by rw [← hF0] at hj; exact Nat.le_trans hb hj
  have HLow := Lib.hid (show ∀ W, Kx F w W → Below w.heap.size w W from fun W k => Kx.low (Below.refl _ w) k (fun j hj => by rw [← hF0] at hj; exact hj) (Nat.le_refl _))
  have HU := Lib.hid hu
  have HG := Lib.hid hg
  have HX := Lib.hid hX
  have HSz := Lib.hid hsz
  have Hr := Lib.hid (fun v w' (hv : v = true) (k : Kx F w w') => hR.out (.returned (.bool v)) w' ⟨by rw [hv], HLow.out w' k⟩)
  have HN := Lib.hid (new_any w F hu)
  obtain ⟨va, ha, hva⟩ := and31 act
  obtain ⟨vk, hkp, hvk⟩ := and16 keep
  have HKp := Lib.hid hkp
  have HTa := Lib.hid (fun W => rtxt_any (va + 1) (by omega) W)
  have hil := itoa_short (va + 1) (by omega)
  have r1 : ¬ 9223372036854775807 < 4 + (Lib.itoa ((va + 1 : Nat) : Int)).length := by omega
  clear hu hg hF0 hX hsz hR hkp
  go_enter Tryz.func3, Tryz.ntmps3
  go_wp2_with fail
  refine HN.out.mono ?_
  rintro e w1 ⟨h, a, dk, hge, rfl, hh1, hb1⟩
  have HH1 := Lib.hid (gst_new hh1)
  have HB1 := Lib.hid hb1
  have HHs := Lib.hid (houses_any w1 bg (HG.out.on (hb1.mono hb)) (Nat.le_trans hb hb1.size))
  clear hh1 hb1 hge
  go_wp2_with fail
  refine HHs.out.mono ?_
  rintro e w2 ⟨rfl, hb2⟩
  have HH2 := Lib.hid (HH1.out.below hb2)
  have HK2 := Lib.hid (kx_of_below (S := F) (HB1.out.trans (hb2.mono HB1.out.size)))
  clear hb2 HHs HN HH1
  go_wp2_with fail
  rw [show ((va : Int) + 1) = ((va + 1 : Nat) : Int) by omega]
  refine (HTa.out w2).mono ?_
  rintro e w3 ⟨rfl, hb3⟩
  have HH3 := Lib.hid (HH2.out.below hb3)
  have HK3 := Lib.hid (HK2.out.below hb3)
  have HAr := Lib.hid (garm_any w3 F h Dk.new ⟨[], false⟩ 0 HH3.out (va + 1) (by omega) (by omega) bg (HG.out.kx HK3.out hF hb) (Nat.le_trans hb HK3.out.size) hF)
  clear hb3 HH2 HK2 HTa
  go_wp2_with fail
  refine HAr.out.mono ?_
  rintro e w4 ⟨t, rfl, rfl, hh4, hk4⟩
  have HK4 := Lib.hid (HK3.out.trans hk4 (fun _ _ h => h))
  have HW4 := Lib.hid (show WhI w4 F h 0 ⟨#[]⟩ 0 (Dk.new.arm ((va + 1 : Nat) : Int)) ⟨[], false⟩ from ⟨hh4, rfl, rfl⟩)
  clear hh4 hk4 HH3 HK3 HAr r1 hil
  go_wp2_with fail
  go_loopw [8, 9, 10] (fun s8 s9 s10 wr => ∃ (i : Nat) (S : ByteArray) (o : Int), i ≤ n ∧ i ≤ 24 ∧ s10 = .int .i64 (i : Int) ∧ s8 = .string S ∧ s9 = .int .i64 o ∧ o ≤ 1 ∧ 0 ≤ o ∧ Hid (∃ d b, WhI wr F h i S o d b) ∧ Hid (Kx F w wr)) (fun _ _ s10 _ => 24 - (intOf s10).toNat)
  case atStart => exact ⟨0, _, _, Nat.zero_le _, Nat.zero_le _, rfl, rfl, rfl, by omega, by omega, Lib.hid ⟨_, _, HW4.out⟩, HK4⟩
  case round =>
    obtain ⟨i, S, o, hin, hi24, rfl, rfl, rfl, ho1, ho0, Hh, Hk⟩ := hrel
    by_cases hlt : i < n ∧ i < 24
    · obtain ⟨hlt1, hlt2⟩ := hlt
      obtain ⟨bo, oo, s, hA, hbo, hs, q0⟩ := strs_at (HX.out.below (HLow.out wr Hk.out)) hlt1
      subst hA
      have hs2 := HSz.out s (List.mem_of_getElem? hs)
      have i1 : (i : Int) < (n : Int) := by omega
      have i2 : (i : Int) < 24 := by omega
      have HBk := Lib.hid (booking_any s wr hs2)
      clear hs
      cases hbk : bookB s
      · rw [hbk] at HBk
        clear hbk
        go_wp2_with fail
        refine HBk.out.mono ?_
        rintro e w5 ⟨rfl, hb5⟩
        have HK5 := Lib.hid (Hk.out.below hb5)
        have HH5 := Lib.hid (show ∃ d b, WhI w5 F h (i + 1) S o d b from let ⟨d, b, h1, h2, h3⟩ := Hh.out; ⟨d, b, (h1.below hb5).mono (Nat.le_succ _), h2, h3⟩)
        clear hb5 q0
        go_wp2_with fail
        exact ⟨⟨i + 1, S, o, hlt1, hlt2, by go_num, rfl, rfl, ho1, ho0, HH5, HK5⟩, by simp [intOf] <;> omega⟩
      · rw [hbk] at HBk
        have Hbk := Lib.hid hbk
        clear hbk
        go_wp2_with fail
        refine HBk.out.mono ?_
        rintro e w5 ⟨rfl, hb5⟩
        have HK5 := Lib.hid (Hk.out.below hb5)
        have q1 := (World.cell?_of_block (w := wr) (a := ⟨bo, oo + i, none⟩) (hb5.block bo hbo)).trans q0
        obtain ⟨d, b, hw⟩ := Hh.out
        have HW := Lib.hid hw
        have HLn := Lib.hid (gline_any w5 F h d b i (hw.st.below hb5) (HU.out.kx HK5.out) s (by omega) Hbk.out bg (HG.out.kx HK5.out hF hb) (Nat.le_trans hb HK5.out.size) hF)
        clear hb5 q0 hw
        go_wp2_with fail
        refine HLn.out.mono ?_
        rintro e w6 ⟨t, rfl, d', b', hst, hh6, hk6⟩
        have HK6 := Lib.hid (HK5.out.trans hk6 (fun _ _ h => h))
        have HH6 := Lib.hid hh6
        have HSt := Lib.hid (stp_cases (let ⟨_, _, _, _, _, h3, _⟩ := HW.out.st; h3) hst)
        have HBg := Lib.hid (fun W => rbang_any W)
        obtain ⟨rr, hrr⟩ : ∃ rr : ByteArray, ⟨t.toArray⟩ = rr := ⟨_, rfl⟩
        have hrt : rr.data.toList = t := by rw [← hrr]
        have Hrt := Lib.hid hrt
        rw [hrr]
        clear hh6 hk6 hst hrr hrt q1 HLn HBk
        rcases HSt.out with ⟨hb', he, ht⟩ | ⟨he, ht, hbr, l, hb'⟩ | ⟨he, ht, hbr, hb'⟩
        · have p2 : (rr.toList == [33, 32, 49, 49, 10]) = false := by
            rw [beq_eq_false_iff_ne, Lib.toList_data, Hrt.out, ← bang11]
            exact ht
          have HH7 := Lib.hid (show ∃ d b, WhI w6 F h (i + 1) S o d b from ⟨d', b', HH6.out, hb' ▸ HW.out.sure, hb' ▸ HW.out.op⟩)
          by_cases h6 : 6 < t.length
          · have p0 : (rr.size : Int) > 6 := by rw [ba_size, Hrt.out]; omega
            have p1 : ((rr.extract 0 6).toList == [101, 110, 116, 114, 121, 32]) = false := by
              rw [beq_eq_false_iff_ne, Lib.toList_data, ext_data, Hrt.out, List.drop_zero]
              exact ent_no he h6
            clear he ht h6 HSt HW
            go_wp2_with (go_at_call 11; (with_reducible refine (HBg.out _).mono ?_); rintro e w7 ⟨rfl, hb7⟩; have HB7 := Lib.hid hb7; clear hb7)
            exact ⟨⟨i + 1, S, o, hlt1, hlt2, by go_num, rfl, rfl, ho1, ho0, Lib.hid (let ⟨d, b, h1, h2, h3⟩ := HH7.out; ⟨d, b, h1.below HB7.out, h2, h3⟩), Lib.hid (HK6.out.below HB7.out)⟩, by simp [intOf] <;> omega⟩
          · have p0 : ¬ (rr.size : Int) > 6 := by rw [ba_size, Hrt.out]; omega
            clear he ht h6 HSt HW
            go_wp2_with (go_at_call 11; (with_reducible refine (HBg.out _).mono ?_); rintro e w7 ⟨rfl, hb7⟩; have HB7 := Lib.hid hb7; clear hb7)
            exact ⟨⟨i + 1, S, o, hlt1, hlt2, by go_num, rfl, rfl, ho1, ho0, Lib.hid (let ⟨d, b, h1, h2, h3⟩ := HH7.out; ⟨d, b, h1.below HB7.out, h2, h3⟩), Lib.hid (HK6.out.below HB7.out)⟩, by simp [intOf] <;> omega⟩
        · obtain ⟨h6, h7⟩ := ent_yes he
          have p0 : (rr.size : Int) > 6 := by rw [ba_size, Hrt.out]; omega
          have p1 : ((rr.extract 0 6).toList == [101, 110, 116, 114, 121, 32]) = true := by
            rw [beq_iff_eq, Lib.toList_data, ext_data, Hrt.out, List.drop_zero]
            exact h7
          have p2 : (rr.toList == [33, 32, 49, 49, 10]) = false := by
            rw [beq_eq_false_iff_ne, Lib.toList_data, Hrt.out, ← bang11]
            exact ht
          have HBo := Lib.hid (gbook_any w6 F h d' b' (i + 1) HH6.out (by omega) bg (HG.out.kx HK6.out hF hb) (Nat.le_trans hb HK6.out.size))
          have HO := Lib.hid (show o = if b'.br then 1 else 0 by rw [HW.out.op, hbr, hb'])
          clear he ht h6 h7 HSt HW hbr hb'
          go_wp2_with (first
            | (go_at_call 10; (with_reducible refine HBo.out.mono ?_); rintro e w7 ⟨rfl, hb7⟩; have HB7 := Lib.hid hb7; clear hb7)
            | (go_at_call 11; (with_reducible refine (HBg.out _).mono ?_); rintro e w8 ⟨rfl, hb8⟩; have HB8 := Lib.hid (HB7.out.trans (hb8.mono HB7.out.size)); clear hb8))
          exact ⟨⟨i + 1, _, o, hlt1, hlt2, by go_num, rfl, rfl, ho1, ho0, Lib.hid ⟨d', b', HH6.out.below HB8.out, rfl, HO.out⟩, Lib.hid (HK6.out.below HB8.out)⟩, by simp [intOf] <;> omega⟩
        · have p0 : ¬ (rr.size : Int) > 6 := by
            rw [ba_size, Hrt.out, ht, bang11]
            decide
          have p2 : (rr.toList == [33, 32, 49, 49, 10]) = true := by
            rw [beq_iff_eq, Lib.toList_data, Hrt.out, ht, bang11]
          have ho : o = 0 := by rw [HW.out.op, hbr]; rfl
          have HS := Lib.hid (show S = ⟨(linesL (b'.E.map lineL)).toArray⟩ by rw [HW.out.sure, hb'])
          have HO := Lib.hid (show (1 : Int) = if b'.br then 1 else 0 by rw [hb']; rfl)
          clear he ht HSt HW hbr hb'
          subst ho
          go_wp2_with (go_at_call 11; (with_reducible refine (HBg.out _).mono ?_); rintro e w7 ⟨rfl, hb7⟩; have HB7 := Lib.hid hb7; clear hb7)
          exact ⟨⟨i + 1, S, 1, hlt1, hlt2, by go_num, rfl, by go_num, by omega, by omega, Lib.hid ⟨d', b', HH6.out.below HB7.out, HS.out, HO.out⟩, Lib.hid (HK6.out.below HB7.out)⟩, by simp [intOf] <;> omega⟩
    · have hst : (¬ (i : Int) < (n : Int)) ∨ ((i : Int) < (n : Int) ∧ ¬ (i : Int) < 24) := by omega
      clear hlt
      obtain ⟨d, b, hw⟩ := Hh.out
      have HW := Lib.hid hw
      have HTk := Lib.hid (fun W => rtxt_any vk (by omega) W)
      have hil := itoa_short vk (by omega)
      have r1 : ¬ 9223372036854775807 < 8 + (Lib.itoa ((vk : Nat) : Int)).length := by omega
      have hkp := HKp.out
      clear hw Hh HW4
      rcases hst with i1 | ⟨i1, i2⟩
      all_goals
        go_wp2_with fail
        refine (HTk.out wr).mono ?_
        rintro e w5 ⟨rfl, hb5⟩
        have HH5 := Lib.hid (HW.out.st.below hb5)
        have HK5 := Lib.hid (Hk.out.below hb5)
        have HRs := Lib.hid (grest_any w5 F h d b i HH5.out (HU.out.kx HK5.out) vk (by omega) bg (HG.out.kx HK5.out hF hb) (Nat.le_trans hb HK5.out.size) hF)
        clear hb5 HTk
        go_wp2_with fail
        refine HRs.out.mono ?_
        rintro e w6 ⟨t, rfl, rfl, ⟨E, hh6, hE⟩, hk6⟩
        have HH6 := Lib.hid hh6
        have HE := Lib.hid hE
        have HK6 := Lib.hid (HK5.out.trans hk6 (fun _ _ h => h))
        have HBo := Lib.hid (hsbook_any w6 F h ⟨E, false⟩ (i + 1) hh6 (by omega) bg (HG.out.kx HK6.out hF hb) (Nat.le_trans hb HK6.out.size))
        clear hh6 hE hk6 HRs r1 hil hkp
        go_wp2_with fail
        refine HBo.out.mono ?_
        rintro e w7 ⟨rfl, hb7⟩
        have HH7 := Lib.hid (HH6.out.below hb7)
        have HK7 := Lib.hid (HK6.out.below hb7)
        clear hb7 HH6 HK6 HBo HH5 HK5
        go_wp2_with fail
        have hgd : Gd ⟨E, false⟩ (i + 1) := let ⟨_, _, _, _, _, h3⟩ := HH7.out; h3
        have hbe : ∀ e ∈ b.E, enOk e = true := let ⟨_, _, _, _, _, h3, _⟩ := HW.out.st; h3.ent
        have hbf : b.E.length ≤ i := let ⟨_, _, _, _, _, _, h4⟩ := HW.out.st; h4.2.1
        have HGd := Lib.hid hgd
        have HL1 := Lib.hid (blines_any b.E hbe (by omega) S HW.out.sure w7)
        obtain ⟨Nb, hNb⟩ : ∃ Nb, b.E.length = Nb := ⟨_, rfl⟩
        obtain ⟨Ne, hNe⟩ : ∃ Ne, E.length = Ne := ⟨_, rfl⟩
        have HNe := Lib.hid hNe
        have hNe25 : Ne ≤ 25 := by
          have := hgd.few
          dsimp only at this
          omega
        have hd1 : Nb ≤ Ne := by
          rcases HE.out with h1 | ⟨_, l, h1⟩
          · rw [← hNb, ← hNe, h1]
            exact Nat.le_refl _
          · rw [← hNb, ← hNe, h1, List.length_append]
            exact Nat.le_add_right _ _
        have hd2 : (Ne : Int) - (Nb : Int) ≤ o := by
          rcases HE.out with h1 | ⟨h0, l, h1⟩
          · rw [← hNb, ← hNe, h1]
            omega
          · have ho := HW.out.op
            rw [h0, if_pos rfl] at ho
            rw [← hNb, ← hNe, h1, List.length_append, List.length_singleton, ho]
            omega
        obtain ⟨T, hT⟩ : ∃ T : ByteArray, ⟨(linesL (E.map lineL)).toArray⟩ = T := ⟨_, rfl⟩
        have HT := Lib.hid hT
        have hpre : ∃ r, T.data.toList = S.data.toList ++ r := by
          obtain ⟨r, hr⟩ := book_pre (E := E) (K := b.E) (HE.out.imp id fun ⟨_, l, h1⟩ => ⟨l, h1⟩)
          exact ⟨r, by rw [← hT, HW.out.sure]; exact hr⟩
        have k1 : ¬ (T.size : Int) < (S.size : Int) := by
          obtain ⟨r, hr⟩ := hpre
          rw [ba_size T, hr, List.length_append, ← ba_size]
          omega
        have k2 : ((T.extract 0 S.size).toList == S.toList) = true := by
          obtain ⟨r, hr⟩ := hpre
          rw [beq_iff_eq, Lib.toList_data, Lib.toList_data, ext_data, hr, List.drop_zero, Nat.sub_zero, ba_size, List.take_left]
        have k3 : ((T.extract 0 S.size).toList != S.toList) = false := by
          rw [bne, k2]
          rfl
        have k4 : ¬ o > 1 := by omega
        have k5 : ¬ (Ne : Int) - (Nb : Int) < 0 := by omega
        have k6 : ¬ (Ne : Int) - (Nb : Int) > o := by omega
        have k7 : S.size ≤ T.size := by omega
        have hTs : T.size ≤ 2000000 := by
          rw [← hT, ba_size]
          have := lines_len E (fun e he => (hgd.ent e he).1)
          show (linesL (E.map lineL)).length ≤ _
          omega
        rw [hT]
        rw [hNb] at HL1 hbf
        clear hgd hbe hNb hNe hT hpre
        refine HL1.out.mono ?_
        rintro e w8 ⟨A8, c8, rfl, -, hb8⟩
        have HH8 := Lib.hid (HH7.out.below hb8)
        have HK8 := Lib.hid (HK7.out.below hb8)
        have HEn := Lib.hid (entries_any w8 F h ⟨E, false⟩ (i + 1) HH8.out (by omega) bg (HG.out.kx HK8.out hF hb) (Nat.le_trans hb HK8.out.size))
        dsimp only at HEn
        rw [HNe.out] at HEn
        clear hb8 HL1 HH7 HK7
        go_wp2_with fail
        refine HEn.out.mono ?_
        rintro e w9 ⟨rfl, hb9⟩
        have HH9 := Lib.hid (HH8.out.below hb9)
        have HK9 := Lib.hid (HK8.out.below hb9)
        have HN2 := Lib.hid (new_any w9 (fun j => w9.heap.size ≤ j) (fun b hb => hb))
        have HG9 := Lib.hid (HG.out.kx HK9.out hF hb)
        have hbg9 := Nat.le_trans hb HK9.out.size
        clear hb9 HEn HH8 HK8
        go_wp2_with fail
        refine HN2.out.mono ?_
        rintro e w10 ⟨h2, a2, dk2, -, rfl, hh10, hb10⟩
        have HH10 := Lib.hid hh10
        have HB10 := Lib.hid hb10
        have HL2 := Lib.hid (fun W => blines_any E (fun e he => (HGd.out.ent e he).1) (by rw [HNe.out]; omega) T HT.out.symm W)
        rw [HNe.out] at HL2
        clear hh10 hb10 HN2 k1 k2 k3 k4 k5 k6
        go_wp2_with fail
        refine (HL2.out _).mono ?_
        rintro e w11 ⟨A9, c9, rfl, hx11, hb11⟩
        obtain ⟨F2, hF2⟩ : ∃ F2 : Nat → Prop, (fun j => (w9.heap.size ≤ j ∧ j < w10.heap.size) ∨ w11.heap.size ≤ j) = F2 := ⟨_, rfl⟩
        have h911 := Nat.le_trans HB10.out.size hb11.size
        have HU2 := Lib.hid (show Up w11 F2 from by rw [← hF2]; exact fun b hb => .inr hb)
        have h9F : ∀ j, F2 j → w9.heap.size ≤ j := fun j hj => by
          rw [← hF2] at hj
          rcases hj with hj | hj
          · exact hj.1
          · exact Nat.le_trans h911 hj
        have HF2 := Lib.hid (show ∀ j, F2 j → bg ≤ j from fun j hj => Nat.le_trans hbg9 (h9F j hj))
        have hB911 : Below w9.heap.size w9 w11 := HB10.out.trans (hb11.mono HB10.out.size)
        have HLow2 := Lib.hid (show ∀ W, Kx F2 w11 W → Below w9.heap.size w9 W from fun W k => Kx.low hB911 k h9F h911)
        have HX11 := Lib.hid (show ∀ W, Kx F2 w11 W → SlE strE 1 W A9 Ne (strL (E.map lineL)) from fun W k => by
          refine SlE.of_own (own_heap hx11 fun g hg => k.block g (own_lt hx11 hg) fun hn => ?_) (by unfold strL; rw [List.length_map, List.length_map, HNe.out])
          have g1 := own_ge0 hx11 hg
          have g2 := own_lt hx11 hg
          rw [← hF2] at hn
          omega)
        have HH11 := Lib.hid (show HSt w11 F2 h2 ⟨[], false⟩ 0 from hst_new ((HH10.out.sub (fun j hj hl => by rw [← hF2]; exact .inl ⟨hj, hl⟩)).below hb11))
        have HG11 := Lib.hid (HG9.out.on (hB911.mono hbg9))
        have hbg11 := Nat.le_trans hbg9 h911
        clear hx11 hb11 HH10 HB10 hF2 hB911 HL2
        go_wp2_with fail
        go_loopw [16, 121] (fun s16 s121 wr2 => ∃ (k : Nat) (RR : ByteArray), k ≤ Ne ∧ s121 = .int .i64 (k : Int) ∧ s16 = .string RR ∧ RR.size ≤ 30 * k ∧ Hid (RR.data.toList = entT k) ∧ Hid (HSt wr2 F2 h2 ⟨E.take k, false⟩ k) ∧ Hid (Kx F2 w11 wr2)) (fun _ s121 _ => Ne - (intOf s121).toNat)
        case atStart => exact ⟨0, _, Nat.zero_le _, rfl, rfl, by decide, Lib.hid rfl, HH11, Lib.hid (Kx.refl _ _)⟩
        case round =>
          rename World => wr2
          obtain ⟨k, RR, hk, rfl, rfl, hRs, HRR, Hh2, Hk2⟩ := hrel
          by_cases hlt : k < Ne
          · have hkE : k < E.length := by have := HNe.out; omega
            obtain ⟨bo, oo, x, hA, hbo, hs, q0⟩ := strs_at (HX11.out _ Hk2.out) hlt
            subst hA
            have hx : x = ⟨(lineL E[k]).toArray⟩ := by
              unfold strL at hs
              rw [List.map_map, List.getElem?_map, List.getElem?_eq_getElem hkE] at hs
              simpa using hs.symm
            subst hx
            have i3 : (k : Int) < (Ne : Int) := by omega
            have HLn := Lib.hid (again_any wr2 F2 h2 k E k hkE HGd.out.jour HGd.out.ent Hh2.out (by omega) (HU2.out.kx Hk2.out) bg (HG11.out.kx Hk2.out HF2.out hbg11) (Nat.le_trans hbg11 Hk2.out.size) HF2.out)
            have hel := ent_row_len (k := k) (by omega)
            have HRR2 := Lib.hid (show (RR ++ ⟨(rowL entW [(k : Int)] ++ [10]).toArray⟩ : ByteArray).data.toList = entT (k + 1) by rw [ba_app, HRR.out, entT_succ])
            obtain ⟨tt, htt⟩ : ∃ tt, rowL entW [(k : Int)] ++ [10] = tt := ⟨_, rfl⟩
            rw [htt] at HLn hel HRR2
            have hsz2 : (⟨tt.toArray⟩ : ByteArray).size ≤ 30 := by rw [ba_size]; exact hel
            have r2 : ¬ 9223372036854775807 < RR.size + (⟨tt.toArray⟩ : ByteArray).size := by omega
            have HRs2 := Lib.hid (show (RR ++ ⟨tt.toArray⟩ : ByteArray).size ≤ 30 * (k + 1) by rw [ba_size, ba_app, List.length_append, ← ba_size, ← ba_size]; omega)
            clear hs htt hel
            go_wp2_with fail
            refine HLn.out.mono ?_
            rintro e w12 ⟨t, rfl, b', ⟨rfl, rfl⟩, hh12, hk12⟩
            have HH12 := Lib.hid hh12
            have HK12 := Lib.hid (Hk2.out.trans hk12 (fun _ _ h => h))
            clear hh12 hk12 q0 HLn
            go_wp2_with fail
            exact ⟨⟨k + 1, _, hlt, by go_num, rfl, HRs2.out, HRR2, HH12, HK12⟩, by simp [intOf] <;> omega⟩
          · have hkN : k = Ne := by omega
            subst hkN
            have i3 : ¬ (k : Int) < (k : Int) := by omega
            have HH2 := Lib.hid (show HSt wr2 F2 h2 ⟨E, false⟩ k from by have := Hh2.out; rwa [List.take_of_length_le (by rw [HNe.out]; exact Nat.le_refl _)] at this)
            have hHh := HH9.out.below (HLow2.out _ Hk2.out)
            have HHh := Lib.hid hHh
            have HKw := Lib.hid (HK9.out.trans (kx_of_below (HLow2.out _ Hk2.out)) (fun _ _ h => h))
            have HG2 := Lib.hid (HG11.out.kx Hk2.out HF2.out hbg11)
            clear hHh Hh2
            go_wp2_with fail
            go_loopw [19, 20] (fun s19 s20 wr3 => ∃ (j : Nat) (WW : ByteArray), j ≤ k ∧ s20 = .int .i64 (j : Int) ∧ s19 = .string WW ∧ WW.size ≤ 30 * j ∧ Hid (WW.data.toList = entT j) ∧ Hid (Below wr2.heap.size wr2 wr3)) (fun _ s20 _ => k - (intOf s20).toNat)
            case atStart => exact ⟨0, _, Nat.zero_le _, rfl, rfl, by decide, Lib.hid rfl, Lib.hid (Below.refl _ _)⟩
            case round =>
              rename World => wr3
              obtain ⟨j, WW, hj, rfl, rfl, hWs, HWW, Hb3⟩ := hrel
              by_cases hlt2 : j < k
              · have i4 : (j : Int) < (Nb : Int) + ((k : Int) - (Nb : Int)) := by omega
                have HLi := Lib.hid (rlist_any ⟨entW.toArray⟩ (some ⟨wr3.heap.size, 0, none⟩) 1 1 [(j : Int)] (wr3.alloc (.cells #[.int .i64 (j : Int)] 3)) ⟨rfl, by have h := Sl.newAt wr3 #[.int .i64 (j : Int)] 3 1 1 rfl rfl; exact h⟩ (by omega) (by decide) (fun x hx => by rw [List.mem_singleton] at hx; subst hx; omega))
                have HB4 := Lib.hid (below_new wr3 (.cells #[.int .i64 (j : Int)] 3))
                have hel := ent_row_len (k := j) (by omega)
                have HWW2 := Lib.hid (show (WW ++ ⟨(rowL entW [(j : Int)] ++ [10]).toArray⟩ : ByteArray).data.toList = entT (j + 1) by rw [ba_app, HWW.out, entT_succ])
                rw [show ((⟨entW.toArray⟩ : ByteArray).data.toList) = entW from rfl] at HLi
                obtain ⟨tt, htt⟩ : ∃ tt, rowL entW [(j : Int)] ++ [10] = tt := ⟨_, rfl⟩
                rw [htt] at HLi hel HWW2
                have hsz2 : (⟨tt.toArray⟩ : ByteArray).size ≤ 30 := by rw [ba_size]; exact hel
                have r2 : ¬ 9223372036854775807 < WW.size + (⟨tt.toArray⟩ : ByteArray).size := by omega
                have HWs2 := Lib.hid (show (WW ++ ⟨tt.toArray⟩ : ByteArray).size ≤ 30 * (j + 1) by rw [ba_size, ba_app, List.length_append, ← ba_size, ← ba_size]; omega)
                clear htt hel
                go_wp2_with fail
                refine HLi.out.mono ?_
                rintro e w13 ⟨rfl, hb13⟩
                have HB13 := Lib.hid (Hb3.out.trans ((HB4.out.trans (hb13.mono HB4.out.size)).mono Hb3.out.size))
                clear hb13 HLi
                go_wp2_with fail
                exact ⟨⟨j + 1, _, hlt2, by go_num, rfl, HWs2.out, HWW2, HB13⟩, by simp [intOf] <;> omega⟩
              · have hjk : j = k := by omega
                subst hjk
                have i4 : ¬ (j : Int) < (Nb : Int) + ((j : Int) - (Nb : Int)) := by omega
                have HH3 := Lib.hid (HH2.out.below Hb3.out)
                have HHh3 := Lib.hid (HHh.out.below Hb3.out)
                have HLo := Lib.hid (show Calls Tryz.prog 15 #[.pointer (some ⟨h, 0, none⟩)] wr3 fun e w' => ∃ (A : Option Addr) (c : Nat) (L : List Lot), e = .returned (.slice A L.length c) ∧ LotsOf (balE E) L ∧ L.length ≤ 1000000 ∧ SlE lotE 3 w' A L.length L ∧ Below wr3.heap.size wr3 w' from by
                  obtain ⟨a', dk', sh', h1, h2, h3⟩ := HHh3.out
                  refine (hlots_any wr3 F h a' dk' _ ⟨E, false⟩ sh' h1 (by show E.length ≤ _; rw [HNe.out]; omega)).mono ?_
                  rintro e w' ⟨A', c', L', rfl, q1, -, q3, q4, q5⟩
                  exact ⟨A', c', L', rfl, q1, q3, q4, q5⟩)
                have p1 : (RR.toList == WW.toList) = true := by rw [beq_iff_eq, Lib.toList_data, Lib.toList_data, HRR.out, HWW.out]
                go_wp2_with fail
                refine HLo.out.mono ?_
                rintro e w14 ⟨A14, c14, K, rfl, hK, hK6, hKx, hb14⟩
                have HKL := Lib.hid hK
                have HKX := Lib.hid hKx
                have HB14 := Lib.hid (Hb3.out.trans (hb14.mono Hb3.out.size))
                obtain ⟨M, hM⟩ : ∃ M, K.length = M := ⟨_, rfl⟩
                have HM := Lib.hid hM
                have HBd := Lib.hid (show ∀ z ∈ K, -1099511627776 ≤ z.2.2 ∧ z.2.2 ≤ 1099511627776 from fun z hz => by
                  obtain ⟨-, h2, -⟩ := hK.all z hz
                  obtain ⟨h3, h4, -⟩ := HGd.out.jour.now (z.1, z.2.1)
                  unfold mxQ at h3 h4
                  dsimp only at h3 h4
                  rw [h2]
                  omega)
                rw [hM] at hK6 HKX ⊢
                clear hK hKx hb14 hM HLo HH3 HHh3
                go_wp2_with fail
                go_loopw [22] (fun s22 wr4 => ∃ p : Nat, p ≤ M ∧ s22 = .int .i64 (p : Int) ∧ Hid (Below w14.heap.size w14 wr4)) (fun s22 _ => M - (intOf s22).toNat)
                case atStart => exact ⟨0, Nat.zero_le _, rfl, Lib.hid (Below.refl _ _)⟩
                case round =>
                  rename World => wr4
                  obtain ⟨p, hp, rfl, Hb4⟩ := hrel
                  by_cases hlt3 : p < M
                  · have i5 : (p : Int) < (M : Int) := by omega
                    obtain ⟨z, hz⟩ : ∃ z, K[p]? = some z := ⟨_, List.getElem?_eq_getElem (by rw [HM.out]; exact hlt3)⟩
                    have Hz := Lib.hid hz
                    clear hz
                    go_wp2_with fail
                    go_loopw [23, 24] (fun s23 s24 wr5 => ∃ (u : Nat) (v : Int), u ≤ M ∧ s24 = .int .i64 (u : Int) ∧ s23 = .int .i64 v ∧ Hid (v = psum K z.2.1 u) ∧ Hid (Below w14.heap.size w14 wr5)) (fun _ s24 _ => M - (intOf s24).toNat)
                    case atStart => exact ⟨0, 0, Nat.zero_le _, rfl, rfl, Lib.hid rfl, Hb4⟩
                    case round =>
                      rename World => wr5
                      obtain ⟨u, v, hu, rfl, rfl, Hv, Hb5⟩ := hrel
                      by_cases hlt4 : u < M
                      · have i6 : (u : Int) < (M : Int) := by omega
                        obtain ⟨bz, oz, y, hA, hbz, hy, y0, y1, y2⟩ := (HKX.out.below Hb5.out).lot_at hlt4
                        obtain ⟨bz2, oz2, y', hA2, hbz2, hy', x0, x1, x2⟩ := (HKX.out.below Hb5.out).lot_at hlt3
                        rw [Hz.out, Option.some.injEq] at hy'
                        subst hy'
                        subst hA
                        rw [Option.some.injEq, Addr.mk.injEq] at hA2
                        obtain ⟨rfl, rfl, -⟩ := hA2
                        have hbdy := HBd.out y (List.mem_of_getElem? hy)
                        have hbdv := psum_bd HBd.out u (by rw [HM.out]; exact hu) (x := z.2.1)
                        rw [← Hv.out] at hbdv
                        have hps := psum_succ hy (x := z.2.1)
                        have Hps := Lib.hid hps
                        clear hps hy x0 x2 y0 hbz hbz2
                        have hM9 : (M : Int) ≤ 1000000 := by omega
                        have hub : (u : Int) < 1000000 := by omega
                        by_cases hsx : y.2.1 = z.2.1
                        · have sE : (y.2.1.toList == z.2.1.toList) = true := by rw [hsx]; simp
                          have hp2 := Hps.out
                          rw [if_pos hsx, ← Hv.out] at hp2
                          have Hp2 := Lib.hid hp2.symm
                          have hv1 : -4611686018427387904 ≤ v := by omega
                          have hv2 : v ≤ 4611686018427387904 := by omega
                          obtain ⟨hy1, hy2⟩ := hbdy
                          clear hsx hp2 hbdv Hps
                          go_upto_region 42 with fail
                          go_region
                          go_wp2_with fail
                          exact ⟨⟨u + 1, v + y.2.2, hlt4, by go_num, by go_num, Hp2, Lib.hid (Hb5.out.trans ((below_drewn (w := wr5) 1).mono Hb5.out.size))⟩, by simp [intOf] <;> omega⟩
                        · have sE : (y.2.1.toList == z.2.1.toList) = false := by rw [beq_eq_false_iff_ne]; exact fun h => hsx (str_inj h)
                          have hp2 := Hps.out
                          rw [if_neg hsx, ← Hv.out, Int.add_zero] at hp2
                          have Hp2 := Lib.hid hp2.symm
                          clear hsx hp2 hbdv Hps hbdy
                          go_upto_region 42 with fail
                          go_region
                          go_wp2_with fail
                          exact ⟨⟨u + 1, v, hlt4, by go_num, rfl, Hp2, Lib.hid (Hb5.out.trans ((below_drewn (w := wr5) 1).mono Hb5.out.size))⟩, by simp [intOf] <;> omega⟩
                      · have huM : u = M := by omega
                        have i6 : ¬ (u : Int) < (M : Int) := by omega
                        have hv0 : v = 0 := by
                          rw [Hv.out, huM, ← HM.out]
                          exact psum_all HKL.out (fun e he => (HGd.out.ent e he).1) _
                        subst hv0
                        clear Hv huM
                        go_wp2_with fail
                        exact ⟨⟨p + 1, hlt3, by go_num, Hb5⟩, by simp [intOf] <;> omega⟩
                  · have i5 : ¬ (p : Int) < (M : Int) := by omega
                    have HB5 := Lib.hid (HB14.out.trans (Hb4.out.mono HB14.out.size))
                    have HH4 := Lib.hid (HH2.out.below HB5.out)
                    have HK4 := Lib.hid (Hk2.out.below HB5.out)
                    have HG4 := Lib.hid (HG11.out.kx HK4.out HF2.out hbg11)
                    have HBk := Lib.hid (hsbook_any wr4 F2 h2 ⟨E, false⟩ j HH4.out (by omega) bg HG4.out (Nat.le_trans hbg11 HK4.out.size))
                    rw [HT.out] at HBk
                    have p2 : (T.toList == T.toList) = true := by simp
                    clear HH2 HHh HB14 Hb4
                    go_wp2_with fail
                    refine HBk.out.mono ?_
                    rintro e w15 ⟨rfl, hb15⟩
                    have HH15 := Lib.hid (HH4.out.below hb15)
                    have HK15 := Lib.hid (HK4.out.below hb15)
                    have HLl := Lib.hid (line_lots w15 F2 h2 ⟨E, false⟩ j HH15.out (by omega) (HU2.out.kx HK15.out) ⟨lotsW.toArray⟩ (by decide) [] (by show [] ∉ spl (fstL lotsW); decide) (by show (fstL lotsW).length ≤ 4096; decide) bg (HG11.out.kx HK15.out HF2.out hbg11) (Nat.le_trans hbg11 HK15.out.size) HF2.out (fun t b' => ∃ L', LotsOf (balE E) L' ∧ L'.Pairwise (fun x y => cfL x y ≤ 0) ∧ t = linesL (L'.map lotL)) (by decide) (fun hz => absurd hz (by decide)) (fun _ L' h1 h2 => ⟨L', h1, h2, rfl⟩))
                    clear hb15 HBk HH4 HK4 HG4
                    go_wp2_with fail
                    refine HLl.out.mono ?_
                    rintro e w16 ⟨t1, rfl, b1, ⟨L1, hL1, hs1, ht1⟩, -, hk16⟩
                    have hlow16 := HLow2.out w16 (HK15.out.trans hk16 (fun _ _ h => h))
                    have HHw := Lib.hid (HH9.out.below hlow16)
                    have HK16 := Lib.hid (HK9.out.trans (kx_of_below hlow16) (fun _ _ h => h))
                    have HLh := Lib.hid (line_lots w16 F h ⟨E, false⟩ (i + 1) HHw.out (by omega) (HU.out.kx HK16.out) ⟨lotsW.toArray⟩ (by decide) [] (by show [] ∉ spl (fstL lotsW); decide) (by show (fstL lotsW).length ≤ 4096; decide) bg (HG.out.kx HK16.out hF hb) (Nat.le_trans hb HK16.out.size) hF (fun t b' => t = t1) (by decide) (fun hz => absurd hz (by decide)) (fun _ L' h1 h2 => by rw [ht1, lots_uniq hL1 h1 hs1 h2]))
                    obtain ⟨tb, htb⟩ : ∃ tb : ByteArray, ⟨t1.toArray⟩ = tb := ⟨_, rfl⟩
                    have p3 : (tb.toList == tb.toList) = true := by simp
                    have Htb := Lib.hid htb
                    rw [htb]
                    clear hL1 hs1 ht1 hk16 hlow16 HLl htb
                    go_wp2_with fail
                    refine HLh.out.mono ?_
                    rintro e w17 ⟨t2, rfl, b2, rfl, -, hk17⟩
                    rw [Htb.out]
                    have hf := Hr.out true w17 rfl (HK16.out.trans hk17 (fun _ _ h => h))
                    have HFin := Lib.hid hf
                    clear hf hk17 Hr HLh
                    go_wp2
                    exact HFin.out
end
end Go.Proofs.YtndcijkgaadpgaaGreatDoor
