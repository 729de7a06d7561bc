/-
  named, (*House).balance, (*House).lots; conditions: the cells hold a house, the tables lie below a block, no word is longer than 2^20 bytes. (*House).balance; conditions: the cells hold a house, the tables lie below a block, no word is longer than 2^20 bytes. (*House).lots; conditions: the cells hold a house whose entries are entries, the tables lie below a block.
-/
import Derived.Test.YtndcijkgaadpgaaGreatDoorUr
namespace Go.Proofs.YtndcijkgaadpgaaGreatDoor
section
section
open Go.RowKit Go.Shelf
def nmMv (s : ByteArray) : Mv := ⟨⟨#[111, 117, 116, 49]⟩, ⟨#[111, 117, 116, 50]⟩, s, 1⟩
theorem nm_en (s : ByteArray) : enOk [nmMv s] = nameB s := by
  have h1 : nameB ⟨#[111, 117, 116, 49]⟩ = true := by decide
  have h2 : nameB ⟨#[111, 117, 116, 50]⟩ = true := by decide
  have h3 : ¬ (⟨#[111, 117, 116, 49]⟩ : ByteArray) = ⟨#[111, 117, 116, 50]⟩ := by
    intro h
    have := congrArg (fun s : ByteArray => s.data.toList) h
    revert this
    decide
  unfold enOk
  simp only [List.all_cons, List.all_nil, Bool.and_true, List.length_cons, List.length_nil]
  unfold mvOk nmMv
  dsimp only
  rw [h1, h2, decide_eq_false h3]
  simp
theorem nm_would (s : ByteArray) : Bk.would ⟨[], false⟩ [nmMv s] = if nameB s = true then 0 else 1 := by
  unfold Bk.would
  rw [if_neg (by simp), nm_en]
  split
  · refine refW_of fun p hp => ?_
    have h0 : ∀ q, balE [] q = 0 := fun _ => rfl
    dsimp only
    rw [h0]
    have h1 : -1 ≤ enA [nmMv s] p ∧ enA [nmMv s] p ≤ 1 := by
      show -1 ≤ mvA (nmMv s) p + 0 ∧ mvA (nmMv s) p + 0 ≤ 1
      unfold mvA
      show -1 ≤ ((if _ then (1 : Int) else 0) - (if _ then (1 : Int) else 0)) + 0 ∧ ((if _ then (1 : Int) else 0) - (if _ then (1 : Int) else 0)) + 0 ≤ 1
      split <;> split <;> omega
    refine ⟨by unfold mxQ; omega, by unfold mxQ; omega, fun _ => ?_⟩
    have h2 : plcs [nmMv s] = [((nmMv s).f, (nmMv s).i), ((nmMv s).t, (nmMv s).i)] := rfl
    rw [h2] at hp
    simp only [List.mem_cons, List.not_mem_nil, or_false] at hp
    rcases hp with rfl | rfl
    · show outB ⟨#[111, 117, 116, 49]⟩ = true
      decide
    · show outB ⟨#[111, 117, 116, 50]⟩ = true
      decide
  · rfl
set_option maxRecDepth 8000 in
set_option maxHeartbeats 4000000 in
theorem named_any (s : ByteArray) (w : World) (hs : s.size ≤ 1000000) : Calls Tryz.prog 174 #[.string s] w fun e w' => e = .returned (.bool (nameB s)) ∧ Below w.heap.size w w' := by
  refine calls_cps ?_
  intro R hR
  have Hr := Lib.hid (fun w' v (hv : v = nameB s) hb => hR.out (.returned (.bool v)) w' ⟨by rw [hv], hb⟩)
  clear hR
  have HD := Lib.hid (ndisk_any w (fun j => w.heap.size ≤ j) (fun b hb => hb))
  go_enter Tryz.func174, Tryz.ntmps174
  go_wp2_with fail
  refine HD.out.mono ?_
  rintro e w1 ⟨rfl, hd1, hb1⟩
  have HB1 := Lib.hid hb1
  have HO := Lib.hid (open0_any w1 (fun j => w.heap.size ≤ j) w.heap.size hd1 (fun b hb => Nat.le_trans hb1.size hb))
  clear hd1 hb1
  go_wp2_with fail
  refine HO.out.mono ?_
  rintro e w2 ⟨a, ha, rfl, hbd2, hb2⟩
  have HBd2 := Lib.hid hbd2
  have HB2 := Lib.hid (HB1.out.trans (hb2.mono HB1.out.size))
  have HB3 := Lib.hid (below_new w2 (.cells #[.string ⟨#[111, 117, 116, 49]⟩, .string ⟨#[111, 117, 116, 50]⟩, .string s, .int .i64 1] 142))
  have HW := Lib.hid (would_any (w2.alloc (.cells #[.string ⟨#[111, 117, 116, 49]⟩, .string ⟨#[111, 117, 116, 50]⟩, .string s, .int .i64 1] 142)) (fun j => w.heap.size ≤ j) a w.heap.size Dk.new ⟨[], false⟩ (some ⟨w2.heap.size, 0, none⟩) 1 1 [nmMv s] (hbd2.below HB3.out).book ⟨⟨by decide, by decide, by decide⟩, Jour.nil, fun e he => by simp at he, [], rfl, fun _ => ⟨rfl, rfl, rfl⟩, fun h => by simp at h⟩
    ⟨rfl, Sl.new w2 #[.string ⟨#[111, 117, 116, 49]⟩, .string ⟨#[111, 117, 116, 50]⟩, .string s, .int .i64 1] 142 4 1 rfl⟩ (fun m hm => by
      rw [List.mem_singleton] at hm
      subst hm
      exact ⟨by show (4 : Nat) ≤ _; decide, by show (4 : Nat) ≤ _; decide, by show s.size ≤ _; omega⟩) (by omega))
  rw [nm_would] at HW
  clear hbd2 hb2
  cases hn : nameB s
  · rw [hn] at HW
    have Hn := Lib.hid hn
    clear hn
    go_wp2_with fail
    refine HW.out.mono ?_
    rintro e w4 ⟨rfl, hb4⟩
    have hf := Hr.out w4 false Hn.out.symm (HB2.out.trans ((HB3.out.trans (hb4.mono HB3.out.size)).mono HB2.out.size))
    have HF := Lib.hid hf
    clear hf hb4 Hr
    go_wp2
    exact HF.out
  · rw [hn] at HW
    have Hn := Lib.hid hn
    clear hn
    go_wp2_with fail
    refine HW.out.mono ?_
    rintro e w4 ⟨rfl, hb4⟩
    have hf := Hr.out w4 true Hn.out.symm (HB2.out.trans ((HB3.out.trans (hb4.mono HB3.out.size)).mono HB2.out.size))
    have HF := Lib.hid hf
    clear hf hb4 Hr
    go_wp2
    exact HF.out
end
end
section
section
open Go.RowKit Go.Shelf
def balW : List UInt8 := [98, 97, 108, 97, 110, 99, 101]
/-- The reply to balance. -/
def balT (b : Bk) (x y : List UInt8) : List UInt8 := if nameB ⟨x.toArray⟩ = true ∧ nameB ⟨y.toArray⟩ = true then linesL [rowL balW [balE b.E (⟨x.toArray⟩, ⟨y.toArray⟩)]] else bangL 1
theorem ans_bang (c : Int) (W : World) (h : i64B c) : AnsT (bangL c) (.iface 61 (.int .i64 c)) W := .inl ⟨c, rfl, h, rfl⟩
theorem ans_one {W : World} {b : Nat} {wd : List UInt8} {x : Int} (hx : i64B x) (hw : wd.length ≤ 1000000) (hX : SlE strE 1 W (some ⟨b, 0, none⟩) 1 [⟨(rowL wd [x]).toArray⟩]) :
    AnsT (linesL [rowL wd [x]]) (.iface 137 (.slice (some ⟨b, 0, none⟩) 1 1)) W := by
  have h := ans_row (e := 0) ⟨by decide, by decide⟩ hx hw hX
  simpa [eitherT] using h
set_option maxRecDepth 8000 in
set_option maxHeartbeats 4000000 in
theorem hbal_any (w : World) (F : Nat → Prop) (h a dk : Nat) (d : Dk) (b : Bk) (sh : List Shp) (hh : Hs w F h a dk d b sh) (hi : Inv d b) (B : Nat) (A1 : Option Addr) (n1 c1 : Nat) (A2 : Option Addr) (n2 c2 : Nat) (x y : List UInt8) (hA : ArgsW B w A1 n1 c1 A2 n2 c2 [x, y] []) (hx : x.length ≤ 1000000) (hy : y.length ≤ 1000000) (bg : Nat) (hg : Gl bg w) (hb : bg ≤ w.heap.size) :
    Calls Tryz.prog 110 #[.pointer (some ⟨h, 0, none⟩), .agg #[.slice A1 n1 c1, .slice A2 n2 c2]] w fun e w' => ∃ r, e = .returned r ∧ AnsT (balT b x y) r w' ∧ Below w.heap.size w w' := by
  refine calls_cps ?_
  intro R hR
  have hA0 := hA.l1
  simp only [List.length_cons, List.length_nil, Nat.zero_add, Nat.reduceAdd] at hA0
  subst hA0
  obtain ⟨w1, hw1⟩ : ∃ w1, w.alloc (.cells #[.slice A1 2 c1, .slice A2 n2 c2] 76) = w1 := ⟨_, rfl⟩
  have hbx := heap_alloc_new w (.cells #[.slice A1 2 c1, .slice A2 n2 c2] 76)
  have hbl := below_new w (.cells #[.slice A1 2 c1, .slice A2 n2 c2] 76)
  rw [hw1] at hbx hbl
  have HW1 := Lib.hid hw1
  have hs1 : w1.heap.size = w.heap.size + 1 := by rw [← hw1]; simp
  have Hs1 := Lib.hid hs1
  have hA1 := hA.below hbl
  obtain ⟨b1, o1, rfl, hb1, -⟩ := hA1.s1.2.2 (by omega)
  have HA1 := Lib.hid hA1
  have HBX := Lib.hid hbx
  have HBL := Lib.hid hbl
  have HH := Lib.hid hh
  have HI := Lib.hid hi
  have HG := Lib.hid hg
  obtain ⟨X, hX⟩ : ∃ X : ByteArray, (⟨x.toArray⟩ : ByteArray) = X := ⟨_, rfl⟩
  obtain ⟨Y, hY⟩ : ∃ Y : ByteArray, (⟨y.toArray⟩ : ByteArray) = Y := ⟨_, rfl⟩
  have hXs : X.size ≤ 1000000 := by rw [← hX, ba_size]; exact hx
  have hYs : Y.size ≤ 1000000 := by rw [← hY, ba_size]; exact hy
  have Hat := Lib.hid (show ∀ W, Below w1.heap.size w1 W → W.cell? ⟨w.heap.size, 0, none⟩ = some (.slice (some ⟨b1, o1, none⟩) 2 c1) ∧ W.cell? ⟨b1, o1, none⟩ = some (.string X) ∧ W.cell? ⟨b1, o1 + 1, none⟩ = some (.string Y) from fun W hW => by
    have h1 := cells2 ((hW.block w.heap.size (by omega)).trans hbx)
    have h2 := (hA1.below hW).s1
    have h3 := str_getD h2 (k := 0) (by omega)
    have h4 := str_getD h2 (k := 1) (by omega)
    rw [Nat.add_zero] at h3
    exact ⟨h1.1, by rw [h3, ← hX]; rfl, by rw [h4, ← hY]; rfl⟩)
  have HT := Lib.hid (show balT b x y = if nameB X = true ∧ nameB Y = true then linesL [rowL balW [balE b.E (X, Y)]] else bangL 1 by unfold balT; rw [hX, hY])
  rw [HT.out] at hR
  have Hr := Lib.hid hR.out
  obtain ⟨x0, p0, p1⟩ := Hat.out w1 (Below.refl _ _)
  have HN1 := Lib.hid (named_any X w1 hXs)
  clear hR hA hA1 hbx hbl hh hi hg hw1 hX hY hs1
  cases n1 : nameB X
  · rw [n1] at HN1 Hr
    have Hf := Lib.hid (fun w' (hb : Below w.heap.size w w') => Hr.out (.returned (.iface 61 (.int .i64 1))) w' ⟨_, rfl, by rw [if_neg (by simp)]; exact ans_bang 1 w' ⟨by decide, by decide⟩, hb⟩)
    clear n1 Hr
    go_enter Tryz.func110, Tryz.ntmps110
    go_upto_region 1 with fail
    rw [HW1.out]
    go_wp2_with fail
    refine HN1.out.mono ?_
    rintro e w2 ⟨rfl, hb2⟩
    have HF2 := Lib.hid (Hf.out w2 (HBL.out.trans (hb2.mono HBL.out.size)))
    clear hb2
    go_wp2
    exact HF2.out
  · rw [n1] at HN1 Hr
    have N1 := Lib.hid n1
    clear n1
    go_enter Tryz.func110, Tryz.ntmps110
    go_upto_region 1 with fail
    rw [HW1.out]
    go_wp2_with fail
    refine HN1.out.mono ?_
    rintro e w2 ⟨rfl, hb2⟩
    have HB2 := Lib.hid hb2
    have HN2 := Lib.hid (named_any Y w2 hYs)
    obtain ⟨y0, q0, q1⟩ := Hat.out w2 hb2
    clear hb2 x0 p0 p1
    cases n2 : nameB Y
    · rw [n2] at HN2 Hr
      have Hf := Lib.hid (fun w' (hb : Below w.heap.size w w') => Hr.out (.returned (.iface 61 (.int .i64 1))) w' ⟨_, rfl, by rw [if_neg (by simp)]; exact ans_bang 1 w' ⟨by decide, by decide⟩, hb⟩)
      clear n2 Hr
      go_wp2_with fail
      refine HN2.out.mono ?_
      rintro e w3 ⟨rfl, hb3⟩
      have HF2 := Lib.hid (Hf.out w3 (HBL.out.trans ((HB2.out.trans (hb3.mono HB2.out.size)).mono HBL.out.size)))
      clear hb3
      go_wp2
      exact HF2.out
    · rw [n2] at HN2 Hr
      clear n2
      go_wp2_with fail
      refine HN2.out.mono ?_
      rintro e w3 ⟨rfl, hb3⟩
      have hl3 := HB2.out.trans (hb3.mono HB2.out.size)
      have hw3 : Below w.heap.size w w3 := HBL.out.trans (hl3.mono HBL.out.size)
      obtain ⟨z0, r0, r1⟩ := Hat.out w3 hl3
      have hh3 := HH.out.below hw3
      obtain ⟨A3, c3, -, -, q14, -⟩ := hh3.at
      have hpz : PlZ (X, Y) := ⟨hXs, hYs⟩
      have HBk := Lib.hid (balance_any w3.drew F a dk b X Y (hh3.below (below_drewn (w := w3) 1)).bd.book hpz)
      obtain ⟨v, hv⟩ : ∃ v, balE b.E (X, Y) = v := ⟨_, rfl⟩
      have hvb : i64B v := by
        have := HI.out.jour.now (X, Y)
        rw [hv] at this
        obtain ⟨h1, h2, _⟩ := this
        unfold mxQ at h1 h2
        exact ⟨by omega, by omega⟩
      rw [hv] at HBk Hr
      have Hvb := Lib.hid hvb
      have HW3 := Lib.hid hw3
      have hn3 := Lib.hid hpz
      clear hb3 hl3 hw3 hh3 hpz hv hvb y0 q0 q1
      go_wp2_with fail
      go_still_tail 12, (by kernel_rfl)
      go_wp2_with fail
      refine HBk.out.mono ?_
      rintro e w4 ⟨rfl, rfl⟩
      go_wp2_with fail
      have HB4 := Lib.hid (show Below w3.heap.size w3 (w3.drew.alloc (.cells #[.int .i64 v] 3)) from (below_drewn (w := w3) 1).alloc (Nat.le_refl _) _)
      have HRow := Lib.hid (row_any ⟨balW.toArray⟩ (some ⟨w3.drew.heap.size, 0, none⟩) 1 1 [v] (w3.drew.alloc (.cells #[.int .i64 v] 3)) ⟨rfl, by have h := Sl.newAt w3.drew #[.int .i64 v] 3 1 1 rfl rfl; exact h⟩ (by omega) (by decide) (fun x hx => by rw [List.mem_singleton] at hx; subst hx; exact Hvb.out) bg ((HG.out.on (HW3.out.mono hb)).on (HB4.out.mono (Nat.le_trans hb HW3.out.size))) (Nat.le_trans (Nat.le_trans hb HW3.out.size) HB4.out.size))
      refine HRow.out.mono ?_
      rintro e w5 ⟨rfl, hb5⟩
      have HB5 := Lib.hid (HB4.out.trans (hb5.mono HB4.out.size))
      clear hb5
      have hx6 := str_new w5 [⟨(rowL balW [v]).toArray⟩]
      have HA := Lib.hid (ans_one (wd := balW) Hvb.out (by decide) hx6)
      have HB6 := Lib.hid (HW3.out.trans ((HB5.out.trans ((below_new w5 (.cells #[.string ⟨(rowL balW [v]).toArray⟩] 9)).mono HB5.out.size)).mono HW3.out.size))
      have hfin := Hr.out _ _ ⟨_, rfl, by rw [if_pos (by simp)]; exact HA.out, HB6.out⟩
      have HFin := Lib.hid hfin
      clear Hr hx6 hfin
      go_wp2
      exact HFin.out
end
end
section
section
open Go.RowKit Go.Shelf
/-- A lot's line. -/
def lotL (x : Lot) : List UInt8 := rowL (108 :: 111 :: 116 :: 32 :: (x.1.data.toList ++ 32 :: x.2.1.data.toList)) [x.2.2]
theorem enA_on {l : List Mv} {p : Pl} (h : enA l p ≠ 0) : p ∈ plcs l := Classical.byContradiction fun hn => h (enA_off hn)
theorem plcs_name {l : List Mv} {p : Pl} (h : ∀ m ∈ l, mvOk m = true) (hp : p ∈ plcs l) : p.1.size ≤ 12 ∧ p.2.size ≤ 12 := by
  unfold plcs at hp
  obtain ⟨m, hm, hp⟩ := List.mem_flatMap.1 hp
  have h1 := h m hm
  unfold mvOk nameB at h1
  simp only [Bool.and_eq_true, decide_eq_true_eq] at h1
  simp only [List.mem_cons, List.not_mem_nil, or_false] at hp
  rcases hp with rfl | rfl
  · exact ⟨by dsimp only; omega, by dsimp only; omega⟩
  · exact ⟨by dsimp only; omega, by dsimp only; omega⟩
theorem balE_on : ∀ {E : List (List Mv)} {p : Pl}, (∀ e ∈ E, enOk e = true) → balE E p ≠ 0 → p.1.size ≤ 12 ∧ p.2.size ≤ 12
  | [], p, _, h => absurd rfl h
  | e :: E, p, he, h => by
    have hc : balE (e :: E) p = enA e p + balE E p := by
      unfold balE
      rw [List.map_cons, List.sum_cons]
    by_cases h0 : balE E p = 0
    · have h1 : enA e p ≠ 0 := by omega
      have h2 := he e List.mem_cons_self
      unfold enOk at h2
      simp only [Bool.and_eq_true, List.all_eq_true] at h2
      exact plcs_name h2.1.1 (enA_on h1)
    · exact balE_on (fun x hx => he x (List.mem_cons_of_mem _ hx)) h0
theorem lot_size (f i : ByteArray) : ((⟨#[108, 111, 116, 32]⟩ : ByteArray) ++ f ++ ⟨#[32]⟩ ++ i).size = 5 + f.size + i.size := by
  rw [ba_size]
  simp only [ba_app, List.length_append, ← ba_size]
  show 4 + f.size + 1 + i.size = _
  omega
theorem lots_small (L : List Lot) (h : ∀ x ∈ L, x.1.size ≤ 12 ∧ x.2.1.size ≤ 12 ∧ i64B x.2.2) : (linesL (L.map lotL)).length ≤ 100 * L.length := by
  induction L with
  | nil => simp [linesL]
  | cons x L ih =>
    have h1 := ih fun y hy => h y (List.mem_cons_of_mem _ hy)
    obtain ⟨h2, h3, h4⟩ := h x List.mem_cons_self
    have h5 := Lib.itoa_length_le x.2.2 h4.1 h4.2
    have e1 := ba_size x.1
    have e2 := ba_size x.2.1
    unfold linesL at h1 ⊢
    rw [List.map_cons, List.flatMap_cons, List.length_append, List.length_cons, List.length_append, List.length_singleton]
    simp only [lotL, rowL, List.flatMap_cons, List.flatMap_nil, List.length_append, List.length_cons, List.length_nil]
    omega
theorem SlE.lot_at {w : World} {A : Option Addr} {n k : Nat} {l : List Lot} (h : SlE lotE 3 w A n l) (hk : k < n) :
    ∃ b o m, A = some ⟨b, o, none⟩ ∧ b < w.heap.size ∧ l[k]? = some m ∧ w.cell? ⟨b, o + k * 3, none⟩ = some (.string m.1) ∧ w.cell? ⟨b, o + k * 3 + 1, none⟩ = some (.string m.2.1) ∧ w.cell? ⟨b, o + k * 3 + 2, none⟩ = some (.int .i64 m.2.2) := by
  obtain ⟨b, o, m, hA, hb, hm, hc⟩ := h.at_ lotE_len hk
  exact ⟨b, o, m, hA, hb, hm, hc 0 _ rfl, hc 1 _ rfl, hc 2 _ rfl⟩
set_option maxRecDepth 8000 in
set_option maxHeartbeats 4000000 in
theorem clots_any (w : World) (F : Nat → Prop) (h a dk : Nat) (d : Dk) (b : Bk) (sh : List Shp) (hh : Hs w F h a dk d b sh) (hi : Inv d b) (A1 : Option Addr) (n1 c1 : Nat) (A2 : Option Addr) (n2 c2 : Nat) (bg : Nat) (hg : Gl bg w) (hb : bg ≤ w.heap.size) :
    Calls Tryz.prog 111 #[.pointer (some ⟨h, 0, none⟩), .agg #[.slice A1 n1 c1, .slice A2 n2 c2]] w fun e w' => ∃ r L, e = .returned r ∧ LotsOf (balE b.E) L ∧ L.Pairwise (fun x y => cfL x y ≤ 0) ∧ AnsT (linesL (L.map lotL)) r w' ∧ Below w.heap.size w w' := by
  refine calls_cps ?_
  intro R hR
  have Hr := Lib.hid hR.out
  have HG := Lib.hid hg
  have HI := Lib.hid hi
  have hb1 := below_al1' (below_new w (.cells #[.slice A1 n1 c1, .slice A2 n2 c2] 76)) (.cells #[] 9)
  have ho1 := own_newAt (w.alloc (.cells #[.slice A1 n1 c1, .slice A2 n2 c2] 76)) #[] 9 1 0 w.heap.size rfl (by simp) (by unfold maxLen; omega) rfl
  rw [World.size_alloc] at ho1
  obtain ⟨W1, hW1⟩ : ∃ W1, (w.alloc (.cells #[.slice A1 n1 c1, .slice A2 n2 c2] 76)).alloc (.cells #[] 9) = W1 := ⟨_, rfl⟩
  rw [hW1] at hb1 ho1
  have HW1 := Lib.hid hW1
  have HB1 := Lib.hid hb1
  have HO1 := Lib.hid ho1
  obtain ⟨A0, c0, -, -, q2, -⟩ := (hh.below hb1).at
  rw [← hW1] at q2
  have HL := Lib.hid (blots_any W1 F a dk b (hh.below hb1).bd.book (by have := hi.few; omega))
  clear hR hh hi hg hb1 ho1 hW1
  go_enter Tryz.func111, Tryz.ntmps111
  go_wp2_with fail
  rw [HW1.out]
  refine HL.out.mono ?_
  rintro e w2 ⟨A, c, L, rfl, hlo, hpw, hlen, hx, hnew, hb2⟩
  have Hnew := Lib.hid hnew
  have Hs1 := Lib.hid (show W1.heap.size = w.heap.size + 2 by rw [← HW1.out]; simp)
  have Hs2 := Lib.hid hb2.size
  have HLo := Lib.hid hlo
  have HPw := Lib.hid hpw
  have HX := Lib.hid hx
  have HB2 := Lib.hid (HB1.out.trans (hb2.mono HB1.out.size))
  have HO2 := Lib.hid (ownsRow_below HO1.out hb2)
  have HS := Lib.hid (show ∀ x ∈ L, x.1.size ≤ 12 ∧ x.2.1.size ≤ 12 ∧ i64B x.2.2 from fun x hx => by
    obtain ⟨h1, h2, h3⟩ := HLo.out.all x hx
    rw [h2] at h3
    have h4 := balE_on HI.out.ent h3
    have h5 := HI.out.jour.now (x.1, x.2.1)
    obtain ⟨h6, h7, _⟩ := h5
    unfold mxQ at h6 h7
    exact ⟨h4.1, h4.2, by rw [h2]; exact ⟨by omega, by omega⟩⟩)
  obtain ⟨N, hN⟩ : ∃ N, L.length = N := ⟨_, rfl⟩
  have HN := Lib.hid hN
  rw [hN] at hlen HX
  clear hlo hpw hx hb2 q2 hN hnew
  rw [HN.out]
  go_wp2_with fail
  go_loopw [5, 15] (fun s5 s15 wr => ∃ (k : Nat) (A' : Option Addr) (c' : Nat), k ≤ N ∧ s15 = .int .i64 (k : Int) ∧ s5 = .slice A' k c' ∧ Hid (wr.ownsRow w.heap.size 9 1 (.slice A' k c') k ((strL ((L.take k).map lotL)).flatMap strE)) ∧ Hid (Below w.heap.size w wr) ∧ Hid (SlE lotE 3 wr A N L) ∧ Hid (w2.heap.size ≤ wr.heap.size) ∧ Hid (∀ g, (Value.slice A' k c').ownBlock = some g → g = w.heap.size + 1 ∨ w2.heap.size ≤ g)) (fun _ s15 _ => N - (intOf s15).toNat)
  case atStart => exact ⟨0, _, _, Nat.zero_le _, rfl, rfl, Lib.hid (by simpa [strL] using HO2.out), HB2, HX, Lib.hid (Nat.le_refl _), Lib.hid (fun g hg => .inl (by simpa [Value.ownBlock] using hg.symm))⟩
  case round =>
    obtain ⟨k, A', c', hk, rfl, rfl, Ho, Hb, Hx, Hwr, Hg⟩ := hrel
    by_cases hlt : k < N
    · obtain ⟨b0, o, y, rfl, hb0, hy, q0, q1, q2⟩ := Hx.out.lot_at hlt
      have HB0 := Lib.hid (show b0 < w2.heap.size by
        obtain ⟨b', o', e', hb', _⟩ := HX.out.2.2 (by omega)
        cases e'
        exact hb')
      obtain ⟨z1, z2, z3, z4⟩ := HS.out y (List.mem_of_getElem? hy)
      have i1 : (k : Int) < (N : Int) := by omega
      have Hy := Lib.hid hy
      have r1 : ¬ 9223372036854775807 < 4 + y.1.size := by omega
      have r2 : ¬ 9223372036854775807 < 4 + y.1.size + 1 := by omega
      have r3 : ¬ 9223372036854775807 < 4 + y.1.size + 1 + y.2.1.size := by omega
      have hbox := heap_alloc_new wr (.cells #[.string y.1, .string y.2.1, .int .i64 y.2.2] 39)
      obtain ⟨p0, p1, p2, -⟩ := cells3 hbox
      have hbb := below_al1' (below_new wr (.cells #[.string y.1, .string y.2.1, .int .i64 y.2.2] 39)) (.cells #[.int .i64 y.2.2] 3)
      have HBB := Lib.hid hbb
      have HRow := Lib.hid (row_any ((⟨#[108, 111, 116, 32]⟩ : ByteArray) ++ y.1 ++ ⟨#[32]⟩ ++ y.2.1) (some ⟨wr.heap.size + 1, 0, none⟩) 1 1 [y.2.2] ((wr.alloc (.cells #[.string y.1, .string y.2.1, .int .i64 y.2.2] 39)).alloc (.cells #[.int .i64 y.2.2] 3))
        ⟨rfl, by have h := Sl.newAt (wr.alloc (.cells #[.string y.1, .string y.2.1, .int .i64 y.2.2] 39)) #[.int .i64 y.2.2] 3 1 1 rfl (b := wr.heap.size + 1) (by simp); exact h⟩ (by omega) (by rw [lot_size]; omega) (fun x hx => by rw [List.mem_singleton] at hx; subst hx; exact ⟨by omega, by omega⟩) bg (HG.out.on ((Hb.out.mono hb).trans (hbb.mono (by have := Hb.out.size; omega)))) (by have := Hb.out.size; simp; omega))
      clear hbox hbb hy
      go_wp2_with fail
      refine HRow.out.mono ?_
      rintro en w4 ⟨rfl, hb4⟩
      have HB4 := Lib.hid (HBB.out.trans (hb4.mono HBB.out.size))
      have HO4 := Lib.hid (ownsRow_below Ho.out HB4.out)
      have HX4 := Lib.hid (Hx.out.below HB4.out)
      have HBW4 := Lib.hid (Hb.out.trans (HB4.out.mono Hb.out.size))
      clear hb4 p0 p1 p2 q0 q1 q2 Ho Hb Hx
      go_wp2_with (at_builtin; refine wpList_app rfl (.tmp 19) (.tmp 31) _ rfl elemLn w.heap.size _ _ _ rfl (HO4.out.alloc _) _ _ _ _ rfl (Sl.newAt _ _ _ 1 1 rfl rfl) (by simp [Value.oneCell']) (by unfold maxLen; omega) (by omega) (by have := HBW4.out.size; simp; omega) ?_; intro A5 c5 w5 ho5 hg5 hp5; have HO5 := Lib.hid ho5; have HG5 := Lib.hid hg5; have HP5 := Lib.hid hp5; clear ho5 hg5 hp5)
      have hlow : Below w.heap.size w w5 := below_own (HBW4.out.alloc HBW4.out.size _) (HO4.out.alloc _) (Nat.le_refl _) (by have := HBW4.out.size; simp; omega) HG5.out
      have hx5 : SlE lotE 3 w5 (some ⟨b0, o, none⟩) N L := (HX4.out.alloc (.cells #[.string ⟨(lotL y).toArray⟩] 9)).low (fun a hn ha => by
        cases ha
        have h0 := Hnew.out _ rfl
        dsimp only at h0
        have h2 : b0 < w4.heap.size := by
          obtain ⟨b', o', e', hb', _⟩ := HX4.out.2.2 hn
          cases e'
          exact hb'
        refine HG5.out.block b0 (by simp; omega) (fun e => ?_)
        rcases Hg.out b0 e.symm with h | h
        · have := Hs1.out; omega
        · have := HB0.out; omega) HG5.out.size
      refine ⟨⟨k + 1, A5, c5, hlt, by go_num, rfl, Lib.hid ?_, Lib.hid hlow, Lib.hid hx5, Lib.hid ?_, Lib.hid (fun g hg => ?_)⟩, by simp [intOf] <;> omega⟩
      case refine_2 =>
        have h1 := HG5.out.size
        have h2 := HB4.out.size
        have h3 := Hwr.out
        simp at h1
        omega
      case refine_3 =>
        rcases HP5.out with h | h
        · exact Hg.out g (h ▸ hg)
        · rw [h] at hg
          cases hg
          right
          have h2 := HB4.out.size
          have h3 := Hwr.out
          simp
          omega
      have e6 : strL ((L.take (k + 1)).map lotL) = strL ((L.take k).map lotL) ++ [⟨(lotL y).toArray⟩] := by
        rw [List.take_add_one, Hy.out, List.map_append]
        unfold strL
        rw [List.map_append]
        rfl
      rw [e6, List.flatMap_append]
      exact HO5.out
    · have hkn : k = N := by omega
      subst hkn
      have i1 : ¬ (k : Int) < (k : Int) := by omega
      have hx := SlE.of_own Ho.out (by unfold strL; rw [List.length_map, List.length_map, List.length_take, HN.out]; omega)
      rw [List.take_of_length_le (by rw [HN.out]; exact Nat.le_refl _)] at hx
      have hkc : k ≤ c' := (own_cap Ho.out).1
      have e1 : (strL (L.map lotL)).map (·.data.toList) = L.map lotL := by
        unfold strL
        rw [List.map_map, List.map_map]
        rfl
      have hf := Hr.out (.returned (.iface 137 (.slice A' k c'))) wr ⟨_, L, rfl, HLo.out, HPw.out, .inr ⟨A', k, c', _, rfl, hx, hlen, hkc, by rw [e1]; have := lots_small L HS.out; have := HN.out; omega, by rw [e1]⟩, Hb.out⟩
      have HF := Lib.hid hf
      clear Hr hf hx Ho Hb
      go_wp2
      exact HF.out
end
end
end Go.Proofs.YtndcijkgaadpgaaGreatDoor
