/-
  (*House).saw; conditions: the cells hold a house, the tables lie below a block.
-/
import Derived.Test.YtndcijkgaadpgaaGreatDoorUt
import Derived.Test.YtndcijkgaadpgaaGreatDoorUw
import Derived.Test.YtndcijkgaadpgaaGreatDoorUy
namespace Go.Proofs.YtndcijkgaadpgaaGreatDoor
section
open Go.RowKit Go.Shelf
def sawM (i : Nat) (q : Int) : Mv := ⟨⟨#[115, 116, 111, 114, 101]⟩, ⟨#[98, 101, 110, 99, 104]⟩, ⟨(115 :: Lib.itoa (i : Int)).toArray⟩, q⟩
/-- The moves of counts. -/
def sawF : Nat → List Int → List Mv
  | _, [] => []
  | i, q :: r => if 0 < q then sawM i q :: sawF (i + 1) r else sawF (i + 1) r
theorem sawF_snoc (q : Int) : ∀ (l : List Int) (i : Nat), sawF i (l ++ [q]) = sawF i l ++ (if 0 < q then [sawM (i + l.length) q] else [])
  | [], i => by
    rw [List.nil_append]
    unfold sawF
    split <;> rfl
  | a :: l, i => by
    rw [List.cons_append, sawF, sawF_snoc q l (i + 1), List.length_cons, show i + 1 + l.length = i + (l.length + 1) by omega]
    conv => rhs; rw [sawF]
    split <;> rfl
theorem sawF_take {l : List Int} {k : Nat} {q : Int} (h : l[k]? = some q) : sawF 0 (l.take (k + 1)) = sawF 0 (l.take k) ++ (if 0 < q then [sawM k q] else []) := by
  have hk := (List.getElem?_eq_some_iff.1 h).1
  rw [List.take_add_one, h]
  show sawF 0 (l.take k ++ [q]) = _
  rw [sawF_snoc, List.length_take, Nat.min_eq_left (by omega), Nat.zero_add]
theorem sawF_len : ∀ (l : List Int) (i : Nat), (sawF i l).length ≤ l.length
  | [], _ => Nat.le_refl _
  | a :: l, i => by
    have := sawF_len l (i + 1)
    rw [sawF]
    split
    · rw [List.length_cons, List.length_cons]; omega
    · rw [List.length_cons]; omega
theorem sawF_small : ∀ (l : List Int) (i : Nat), i + l.length ≤ 1000000 → mvS (sawF i l)
  | [], _, _ => fun m hm => by cases hm
  | a :: l, i, h => fun m hm => by
    rw [List.length_cons] at h
    rw [sawF] at hm
    split at hm
    · rcases List.mem_cons.1 hm with rfl | hm
      · have := Lib.itoa_length_le (i : Int) (by omega) (by omega)
        refine ⟨by show (5 : Nat) ≤ _; decide, by show (5 : Nat) ≤ _; decide, ?_⟩
        rw [ba_size]
        show (115 :: Lib.itoa (i : Int)).length ≤ _
        rw [List.length_cons]
        omega
      · exact sawF_small l (i + 1) (by omega) m hm
    · exact sawF_small l (i + 1) (by omega) m hm
/-- The moves of saw. -/
def sawMs (x y z : Int) (sh : List Shp) : List Mv := if panOk x y z sh = true then sawF 0 (cntO sh.length (planOut z sh x y (planL z sh x y))) else []
/-- What saw replies. -/
def sawT (d : Dk) (b : Bk) (x y z : Int) (sh : List Shp) : List UInt8 := if panOk x y z sh = false then bangL 1 else if sawMs x y z sh = [] then bangL 6 else postT (postB d b (sawMs x y z sh))
/-- What saw does. -/
def sawS (d : Dk) (b : Bk) (x y z : Int) (sh : List Shp) : Dk × Bk × Int := if sawMs x y z sh = [] then (d, b, 0) else postB d b (sawMs x y z sh)
theorem own_sliceH {W : World} {B e sz n : Nat} {v : Value} {xs : List Value} (h : W.ownsRow B e sz v n xs) : ∃ A c, v = .slice A n c ∧ n ≤ c ∧ c ≤ maxLen := by
  rcases h.2 with ⟨rfl, rfl⟩ | ⟨g, c, cur, hv, _, _, hle, hmx, _⟩
  · exact ⟨none, 0, rfl, Nat.le_refl _, by unfold maxLen; omega⟩
  · exact ⟨_, c, hv, hle, hmx⟩
set_option maxRecDepth 8000 in
set_option maxHeartbeats 8000000 in
theorem hsaw_any (w : World) (F : Nat → Prop) (h a dk : Nat) (d : Dk) (b : Bk) (sh : List Shp) (hh : Hs w F h a dk d b sh) (hi : Inv d b) (hu : Up w F) (hs : sh.length ≤ 16) (B : Nat) (A1 : Option Addr) (n1 c1 : Nat) (A2 : Option Addr) (n2 c2 : Nat) (ws : List (List UInt8)) (x y z : Int) (hA : ArgsW B w A1 n1 c1 A2 n2 c2 ws [x, y, z]) (bg : Nat) (hg : Gl bg w) (hb : bg ≤ w.heap.size) (hF : ∀ j, F j → bg ≤ j) :
    Calls Tryz.prog 107 #[.pointer (some ⟨h, 0, none⟩), .agg #[.slice A1 n1 c1, .slice A2 n2 c2]] w fun e w' => ∃ r, e = .returned r ∧ AnsT (sawT d b x y z sh) r w' ∧ Hs w' F h a dk (sawS d b x y z sh).1 (sawS d b x y z sh).2.1 sh ∧ Kx F w w' := by
  refine calls_cps ?_
  intro R hR
  have l2 := hA.l2
  simp only [List.length_cons, List.length_nil, Nat.zero_add, Nat.reduceAdd] at l2
  subst l2
  obtain ⟨w1, hw1⟩ : ∃ w1, w.alloc (.cells #[.slice A1 n1 c1, .slice A2 3 c2] 76) = w1 := ⟨_, rfl⟩
  have hbx := heap_alloc_new w (.cells #[.slice A1 n1 c1, .slice A2 3 c2] 76)
  have hbl := below_new w (.cells #[.slice A1 n1 c1, .slice A2 3 c2] 76)
  rw [hw1] at hbx hbl
  have HW1 := Lib.hid hw1
  have hA1 := hA.below hbl
  obtain ⟨bi, oi, x0, rfl, hbi, hx0, p0⟩ := hA1.s2.at1 (k := 0) (by omega)
  obtain ⟨bi', oi', x1, e1, -, hx1, p1⟩ := hA1.s2.at1 (k := 1) (by omega)
  cases e1
  obtain ⟨bi', oi', x2, e1, -, hx2, p2⟩ := hA1.s2.at1 (k := 2) (by omega)
  cases e1
  simp only [List.getElem?_cons_zero, List.getElem?_cons_succ, Option.some.injEq] at hx0 hx1 hx2
  subst hx0 hx1 hx2
  rw [Nat.add_zero] at p0
  obtain ⟨c0, c1', -⟩ := cells2 hbx
  obtain ⟨w2, hw2⟩ : ∃ w2, w1.drew = w2 := ⟨_, rfl⟩
  have hbd : Below w.heap.size w w2 := hw2 ▸ hbl.trans ((below_drewn (w := w1) 1).mono hbl.size)
  have HW2 := Lib.hid hw2
  have hh2 := hh.below hbd
  obtain ⟨A, c, -, -, -, k0, -, HO, -⟩ := hh2.at
  have HSl := Lib.hid (SlE.of_own HO.out rfl)
  have HH2 := Lib.hid hh2
  have HI := Lib.hid hi
  have HU := Lib.hid (hu.below hbd)
  have HG := Lib.hid (hg.on (hbd.mono hb))
  have HB := Lib.hid hbd
  have hb2 := Nat.le_trans hb hbd.size
  obtain ⟨m, hm⟩ : ∃ m, sh.length = m := ⟨_, rfl⟩
  have Hm := Lib.hid hm
  rw [hm] at hs k0 HSl
  have Hr := Lib.hid hR.out
  clear hR hA hA1 hbx hbl hbd hh hu hi hg hw1 hw2 hh2 hm HO
  cases hp : panOk x y z sh
  · have HBest := Lib.hid (best_no x y z A m c sh w2 HSl.out (by omega) hp)
    have e1 : sawMs x y z sh = [] := by unfold sawMs; rw [if_neg (by rw [hp]; decide)]
    have Hf := Lib.hid (fun w' (hb : Below w2.heap.size w2 w') => Hr.out (.returned (.iface 61 (.int .i64 1))) w' ⟨_, rfl, by unfold sawT; rw [if_pos hp]; exact ans_bang 1 w' ⟨by decide, by decide⟩, by unfold sawS; rw [if_pos e1]; exact HH2.out.below hb, kx_of_below (HB.out.trans (hb.mono HB.out.size))⟩)
    clear hp e1 Hr
    go_enter Tryz.func107, Tryz.ntmps107
    go_upto_region 1 with fail
    rw [HW1.out]
    go_region
    rw [HW2.out]
    go_wp2_with fail
    refine HBest.out.mono ?_
    rintro e w3 ⟨rfl, hb3⟩
    have HF3 := Lib.hid (Hf.out w3 hb3)
    clear hb3
    go_wp2
    exact HF3.out
  · obtain ⟨z1, z2, z3, z4, z5, z6, _⟩ := panOk_ok hp
    obtain ⟨W, rfl⟩ : ∃ n : Nat, x = n := ⟨x.toNat, by omega⟩
    obtain ⟨H, rfl⟩ : ∃ n : Nat, y = n := ⟨y.toNat, by omega⟩
    have HBest := Lib.hid (best_yes W H z A m c sh w2 HSl.out hp)
    obtain ⟨V, hV⟩ : ∃ V, val z sh (W : Int) (H : Int) = V := ⟨_, rfl⟩
    rw [hV] at HBest
    obtain ⟨l, hl⟩ : ∃ l, planL z sh (W : Int) (H : Int) = l := ⟨_, rfl⟩
    have hll : l.length ≤ 8192 := by rw [← hl]; exact planL_len64 z sh z5 _ _ (by omega) (by omega)
    rw [hl] at HBest
    obtain ⟨cs, hcs⟩ : ∃ cs, cntO m (planOut z sh (W : Int) (H : Int) l) = cs := ⟨_, rfl⟩
    have hcl : cs.length ≤ 16 := by
      rw [← hcs]
      unfold cntO
      split
      · rw [cntP_len]; exact hs
      · exact Nat.zero_le _
    have e1 : sawMs (W : Int) (H : Int) z sh = sawF 0 cs := by unfold sawMs; rw [if_pos hp, Hm.out, hl, hcs]
    have hT : sawT d b (W : Int) (H : Int) z sh = if sawF 0 cs = [] then bangL 6 else postT (postB d b (sawF 0 cs)) := by unfold sawT; rw [if_neg (by rw [hp]; decide), e1]
    have hS : sawS d b (W : Int) (H : Int) z sh = if sawF 0 cs = [] then (d, b, 0) else postB d b (sawF 0 cs) := by unfold sawS; rw [e1]
    rw [hT, hS] at Hr
    have HP := Lib.hid hp
    have Hcs := Lib.hid hcs
    clear hp e1 hT hS hl hV hcs
    go_enter Tryz.func107, Tryz.ntmps107
    go_upto_region 1 with fail
    rw [HW1.out]
    go_region
    rw [HW2.out]
    go_wp2_with fail
    refine HBest.out.mono ?_
    rintro e w3 ⟨v, rfl, hpl, hb3⟩
    obtain ⟨A3, c3, rfl, hc3, hc3m⟩ := own_sliceH hpl
    have HC3 := Lib.hid (SlE.of_own hpl rfl)
    have HB3 := Lib.hid hb3
    have hh3 := HH2.out.below hb3
    have HH3 := Lib.hid hh3
    obtain ⟨A4, c4, -, -, -, k4, -, HO4, -⟩ := hh3.at
    rw [Hm.out] at k4 HO4
    obtain ⟨nl, hnl⟩ : ∃ nl, l.length = nl := ⟨_, rfl⟩
    rw [hnl] at HC3 hc3 hll
    have HCt2 := Lib.hid (counts_ok (W : Int) (H : Int) z A4 A3 m c4 nl c3 sh l w3 (SlE.of_own HO4.out Hm.out.symm) HC3.out hc3 (by unfold maxLen at hc3m; omega) (by omega) HP.out)
    rw [Hcs.out] at HCt2
    rw [hnl]
    clear hb3 hpl hh3 k0 c0 c1' p0 p1 p2 hnl
    go_wp2_with fail
    refine HCt2.out.mono ?_
    rintro e w4 ⟨hb4, A5, n5, c5, rfl, hn5, hc5, hc5m, ho5⟩
    have HB4 := Lib.hid (HB3.out.trans (hb4.mono HB3.out.size))
    have HO5 := Lib.hid (SlE.of_own ho5 hn5)
    have HN5 := Lib.hid hn5
    have hn16 : n5 ≤ 16 := by omega
    clear hb4 ho5 hn5 k4
    go_wp2_with fail
    go_loopw [13, 58] (fun s13 s58 wr => ∃ (k q : Nat) (A' : Option Addr) (c' : Nat), k ≤ n5 ∧ q ≤ k ∧ s58 = .int .i64 (k : Int) ∧ s13 = .slice A' q c' ∧ Hid (q = (sawF 0 (cs.take k)).length) ∧ Hid (wr.ownsRow w4.heap.size 142 4 (.slice A' q c') q ((sawF 0 (cs.take k)).flatMap mvE)) ∧ Hid (Below w4.heap.size w4 wr)) (fun _ s58 _ => n5 - (intOf s58).toNat)
    case atStart => exact ⟨0, 0, none, 0, Nat.zero_le _, Nat.le_refl _, rfl, rfl, Lib.hid (by rw [List.take_zero]; rfl), Lib.hid (by rw [List.take_zero]; exact World.ownsRow_nil _ _ _ _), Lib.hid (Below.refl _ _)⟩
    case round =>
      obtain ⟨k, q, A', c', hk, hqk, rfl, rfl, Hq, Ho, Hb⟩ := hrel
      by_cases hlt : k < n5
      · obtain ⟨b5, o5, t, rfl, hb5, ht, q0⟩ := (HO5.out.below Hb.out).at1 hlt
        have i1 : (k : Int) < (n5 : Int) := by omega
        have Htk := Lib.hid (sawF_take ht)
        clear ht
        by_cases h0 : 0 < t
        · have htk := Htk.out
          rw [if_pos h0] at htk
          have Htk2 := Lib.hid htk
          have hbg := Nat.le_trans (Nat.le_trans (Nat.le_trans hb2 HB4.out.size) Hb.out.size) (Nat.le_refl _)
          have HIt := Lib.hid (itoa_any (k : Int) wr (by omega) (by omega) bg (HG.out.on ((HB4.out.trans (Hb.out.mono HB4.out.size)).mono hb2)))
          have hil := Lib.itoa_length_le (k : Int) (by omega) (by omega)
          have r1 : ¬ 9223372036854775807 < 1 + (Lib.itoa (k : Int)).length := by omega
          clear Htk htk hbg
          go_wp2_with fail
          refine HIt.out.mono ?_
          rintro e w5 ⟨rfl, hb5'⟩
          have HB5 := Lib.hid (Hb.out.trans (hb5'.mono Hb.out.size))
          have HO6 := Lib.hid (ownsRow_below Ho.out hb5')
          clear hb5' q0
          go_wp2_with (at_builtin; go_loud (refine wpList_app rfl (.tmp 65) (.tmp 71) _ rfl elemMv w4.heap.size _ _ _ rfl (HO6.out.alloc _) _ _ _ _ rfl (Sl.newAt _ _ _ 4 1 rfl rfl) (by intro u hu; simp at hu; rcases hu with rfl | rfl | rfl | rfl <;> rfl) (by unfold maxLen; omega) (by omega) (by have := HB5.out.size; simp; omega) ?_; intro A6 c6 w6 ho6 hg6 hp6; have HO7 := Lib.hid ho6; have HG7 := Lib.hid hg6; clear ho6 hg6 hp6))
          have hlow : Below w4.heap.size w4 w6 := below_own (HB5.out.alloc HB5.out.size _) (HO6.out.alloc _) (Nat.le_refl _) (by have := HB5.out.size; simp; omega) HG7.out
          refine ⟨⟨k + 1, q + 1, A6, c6, hlt, by omega, by go_num, rfl, Lib.hid ?_, Lib.hid ?_, Lib.hid hlow⟩, by simp [intOf] <;> omega⟩
          · rw [Htk2.out, List.length_append, List.length_singleton, ← Hq.out]
          · rw [Htk2.out, List.flatMap_append]
            exact HO7.out
        · have htk := Htk.out
          rw [if_neg h0, List.append_nil] at htk
          have Htk2 := Lib.hid htk
          have h0' : ¬ t > 0 := h0
          clear Htk htk
          go_wp2_with fail
          exact ⟨⟨k + 1, q, A', c', hlt, by omega, by go_num, rfl, Lib.hid (by rw [Htk2.out]; exact Hq.out), Lib.hid (by rw [Htk2.out]; exact Ho.out), Hb⟩, by simp [intOf] <;> omega⟩
      · have hkn : k = n5 := by omega
        subst hkn
        have i1 : ¬ (k : Int) < (k : Int) := by omega
        have ho := own_mono Ho.out (Nat.zero_le _)
        have hq := Hq.out
        rw [List.take_of_length_le (by rw [← HN5.out]; exact Nat.le_refl _)] at ho hq
        have hlow : Below w2.heap.size w2 wr := HB4.out.trans (Hb.out.mono HB4.out.size)
        by_cases hq0 : q = 0
        · have hnil : sawF 0 cs = [] := List.eq_nil_of_length_eq_zero (by rw [← hq]; exact hq0)
          subst hq0
          have hf := Hr.out (.returned (.iface 61 (.int .i64 6))) wr ⟨_, rfl, by rw [if_pos hnil]; exact ans_bang 6 wr ⟨by decide, by decide⟩, by rw [if_pos hnil]; exact HH2.out.below hlow, kx_of_below (HB.out.trans (hlow.mono HB.out.size))⟩
          have HF := Lib.hid hf
          clear hf Hr hnil hlow ho hq Ho Hq Hb
          go_wp2
          exact HF.out
        · have hnn : sawF 0 cs ≠ [] := fun e => hq0 (by rw [hq, e]; rfl)
          have i2 : ((q : Int) == 0) = false := by rw [beq_eq_false_iff_ne]; omega
          have HP2 := Lib.hid (posted_any wr F h a dk d b sh (HH2.out.below hlow) HI.out (HU.out.below hlow) A' q c' (sawF 0 cs) ho hq (sawF_small cs 0 (by omega)) (by omega) bg (HG.out.on (hlow.mono hb2)) (Nat.le_trans hb2 hlow.size) hF)
          have HLow := Lib.hid (HB.out.trans (hlow.mono HB.out.size))
          have Hnn := Lib.hid hnn
          clear ho hq hlow Ho Hq Hb hnn hq0
          go_wp2_with fail
          refine HP2.out.mono ?_
          rintro e w5 ⟨r, rfl, q1, q2, q3⟩
          have hfin := Hr.out _ _ ⟨r, rfl, by rw [if_neg Hnn.out]; exact q1, by rw [if_neg Hnn.out]; exact q2, (kx_of_below HLow.out).trans q3 (fun _ _ h => h)⟩
          have HFin := Lib.hid hfin
          clear hfin q1 q2 q3 Hr
          go_wp2
          exact HFin.out
end
end Go.Proofs.YtndcijkgaadpgaaGreatDoor
