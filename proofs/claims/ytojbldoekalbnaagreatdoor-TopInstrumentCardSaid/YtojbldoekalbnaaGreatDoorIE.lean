/-
  Contracts of wire.fits and Pull; strconv.Itoa laid; each states its condition.
-/
import Derived.Test.YtojbldoekalbnaaGreatDoorID
import Derived.Shelf.Strconv.Itoa3
import Derived.Lib.AppendIntMem
namespace Go.Proofs.YtojbldoekalbnaaGreatDoor
section
section
open Go.RowKit
/-- The code that fits returns for picks in range. -/
def fitC (b : Bool) (l n : Nat) : Int := if b then if l = n then 0 else 2 else 1
set_option maxRecDepth 16000 in
set_option maxHeartbeats 8000000 in
theorem wfits_any (A : Option Addr) (n c : Nat) (B : Option Addr) (m d : Nat) (G : Option Addr) (k e : Nat) (x : Sc) (P : Option Addr) (np pc : Nat) (L : List (Nat × Nat)) (w : World) (h : ScM w A n c B m d G k e x) (hp : SlE pkE 2 w P np L) (hr : ∀ p ∈ L, p.1 < m ∧ p.2 < k) (hn : np ≤ 1000) :
    Calls Tryz.prog 19 #[.agg (scA A n c B m d G k e x), .slice P np pc] w fun e' w' => e' = .returned (.int .i64 (fitC (scB x) np n)) ∧ Below w.heap.size w w' := by
  refine calls_cps ?_
  intro R hR
  have H := Lib.hid h
  have Hp := Lib.hid hp
  have Hck := Lib.hid (fun W (hb : Below w.heap.size w W) => wcheck_any A n c B m d G k e x W (h.below hb))
  have HR := Lib.hid (show ∀ i, i = fitC (scB x) np n → ∀ W, Below w.heap.size w W → R (.returned (.int .i64 i)) W from fun i hi W g => hR.out _ _ ⟨by rw [hi], g⟩)
  clear h hp hR
  have hnn := H.out.n
  have hmm := H.out.m
  have hkk := H.out.k
  cases hB : scB x with
  | false =>
    rw [hB] at Hck HR
    have HF := Lib.hid (HR.out 1 rfl)
    clear HR
    obtain ⟨co, me, ga, sf, cg⟩ := x
    unfold scA at Hck ⊢
    dsimp only at Hck ⊢
    go_enter Tryz.func19, Tryz.ntmps19
    go_upto_region 1 with fail
    have Hb1 := Lib.hid (below_new w (.cells #[.slice A n c, .slice B m d, .slice G k e, .int .i64 sf, .int .i64 cg] 26))
    obtain ⟨u0, u1, u2, u3, u4, -⟩ := cells5 (heap_alloc_new w (.cells #[.slice A n c, .slice B m d, .slice G k e, .int .i64 sf, .int .i64 cg] 26))
    go_wp2_with ((with_reducible refine (Hck.out _ Hb1.out).mono ?_); rintro e' w3 ⟨rfl, hb3⟩)
    exact HF.out _ (Hb1.out.trans (hb3.mono Hb1.out.size))
  | true =>
    rw [hB] at Hck HR
    obtain ⟨co, me, ga, sf, cg⟩ := x
    unfold scA at Hck ⊢
    dsimp only at Hck ⊢
    go_enter Tryz.func19, Tryz.ntmps19
    go_upto_region 1 with fail
    have Hb1 := Lib.hid (below_new w (.cells #[.slice A n c, .slice B m d, .slice G k e, .int .i64 sf, .int .i64 cg] 26))
    have Hx1 := Lib.hid (heap_alloc_new w (.cells #[.slice A n c, .slice B m d, .slice G k e, .int .i64 sf, .int .i64 cg] 26))
    obtain ⟨w1, hw1⟩ : ∃ w1, w.alloc (.cells #[.slice A n c, .slice B m d, .slice G k e, .int .i64 sf, .int .i64 cg] 26) = w1 := ⟨_, rfl⟩
    rw [hw1] at Hb1 Hx1 ⊢
    clear hw1
    obtain ⟨u0, u1, u2, u3, u4, -⟩ := cells5 Hx1.out
    obtain ⟨bx, hbx⟩ : ∃ bx, w.heap.size = bx := ⟨_, rfl⟩
    rw [hbx] at Hx1 u0 u1 u2 u3 u4 ⊢
    have Hbx := Lib.hid hbx
    clear hbx
    go_upto_region 4 with ((with_reducible refine (Hck.out _ Hb1.out).mono ?_); rintro e' w2 ⟨rfl, hb2⟩; have Hb2 := Lib.hid (Hb1.out.trans (hb2.mono Hb1.out.size)); have Hx2 := Lib.hid ((hb2.block _ (Array.getElem?_eq_some_iff.1 Hx1.out).1).trans Hx1.out); clear hb2)
    clear u0 u1 u2 u3 u4 Hck
    go_wp2_with fail
    go_loopw [7, 15] (fun _ s15 wr => ∃ (t : Nat), s15 = .int .i64 (t : Nat) ∧ t ≤ np ∧ Hid (Below w2.heap.size w2 wr)) (fun _ s15 _ => np - (intOf s15).toNat)
    case atStart => exact ⟨0, rfl, Nat.zero_le _, Lib.hid (Below.refl _ _)⟩
    case round =>
      obtain ⟨t, rfl, ht, HW⟩ := hrel
      have Hx3 := Lib.hid ((HW.out.block _ (Array.getElem?_eq_some_iff.1 Hx2.out).1).trans Hx2.out)
      have hbl := (Array.getElem?_eq_some_iff.1 Hx3.out).1
      by_cases hlt : t < np
      · have i1 : (t : Int) < (np : Int) := by omega
        obtain ⟨pb, po, l, rfl, hpl, hl, c0, c1⟩ := (Hp.out.below (Hb2.out.trans (HW.out.mono Hb2.out.size))).at2k hlt
        obtain ⟨r1, r2⟩ := hr l (List.mem_of_getElem? hl)
        obtain ⟨p1, p2⟩ := l
        dsimp only at c0 c1 r1 r2
        clear hl
        go_upto_region 7 with fail
        obtain ⟨wa, hwa⟩ : ∃ wa, wr.alloc (.cells #[.int .i64 (p1 : Nat), .int .i64 (p2 : Nat)] 47) = wa := ⟨_, rfl⟩
        have Hba := Lib.hid (show Below wr.heap.size wr wa from by rw [← hwa]; exact below_new wr _)
        have Hxa := Lib.hid (show wa.heap[wr.heap.size]? = some (.cells #[.int .i64 (p1 : Nat), .int .i64 (p2 : Nat)] 47 (0, 0)) from by rw [← hwa]; exact heap_alloc_new wr _)
        rw [hwa]
        obtain ⟨t0, t1, -⟩ := cells2 Hxa.out
        have hll := (Array.getElem?_eq_some_iff.1 Hxa.out).1
        obtain ⟨lb, hlb⟩ : ∃ lb, wr.heap.size = lb := ⟨_, rfl⟩
        have Hx4 := Lib.hid ((Hba.out.block _ hbl).trans Hx3.out)
        have hbl4 := (Array.getElem?_eq_some_iff.1 Hx4.out).1
        rw [hlb] at t0 t1 hll ⊢
        obtain ⟨u0, u1, u2, u3, u4, -⟩ := cells5 Hx4.out
        have HW4 := Lib.hid (HW.out.trans (Hba.out.mono HW.out.size))
        have g1 := inB_iffW.2 (show (1 : Int) ≤ (p1 : Int) + 1 ∧ (p1 : Int) + 1 ≤ (m : Int) from by omega)
        have g2 := inB_iffW.2 (show (1 : Int) ≤ (p2 : Int) + 1 ∧ (p2 : Int) + 1 ≤ (k : Int) from by omega)
        have K1 := Lib.hid (inW_any ((p1 : Int) + 1) (m : Int))
        have K2 := Lib.hid (inW_any ((p2 : Int) + 1) (k : Int))
        rw [g1] at K1
        rw [g2] at K2
        have e1 : IntKind.i64.wrap ((p1 : Int) + 1) = (p1 : Int) + 1 := IntWalk.i64_in _ (by omega)
        have e2 : IntKind.i64.wrap ((p2 : Int) + 1) = (p2 : Int) + 1 := IntWalk.i64_in _ (by omega)
        clear g1 g2 hwa hlb c0 c1 hpl hbl Hx3 Hba Hxa
        go_wp2_with (first | ((with_reducible refine (K1.out _).mono ?_); rintro e' w3 ⟨rfl, rfl⟩) | ((with_reducible refine (K2.out _).mono ?_); rintro e' w3 ⟨rfl, rfl⟩))
        exact ⟨⟨t + 1, by go_num, by omega, HW4⟩, by simp [intOf]; omega⟩
      · obtain rfl : np = t := by omega
        have i1 : ¬ (np : Int) < (np : Int) := by omega
        obtain ⟨u0, u1, u2, u3, u4, -⟩ := cells5 Hx3.out
        have HB := Lib.hid (Hb2.out.trans (HW.out.mono Hb2.out.size))
        by_cases he : np = n
        · have HF := Lib.hid (HR.out 0 (by unfold fitC; rw [if_pos rfl, if_pos he]) _ HB.out)
          have j1 : (np : Int) = (n : Int) := by omega
          go_wp2_with fail
          exact HF.out
        · have HF := Lib.hid (HR.out 2 (by unfold fitC; rw [if_pos rfl, if_neg he]) _ HB.out)
          have j1 : ¬ (np : Int) = (n : Int) := by omega
          go_wp2_with fail
          exact HF.out
end
end
section
section
open Go.RowKit
/-- A course's tension with a pick. -/
def tgP (x : Sc) (i : Nat) (p : Nat × Nat) : Int := (pullN (x.me.getD p.1 ⟨0, []⟩).D (x.ga.getD p.2 0) (x.co.getD i ⟨0, 0, 0, 0⟩).L (x.co.getD i ⟨0, 0, 0, 0⟩).F : Nat)
theorem tgP_eq {x : Sc} {i : Nat} {p : Nat × Nat} {mt : Mtl} {s g : Int} {y : Crs} (h : Pk x p.1 p.2 mt s g) (hy : x.co[i]? = some y) : tgP x i p = (pullN mt.D g y.L y.F : Nat) := by
  unfold tgP
  have h1 : x.me.getD p.1 ⟨0, []⟩ = mt := by rw [List.getD_eq_getElem?_getD, h.hme]; rfl
  have h3 : x.ga.getD p.2 0 = g := by rw [List.getD_eq_getElem?_getD, h.hg]; rfl
  have h4 : x.co.getD i ⟨0, 0, 0, 0⟩ = y := by rw [List.getD_eq_getElem?_getD, hy]; rfl
  rw [h1, h3, h4]
theorem sumL_range_succ (f : Nat → Int) (t : Nat) : sumL ((List.range (t + 1)).map f) = sumL ((List.range t).map f) + f t := by
  rw [List.range_succ, List.map_append, List.map_singleton, sumL_snoc]
set_option maxRecDepth 16000 in
set_option maxHeartbeats 8000000 in
theorem wpull_any (A : Option Addr) (n c : Nat) (B : Option Addr) (m d : Nat) (G : Option Addr) (k e : Nat) (x : Sc) (P : Option Addr) (np pc : Nat) (L : List (Nat × Nat)) (w : World) (h : ScM w A n c B m d G k e x) (hp : SlE pkE 2 w P np L) (hr : ∀ p ∈ L, p.1 < m ∧ p.2 < k) (hn : np ≤ 1000) (hi : ∀ y ∈ x.co, InR y.T ∧ InR y.W) :
    Calls Tryz.prog 7 #[.agg (scA A n c B m d G k e x), .slice P np pc] w fun e' w' => e' = .returned (if fitC (scB x) np n = 0 then .tuple #[.int .i64 (sumL ((List.range np).map fun i => tgP x i (L.getD i (0, 0)))), .int .i64 0] else .tuple #[.int .i64 0, .int .i64 (fitC (scB x) np n)]) ∧ Below w.heap.size w w' := by
  refine calls_cps ?_
  intro R hR
  have H := Lib.hid h
  have Hp := Lib.hid hp
  have Hft := Lib.hid (fun W (hb : Below w.heap.size w W) => wfits_any A n c B m d G k e x P np pc L W (h.below hb) (hp.below hb) hr hn)
  by_cases hC : fitC (scB x) np n = 0
  · rw [hC] at Hft
    rw [if_pos hC] at hR
    have hB : scB x = true := by
      cases hb : scB x with
      | true => rfl
      | false => rw [hb] at hC; unfold fitC at hC; simp at hC
    have hpn : np = n := by
      refine Classical.byContradiction fun he => ?_
      rw [hB] at hC
      unfold fitC at hC
      rw [if_pos rfl, if_neg he] at hC
      omega
    subst hpn
    have Hok := Lib.hid (scB_ok hB hi)
    have HR := Lib.hid (show ∀ s, s = sumL ((List.range np).map fun i => tgP x i (L.getD i (0, 0))) → ∀ W, Below w.heap.size w W → R (.returned (.tuple #[.int .i64 s, .int .i64 0])) W from fun s hs W g => hR.out _ _ ⟨by rw [hs], g⟩)
    clear h hp hR hC hB hi
    obtain ⟨co, me, ga, sf, cg⟩ := x
    have Htt := Lib.hid (fun y i j mt s g W (hb : Below w.heap.size w W) => tight_any A np c B m d G k e ⟨co, me, ga, sf, cg⟩ y i j mt s g W (H.out.below hb))
    unfold scA at Hft Htt ⊢
    dsimp only at Hft Htt ⊢
    go_enter Tryz.func7, Tryz.ntmps7
    go_upto_region 1 with fail
    have Hb1 := Lib.hid (below_new w (.cells #[.slice A np c, .slice B m d, .slice G k e, .int .i64 sf, .int .i64 cg] 26))
    have Hx1 := Lib.hid (heap_alloc_new w (.cells #[.slice A np c, .slice B m d, .slice G k e, .int .i64 sf, .int .i64 cg] 26))
    obtain ⟨w1, hw1⟩ : ∃ w1, w.alloc (.cells #[.slice A np c, .slice B m d, .slice G k e, .int .i64 sf, .int .i64 cg] 26) = w1 := ⟨_, rfl⟩
    rw [hw1] at Hb1 Hx1 ⊢
    clear hw1
    obtain ⟨u0, u1, u2, u3, u4, -⟩ := cells5 Hx1.out
    obtain ⟨bx, hbx⟩ : ∃ bx, w.heap.size = bx := ⟨_, rfl⟩
    rw [hbx] at Hx1 u0 u1 u2 u3 u4 ⊢
    clear hbx
    go_upto_region 4 with ((with_reducible refine (Hft.out _ Hb1.out).mono ?_); rintro e' w2 ⟨rfl, hb2⟩; have Hb2 := Lib.hid (Hb1.out.trans (hb2.mono Hb1.out.size)); have Hx2 := Lib.hid ((hb2.block _ (Array.getElem?_eq_some_iff.1 Hx1.out).1).trans Hx1.out); clear hb2)
    clear u0 u1 u2 u3 u4 Hft
    go_wp2_with fail
    go_loopw [7, 8, 9, 18] (fun s7 _ _ s18 wr => ∃ (t : Nat) (s : Int), s18 = .int .i64 (t : Nat) ∧ t ≤ np ∧ s7 = .int .i64 s ∧ 0 ≤ s ∧ s ≤ 4000000000000 * (t : Int) ∧ Hid (s = sumL ((List.range t).map fun i => tgP ⟨co, me, ga, sf, cg⟩ i (L.getD i (0, 0)))) ∧ Hid (Below w2.heap.size w2 wr)) (fun _ _ _ s18 _ => np - (intOf s18).toNat)
    case atStart => exact ⟨0, 0, rfl, Nat.zero_le _, rfl, by omega, by omega, Lib.hid rfl, Lib.hid (Below.refl _ _)⟩
    case round =>
      obtain ⟨t, s, rfl, ht, rfl, hs0, hs1, Hs, HW⟩ := hrel
      have Hx3 := Lib.hid ((HW.out.block _ (Array.getElem?_eq_some_iff.1 Hx2.out).1).trans Hx2.out)
      have hbl := (Array.getElem?_eq_some_iff.1 Hx3.out).1
      have Hb3 := Lib.hid (Hb2.out.trans (HW.out.mono Hb2.out.size))
      by_cases hlt : t < np
      · have i1 : (t : Int) < (np : Int) := by omega
        obtain ⟨pb, po, l, rfl, hpl, hl, c0, c1⟩ := (Hp.out.below Hb3.out).at2k hlt
        obtain ⟨r1, r2⟩ := hr l (List.mem_of_getElem? hl)
        have hl2 : L.getD t (0, 0) = l := by rw [List.getD_eq_getElem?_getD, hl]; rfl
        obtain ⟨b, o, y, rfl, hbl2, hy, q0, q1, q2, q3⟩ := (H.out.below Hb3.out).co.at4c (k := t) (by omega)
        obtain ⟨mt, ss, g, hpk⟩ := Hok.out.pk l.1 l.2 (by have := H.out.me.1; dsimp only at this ⊢; omega) (by have := H.out.ga.1; dsimp only at this ⊢; omega)
        have htg := tgP_eq hpk hy
        have hyo := Hok.out.co y (List.mem_of_getElem? hy)
        have hlt2 := pullN_lt (d := mt.D) (a := g) hpk.D.2 hpk.gr.2 hyo.L.2 hyo.F.2
        obtain ⟨v, hv⟩ : ∃ v : Nat, pullN mt.D g y.L y.F = v := ⟨_, rfl⟩
        have Hcall := Lib.hid (fun W (hb : Below w.heap.size w W) => Htt.out y l.1 l.2 mt ss g W hb hpk hyo)
        rw [hv] at Hcall htg hlt2
        unfold Crs.val pickV at Hcall
        obtain ⟨p1, p2⟩ := l
        dsimp only at c0 c1 r1 r2 Hcall
        have Hn := Lib.hid (show s + (v : Int) = sumL ((List.range (t + 1)).map fun i => tgP ⟨co, me, ga, sf, cg⟩ i (L.getD i (0, 0))) from by rw [sumL_range_succ, ← Hs.out, hl2, htg])
        have e5 : IntKind.i64.wrap (s + (v : Int)) = s + (v : Int) := IntWalk.i64_in _ (by omega)
        clear hl hl2 hv hpk hyo htg hy
        go_upto_region 8 with fail
        obtain ⟨wa, hwa⟩ : ∃ wa, wr.alloc (.cells #[.int .i64 (p1 : Nat), .int .i64 (p2 : Nat)] 47) = wa := ⟨_, rfl⟩
        have hba : Below wr.heap.size wr wa := by rw [← hwa]; exact below_new wr _
        have hxa : wa.heap[wr.heap.size]? = some (.cells #[.int .i64 (p1 : Nat), .int .i64 (p2 : Nat)] 47 (0, 0)) := by rw [← hwa]; exact heap_alloc_new wr _
        rw [hwa]
        obtain ⟨t0, t1, -⟩ := cells2 hxa
        have hll := (Array.getElem?_eq_some_iff.1 hxa).1
        have Hx4 := Lib.hid ((hba.block _ hbl).trans Hx3.out)
        have hbl4 := (Array.getElem?_eq_some_iff.1 Hx4.out).1
        have HW4 := Lib.hid (HW.out.trans (hba.mono HW.out.size))
        have Hb4 := Lib.hid (Hb3.out.trans (hba.mono Hb3.out.size))
        have q0 := (hba.cell hbl2).trans q0
        have q1 := (hba.cell hbl2).trans q1
        have q2 := (hba.cell hbl2).trans q2
        have q3 := (hba.cell hbl2).trans q3
        have hbl2 : b < wa.heap.size := Nat.lt_of_lt_of_le hbl2 hba.size
        obtain ⟨lb, hlb⟩ : ∃ lb, wr.heap.size = lb := ⟨_, rfl⟩
        rw [hlb] at t0 t1 hll ⊢
        obtain ⟨u0, u1, u2, u3, u4, -⟩ := cells5 Hx4.out
        clear hwa hba hxa hlb c0 c1 hpl hbl Hx3
        obtain ⟨ι, mk, hmk⟩ := cls_exW wa.heap.size wa
        have hd := hmk.drew
        have hnei := hmk.ne
        have u0 := fun x => ((hmk.below x).cell hbl4).trans u0
        have u1 := fun x => ((hmk.below x).cell hbl4).trans u1
        have u2 := fun x => ((hmk.below x).cell hbl4).trans u2
        have u3 := fun x => ((hmk.below x).cell hbl4).trans u3
        have u4 := fun x => ((hmk.below x).cell hbl4).trans u4
        have t0 := fun x => ((hmk.below x).cell hll).trans t0
        have t1 := fun x => ((hmk.below x).cell hll).trans t1
        have q0 := fun x => ((hmk.below x).cell hbl2).trans q0
        have q1 := fun x => ((hmk.below x).cell hbl2).trans q1
        have q2 := fun x => ((hmk.below x).cell hbl2).trans q2
        have q3 := fun x => ((hmk.below x).cell hbl2).trans q3
        have HC := Lib.hid (fun x => hmk.call (Hcall.out (mk x) (Hb4.out.trans ((hmk.below x).mono Hb4.out.size))))
        have Hbl := Lib.hid (fun x => hmk.below x)
        clear hmk
        refine wp_region_clsW (C := fun w' => ∃ x, w' = mk x) (by kernel_rfl) (by kernel_rfl) hd ?_
        repeat (go_big_quiet_step (with_reducible exact HC.out _))
        refine wpQuiet_nil ?_
        intro _ hw'
        obtain ⟨x, rfl⟩ := hw'
        have HW5 := Lib.hid (HW4.out.trans ((Hbl.out x).mono HW4.out.size))
        clear u0 u1 u2 u3 u4 t0 t1 q0 q1 q2 q3
        go_wp2_with fail
        exact ⟨⟨t + 1, s + v, by go_num, by omega, rfl, by omega, by omega, Hn, HW5⟩, by simp [intOf]; omega⟩
      · obtain rfl : np = t := by omega
        have i1 : ¬ (np : Int) < (np : Int) := by omega
        go_wp2_with fail
        exact HR.out s Hs.out _ Hb3.out
  · have HF := Lib.hid (fun W (hb : Below w.heap.size w W) => hR.out _ W ⟨by rw [if_neg hC], hb⟩)
    obtain ⟨cc, hcc⟩ : ∃ cc, fitC (scB x) np n = cc := ⟨_, rfl⟩
    rw [hcc] at hC Hft HF
    clear hR hcc h hp hi
    have hcb : (cc != 0) = true := by simpa using hC
    obtain ⟨co, me, ga, sf, cg⟩ := x
    unfold scA at Hft ⊢
    dsimp only at Hft ⊢
    go_enter Tryz.func7, Tryz.ntmps7
    go_upto_region 1 with fail
    have Hb1 := Lib.hid (below_new w (.cells #[.slice A n c, .slice B m d, .slice G k e, .int .i64 sf, .int .i64 cg] 26))
    obtain ⟨u0, u1, u2, u3, u4, -⟩ := cells5 (heap_alloc_new w (.cells #[.slice A n c, .slice B m d, .slice G k e, .int .i64 sf, .int .i64 cg] 26))
    go_wp2_with ((with_reducible refine (Hft.out _ Hb1.out).mono ?_); rintro e' w3 ⟨rfl, hb3⟩)
    exact HF.out _ (Hb1.out.trans (hb3.mono Hb1.out.size))
end
end
section
open Go.RowKit Go.Shelf Go.Lib Go.Sort
def itoaRen : Ren := ⟨fun k => if k = 171 then 24 else if k = 243 then 42 else if k = 246 then 74 else if k = 283 then 96 else if k = 284 then 97 else if k = 285 then 98 else if k = 286 then 99 else if k = 129 then 71 else if k = 317 then 111 else if k = 318 then 112 else if k = 319 then 113 else if k = 320 then 114 else if k = 337 then 115 else if k = 338 then 116 else k, fun k => if k = 3 then 3 else if k = 9 then 9 else if k = 2 then 2 else if k = 4 then 4 else if k = 171 then 150 else if k = 0 then 0 else if k = 53 then 31 else if k = 37 then 152 else if k = 5 then 5 else if k = 173 then 153 else if k = 212 then 164 else if k = 51 then 102 else if k = 20 then 20 else if k = 213 then 165 else if k = 46 then 93 else if k = 232 then 167 else if k = 233 then 168 else k, fun k => if k = 17 then 0 else if k = 18 then 1 else if k = 19 then 2 else k⟩
theorem itoaLays : LaysM.n171 Tryz.prog itoaRen := {
  mixed := by kernel_rfl
  f129 := by kernel_rfl
  f171 := by kernel_rfl
  f243 := by kernel_rfl
  f246 := by kernel_rfl
  f283 := by kernel_rfl
  f284 := by kernel_rfl
  f285 := by kernel_rfl
  f286 := by kernel_rfl
  f317 := by kernel_rfl
  f318 := by kernel_rfl
  f319 := by kernel_rfl
  f320 := by kernel_rfl
  f337 := by kernel_rfl
  f338 := by kernel_rfl
  t0 := by kernel_rfl
  a0 := fun _ => by kernel_rfl
  z0 := fun _ => by kernel_rfl
  v0 := fun _ => by kernel_rfl
  t2 := by kernel_rfl
  a2 := fun _ => by kernel_rfl
  z2 := fun _ => by kernel_rfl
  v2 := fun _ => by kernel_rfl
  t3 := by kernel_rfl
  a3 := fun _ => by kernel_rfl
  z3 := fun _ => by kernel_rfl
  v3 := fun _ => by kernel_rfl
  t4 := by kernel_rfl
  a4 := fun _ => by kernel_rfl
  z4 := fun _ => by kernel_rfl
  v4 := fun _ => by kernel_rfl
  t5 := by kernel_rfl
  a5 := fun _ => by kernel_rfl
  z5 := fun _ => by kernel_rfl
  v5 := fun _ => by kernel_rfl
  t9 := by kernel_rfl
  a9 := fun _ => by kernel_rfl
  z9 := fun _ => by kernel_rfl
  v9 := fun _ => by kernel_rfl
  t20 := by kernel_rfl
  a20 := fun _ => by kernel_rfl
  z20 := fun _ => by kernel_rfl
  v20 := fun _ => by kernel_rfl
  t37 := by kernel_rfl
  a37 := fun _ => by kernel_rfl
  z37 := fun _ => by kernel_rfl
  v37 := fun _ => by kernel_rfl
  t46 := by kernel_rfl
  a46 := fun _ => by kernel_rfl
  z46 := fun _ => by kernel_rfl
  v46 := fun _ => by kernel_rfl
  t51 := by kernel_rfl
  a51 := fun _ => by kernel_rfl
  z51 := fun _ => by kernel_rfl
  v51 := fun _ => by kernel_rfl
  t53 := by kernel_rfl
  a53 := fun _ => by kernel_rfl
  z53 := fun _ => by kernel_rfl
  v53 := fun _ => by kernel_rfl
  t171 := by kernel_rfl
  a171 := fun _ => by kernel_rfl
  z171 := fun _ => by kernel_rfl
  v171 := fun _ => by kernel_rfl
  t173 := by kernel_rfl
  a173 := fun _ => by kernel_rfl
  z173 := fun _ => by kernel_rfl
  v173 := fun _ => by kernel_rfl
  t212 := by kernel_rfl
  a212 := fun _ => by kernel_rfl
  z212 := fun _ => by kernel_rfl
  v212 := fun _ => by kernel_rfl
  t213 := by kernel_rfl
  a213 := fun _ => by kernel_rfl
  z213 := fun _ => by kernel_rfl
  t232 := by kernel_rfl
  a232 := fun _ => by kernel_rfl
  z232 := fun _ => by kernel_rfl
  v232 := fun _ => by kernel_rfl
  t233 := by kernel_rfl
  a233 := fun _ => by kernel_rfl
  z233 := fun _ => by kernel_rfl
  v233 := fun _ => by kernel_rfl
  g17 := by kernel_rfl
  g18 := by kernel_rfl
  g19 := by kernel_rfl
  i0 := by kernel_rfl
  i2 := by kernel_rfl
  i3 := by kernel_rfl
  i4 := by kernel_rfl
  i5 := by kernel_rfl
  i9 := by kernel_rfl
  i20 := by kernel_rfl
  i37 := by kernel_rfl
  i46 := by kernel_rfl
  i51 := by kernel_rfl
  i53 := by kernel_rfl
  i171 := by kernel_rfl
  i173 := by kernel_rfl
  i212 := by kernel_rfl
  i232 := by kernel_rfl
  i233 := by kernel_rfl
  m17 := by kernel_rfl
  m18 := by kernel_rfl
  m19 := by kernel_rfl
}
/-- The table of powers of ten reads as the library lays it, whatever is done from a block on. -/
def TabW (b : Nat) (w : World) : Prop := Lib.TabBelow Tryz.prog b w "internal/strconv.uint64pow10" .u64 Lib.pow10Tab
theorem TabW.on {b : Nat} {w w' : World} (h : TabW b w) (hb : Below b w w') : TabW b w' := Lib.TabBelow.on h hb
theorem below_grow2 {b : Nat} {w W : World} (h : Below b w W) (hb : b ≤ W.heap.size) (os : Array Obj) : Below b w (Sort.grow W os) :=
  ⟨h.os, h.tape, h.output, Nat.le_trans h.size (by simp [Sort.grow]), fun k hk => by
    rw [← h.block k hk]
    show (W.heap ++ os)[k]? = W.heap[k]?
    rw [Array.getElem?_append_left (Nat.lt_of_lt_of_le hk hb)]⟩
theorem itoa_any (n : Int) (w : World) (h0 : -9223372036854775808 ≤ n) (h1 : n ≤ 9223372036854775807) (b : Nat) (ht : TabW b w) :
    Calls Tryz.prog 24 #[.int .i64 n] w fun e w' => e = .returned (.string ⟨(Lib.itoa n).toArray⟩) ∧ Below w.heap.size w w' :=
  (Any.strconv_Itoa itoaLays n h0 h1 w ht.here).mono fun _ _ ⟨a, k, os, b⟩ => ⟨a, by subst b; exact below_grow2 (below_drewW (Below.refl _ _) k) (Nat.le_refl _) os⟩
end
end Go.Proofs.YtojbldoekalbnaaGreatDoor
