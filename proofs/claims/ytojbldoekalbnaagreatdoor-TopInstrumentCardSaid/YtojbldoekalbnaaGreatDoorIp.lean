/-
  Contract of wire.Best: no picks and an error, or picks that hold and cost what it says.
-/
import Derived.Test.YtojbldoekalbnaaGreatDoorID
namespace Go.Proofs.YtojbldoekalbnaaGreatDoor
section
open Go.RowKit
/-- What Best reads when the table is filled. -/
structure BsR (W : World) (bx sb tb : Nat) (A : Option Addr) (n c : Nat) (s1 s2 s3 : Value) (ch : Nat) (pa : Option Addr) (q pc c1 k : Nat) (V : Nat → Nat → Nat → Int) : Prop where
  box : W.heap[bx]? = some (.cells #[.slice A n c, s1, s2, s3, .int .i64 (ch : Nat)] 26 (0, 0))
  onr : ∀ i, i < n → ∃ rb, OnR W sb tb rb pa q pc n i c1 k (V i)
theorem BsR.below {W W' : World} {bx sb tb : Nat} {A : Option Addr} {n c : Nat} {s1 s2 s3 : Value} {ch : Nat} {pa : Option Addr} {q pc c1 k : Nat} {V : Nat → Nat → Nat → Int} (h : BsR W bx sb tb A n c s1 s2 s3 ch pa q pc c1 k V) (hb : Below W.heap.size W W') : BsR W' bx sb tb A n c s1 s2 s3 ch pa q pc c1 k V :=
  ⟨(hb.block _ (Array.getElem?_eq_some_iff.1 h.box).1).trans h.box, fun i hi => by
    obtain ⟨rb, h1⟩ := h.onr i hi
    exact ⟨rb, h1.below hb⟩⟩
theorem BsR.blt {W : World} {bx sb tb : Nat} {A : Option Addr} {n c : Nat} {s1 s2 s3 : Value} {ch : Nat} {pa : Option Addr} {q pc c1 k : Nat} {V : Nat → Nat → Nat → Int} (h : BsR W bx sb tb A n c s1 s2 s3 ch pa q pc c1 k V) : bx < W.heap.size := (Array.getElem?_eq_some_iff.1 h.box).1
theorem bsr_of {w W : World} {bx sb tb : Nat} {A : Option Addr} {n c : Nat} {s1 s2 s3 : Value} {ch : Nat} {pa : Option Addr} {q pc : Nat} {ra : Option Addr} {rc c1 k : Nat} {V : Nat → Nat → Nat → Int} {Tc : Array Value} (hS : FlS w W sb tb A n c s1 s2 s3 ch pa q pc ra rc) (hF : Fi W W.heap.size tb n Tc 0 q c1 V)
    (hp : SlE pkE 2 W pa q (pks k q)) (hbx : w.heap[bx]? = some (.cells #[.slice A n c, s1, s2, s3, .int .i64 (ch : Nat)] 26 (0, 0))) (hne : bx ≠ sb) : BsR W bx sb tb A n c s1 s2 s3 ch pa q pc c1 k V := by
  obtain ⟨v0, v1, v2, v3, v4, v5, v6, v7, vf⟩ := cells8 hS.sbx
  refine ⟨(hS.kx.block _ (Array.getElem?_eq_some_iff.1 hbx).1 hne).trans hbx, fun i hi => ?_⟩
  obtain ⟨rb', cs', a1, a2⟩ := hF.rows i (Nat.zero_le _) hi
  exact ⟨rb', v5, v7, hS.slt, hF.lt, a2.lt, hp, hF.cell a1, fun t ht => by
    obtain ⟨cb', b1, b2, b3, b4⟩ := a2.rows t ht
    exact ⟨cb', b4.lt, a2.cell b1, fun l hl => b4.read hl⟩⟩
/-- What Best answers. -/
def BestO (x : Sc) (m k : Nat) (e : Ending) (W : World) : Prop :=
  (scB x = false ∧ e = .returned (.tuple #[.slice none 0 0, .int .i64 0, .int .i64 1])) ∨ (scB x = true ∧ e = .returned (.tuple #[.slice none 0 0, .int .i64 0, .int .i64 6])) ∨
    (scB x = true ∧ ∃ (g : Nat → Nat) (A : Option Addr) (c : Nat), e = .returned (.tuple #[.slice A x.co.length c, .int .i64 (sumL ((List.range x.co.length).map fun i => prN x k i (g i))), .int .i64 0]) ∧
      SlE pkE 2 W A x.co.length ((List.range x.co.length).map fun i => (g i / k, g i % k)) ∧ ∀ i, i < x.co.length → g i < m * k ∧ prN x k i (g i) ≠ -1)
theorem stF_next {V : Nat → Nat → Nat → Int} {k q p0 l0 j p l y L : Nat} {x : Int} (h : stF V k q p0 l0 j = (p, l)) (hr : onF (V (j + 1)) k p l q = (x, y)) (hL : leftF p l y = (L : Int)) : stF V k q p0 l0 (j + 1) = (y, L) := by
  rw [stF, h]
  dsimp only
  rw [hr]
  dsimp only
  rw [hL, Int.toNat_natCast]
/-- The picks so far. -/
def outL (V : Nat → Nat → Nat → Int) (k q p0 l0 j : Nat) : List Value := ((List.range (j + 1)).map fun j => ((stF V k q p0 l0 j).1 / k, (stF V k q p0 l0 j).1 % k)).flatMap pkE
theorem stF_one (V : Nat → Nat → Nat → Int) (k q p0 l0 : Nat) : outL V k q p0 l0 0 = [.int .i64 (p0 / k : Nat), .int .i64 (p0 % k : Nat)] := rfl
theorem stF_more {V : Nat → Nat → Nat → Int} {k q p0 l0 j y L a b : Nat} (h : stF V k q p0 l0 (j + 1) = (y, L)) (ha : y / k = a) (hb : y % k = b) :
    outL V k q p0 l0 j ++ [.int .i64 (a : Nat), .int .i64 (b : Nat)] = outL V k q p0 l0 (j + 1) := by
  unfold outL
  rw [List.range_succ (n := j + 1), List.map_append, List.map_singleton, h, pk_flat, ← ha, ← hb]
set_option maxRecDepth 16000 in
set_option maxHeartbeats 8000000 in
theorem wbest_any (A : Option Addr) (n c : Nat) (B : Option Addr) (m d : Nat) (G : Option Addr) (k e : Nat) (x : Sc) (w : World) (h : ScM w A n c B m d G k e x) (hr : ∀ y ∈ x.co, InR y.T ∧ InR y.W) :
    Calls Tryz.prog 6 #[.agg (scA A n c B m d G k e x)] w fun e' w' => BestO x m k e' w' ∧ Below w.heap.size w w' := by
  refine calls_cps ?_
  intro R hR
  have H := Lib.hid h
  have Hck := Lib.hid (fun W (hb : Below w.heap.size w W) => wcheck_any A n c B m d G k e x W (h.below hb))
  cases hB : scB x with
  | false =>
    rw [hB] at Hck
    have HF := Lib.hid (fun W (hb : Below w.heap.size w W) => hR.out _ W ⟨.inl ⟨hB, rfl⟩, hb⟩)
    clear hR h hB hr
    obtain ⟨co, me, ga, sf, cg⟩ := x
    unfold scA at Hck ⊢
    dsimp only at Hck ⊢
    go_enter Tryz.func6, Tryz.ntmps6
    go_upto_region 1 with fail
    have Hb1 := Lib.hid (below_new w (.cells #[.slice A n c, .slice B m d, .slice G k e, .int .i64 sf, .int .i64 cg] 26))
    obtain ⟨u0, u1, u2, u3, u4, -⟩ := cells5 (heap_alloc_new w (.cells #[.slice A n c, .slice B m d, .slice G k e, .int .i64 sf, .int .i64 cg] 26))
    go_wp2_with ((with_reducible refine (Hck.out _ Hb1.out).mono ?_); rintro e' w3 ⟨rfl, hb3⟩)
    refine bodyPost_ret (v := .tuple #[.slice none 0 0, .int .i64 0, .int .i64 1]) ?_ rfl (HF.out _ (Hb1.out.trans (hb3.mono Hb1.out.size)))
    simp [results, Tryz.results6, go_sem]
  | true =>
    have hok := scB_ok hB hr
    have hnl := H.out.co.1
    have hml := H.out.me.1
    have hkl := H.out.ga.1
    have Hok := Lib.hid hok
    have hn1 := hok.n
    have hm1 := hok.m
    have hk1 := hok.k
    have hc1 := hok.ch
    rw [← hnl] at hn1
    rw [← hml] at hm1
    rw [← hkl] at hk1
    rw [hB] at Hck
    have HB := Lib.hid hB
    have Hlk := Lib.hid (fun W (hb : Below w.heap.size w W) => look_any A n c B m d G k e x W (h.below hb) (by omega) (by omega) (by omega) hok)
    have Hpn := Lib.hid (fun i p (hi : i < n) (hp : p < m * k) => prN_rng hok (i := i) (p := p) (by rw [← hnl]; exact hi) (by rw [← hml, ← hkl]; exact hp))
    rw [← hkl] at Hpn
    have HNL := Lib.hid hnl
    clear h hB hr hok hml hkl hnl
    obtain ⟨co, me, ga, sf, cg⟩ := x
    unfold scA at Hck Hlk ⊢
    dsimp only at Hck Hlk hc1 HNL ⊢
    obtain ⟨ch, rfl⟩ : ∃ ch : Nat, cg = (ch : Int) := ⟨cg.toNat, by omega⟩
    go_enter Tryz.func6, Tryz.ntmps6
    go_upto_region 1 with fail
    have Hb1 := Lib.hid (below_new w (.cells #[.slice A n c, .slice B m d, .slice G k e, .int .i64 sf, .int .i64 (ch : Nat)] 26))
    have Hx1 := Lib.hid (heap_alloc_new w (.cells #[.slice A n c, .slice B m d, .slice G k e, .int .i64 sf, .int .i64 (ch : Nat)] 26))
    obtain ⟨w1, hw1⟩ : ∃ w1, w.alloc (.cells #[.slice A n c, .slice B m d, .slice G k e, .int .i64 sf, .int .i64 (ch : Nat)] 26) = w1 := ⟨_, rfl⟩
    rw [hw1] at Hb1 Hx1 ⊢
    clear hw1
    obtain ⟨u0, u1, u2, u3, u4, -⟩ := cells5 Hx1.out
    obtain ⟨bx, hbx⟩ : ∃ bx, w.heap.size = bx := ⟨_, rfl⟩
    have Hbx := Lib.hid hbx
    rw [hbx] at Hx1 u0 u1 u2 u3 u4 ⊢
    clear hbx
    go_upto_region 4 with ((with_reducible refine (Hck.out _ Hb1.out).mono ?_); rintro e' w2 ⟨rfl, hb2⟩; have Hb2 := Lib.hid (Hb1.out.trans (hb2.mono Hb1.out.size)); have Hx2 := Lib.hid ((hb2.block _ (Array.getElem?_eq_some_iff.1 Hx1.out).1).trans Hx1.out); clear hb2)
    clear u0 u1 u2 u3 u4
    obtain ⟨u0, u1, u2, u3, u4, -⟩ := cells5 Hx2.out
    go_upto_region 5 with ((with_reducible refine (Hlk.out w2 Hb2.out).mono ?_); rintro e' w3 ⟨pa, pc, ra, rc, outer, rfl, hlk⟩; have HL := Lib.hid hlk; clear hlk)
    clear u0 u1 u2 u3 u4 Hck Hlk
    obtain ⟨q, hq⟩ : ∃ q, m * k = q := ⟨_, rfl⟩
    have hq1 : 0 < m * k := Nat.mul_pos (by omega) (by omega)
    have hq64 : q ≤ 64 := by have := Nat.mul_le_mul (show m ≤ 4 by omega) (show k ≤ 16 by omega); omega
    have Hpr := Lib.hid (fun W (hk : Kx (fun j => j = w2.heap.size + 1) w3 W) => lkp_pr HL.out rfl hk hq1)
    have Hpk := Lib.hid (fun W (hk : Kx (fun j => j = w2.heap.size + 1) w3 W) => SlE.of_own (own_of_kxW HL.out.pk hk (fun j hj e => by omega)) (pks_len k (m * k)).symm)
    have hsb3 := HL.out.sb
    dsimp only at hsb3
    have Hx3 := Lib.hid ((HL.out.hb.block _ (Array.getElem?_eq_some_iff.1 Hx2.out).1).trans Hx2.out)
    have Hb3 := Lib.hid (Hb2.out.trans (HL.out.hb.mono Hb2.out.size))
    have hbl := (Array.getElem?_eq_some_iff.1 Hx2.out).1
    have Hlo := Lib.hid (show w.heap.size ≤ w2.heap.size + 1 from Nat.le_succ_of_le Hb2.out.size)
    obtain ⟨sb, hsb⟩ : ∃ sb, w2.heap.size + 1 = sb := ⟨_, rfl⟩
    have hbs : bx ≠ sb := by omega
    rw [hq] at Hpr Hpk hsb3 Hpn hq1
    rw [hsb] at Hpr Hpk hsb3 Hlo ⊢
    have Hq := Lib.hid hq
    have Hfl := Lib.hid (wfill_any sb A n c (.slice B m d) (.slice G k e) (.int .i64 sf) (.slice none 0 0) ch pa q pc ra rc k (prN ⟨co, me, ga, sf, (ch : Int)⟩ k) w3 hsb3 Hpk.out Hpr.out Hpn.out (by omega) (by omega) hq64 (by omega))
    clear hsb3 hsb hbl hq Hpr HL Hx2 Hb2 Hb1 Hx1
    go_upto_region 6 with ((with_reducible refine Hfl.out.mono ?_); rintro e' w4 ⟨rfl, tb, Tc, hS, hF⟩; have HR4 := Lib.hid (bsr_of hS hF (Hpk.out w4 hS.kx) Hx3.out hbs); have Hb4 := Lib.hid (Kx.low Hb3.out hS.kx (fun j hj => by rw [hj]; exact Hlo.out) Hb3.out.size); clear hS hF)
    clear Hfl Hpk Hx3 Hb3 Hlo
    obtain ⟨V, hV⟩ : ∃ V, (fun i => vF (prN ⟨co, me, ga, sf, (ch : Int)⟩ k) k q n (n - 1 - i)) = V := ⟨_, rfl⟩
    rw [hV] at HR4
    have HV := Lib.hid hV
    clear hV Hbx
    obtain ⟨c1, hc1'⟩ : ∃ c1, ch + 1 = c1 := ⟨_, rfl⟩
    rw [hc1'] at HR4
    obtain ⟨rb0, ho⟩ := HR4.out.onr 0 (by omega)
    have o5 := ho.c5
    have os := ho.lsb
    clear ho
    go_wp2_with fail
    clear o5 os
    go_loopw [7, 8, 9, 10, 30] (fun s7 s8 _ _ s30 wr => ∃ (t : Nat) (r : Int × Nat), s30 = .int .i64 (t : Nat) ∧ t ≤ q ∧ s7 = .int .i64 r.1 ∧ s8 = .int .i64 (r.2 : Nat) ∧ Hid (r = beF (V 0) ch t) ∧ Hid (Below w4.heap.size w4 wr)) (fun _ _ _ _ s30 _ => q - (intOf s30).toNat)
    case atStart => exact ⟨0, (-1, 0), rfl, Nat.zero_le _, rfl, rfl, Lib.hid rfl, Lib.hid (Below.refl _ _)⟩
    case round =>
      obtain ⟨t, ⟨x, y⟩, rfl, ht, rfl, rfl, Hx, HW⟩ := hrel
      by_cases hlt : t < q
      · have i1 : (t : Int) < (q : Int) := by omega
        have HRw := Lib.hid (HR4.out.below HW.out)
        have hblt := HRw.out.blt
        obtain ⟨u0, u1, u2, u3, u4, -⟩ := cells5 HRw.out.box
        obtain ⟨rb, o5, o7, os, ot, orr, -, oc, oro⟩ := HRw.out.onr 0 (by omega)
        obtain ⟨cb, v1, v2, v3⟩ := oro t hlt
        have v4 := v3 ch (by omega)
        obtain ⟨cc, hcc⟩ : ∃ cc, V 0 t ch = cc := ⟨_, rfl⟩
        rw [hcc] at v4
        have Hcc := Lib.hid hcc
        have Hx1 := Lib.hid (show (beF (V 0) ch t).1 = x from by rw [← Hx.out])
        clear oro v3 hcc
        have i3 : (ch : Int) < (c1 : Int) := by omega
        have i4 : (0 : Int) < (n : Int) := by omega
        go_upto_region 10 with fail
        go_quiet (fail)
        go_upto_region 11 with fail
        have HW2 := Lib.hid (fun j => below_drewW HW.out j)
        clear u0 u1 u2 u3 u4 o5 o7 os ot orr oc v1 v2 v4
        by_cases h1 : cc = -1
        · have Hn := Lib.hid (Hx.out.trans (beF_no (f := V 0) (l := ch) (t := t) (fun hh => hh.1 (by rw [Hcc.out]; exact h1))).symm)
          go_wp2_with fail
          exact ⟨⟨t + 1, (x, y), by go_num, by omega, rfl, rfl, Hn, Lib.hid (HW2.out _)⟩, by simp [intOf]; omega⟩
        · have h1b : (cc != -1) = true := by simpa using h1
          by_cases h2 : x = -1
          · have Hn := Lib.hid (show (cc, t) = beF (V 0) ch (t + 1) from by rw [beF_yes ⟨by rw [Hcc.out]; exact h1, .inl (by rw [Hx1.out]; exact h2)⟩, Hcc.out])
            go_wp2_with fail
            exact ⟨⟨t + 1, (cc, t), by go_num, by omega, rfl, rfl, Hn, Lib.hid (HW2.out _)⟩, by simp [intOf]; omega⟩
          · have h2b : (x == -1) = false := by simpa using h2
            by_cases h3 : cc < x
            · have Hn := Lib.hid (show (cc, t) = beF (V 0) ch (t + 1) from by rw [beF_yes ⟨by rw [Hcc.out]; exact h1, .inr (by rw [Hx1.out, Hcc.out]; exact h3)⟩, Hcc.out])
              go_wp2_with fail
              exact ⟨⟨t + 1, (cc, t), by go_num, by omega, rfl, rfl, Hn, Lib.hid (HW2.out _)⟩, by simp [intOf]; omega⟩
            · have Hn := Lib.hid (Hx.out.trans (beF_no (f := V 0) (l := ch) (t := t) (fun hh => hh.2.elim (fun h => h2 (by rw [← Hx1.out]; exact h)) (fun h => h3 (by rw [Hx1.out, Hcc.out] at h; exact h)))).symm)
              have h5 : decide (cc < x) = false := decide_eq_false h3
              clear h3
              go_wp2_with fail
              exact ⟨⟨t + 1, (x, y), by go_num, by omega, rfl, rfl, Hn, Lib.hid (HW2.out _)⟩, by simp [intOf]; omega⟩
      · obtain rfl : q = t := by omega
        have i1 : ¬ (q : Int) < (q : Int) := by omega
        have HR5 := Lib.hid (HR4.out.below HW.out)
        have Hb5 := Lib.hid (Hb4.out.trans (HW.out.mono Hb4.out.size))
        obtain ⟨w5, rfl⟩ : ∃ w5, w5 = wr := ⟨_, rfl⟩
        clear HR4 Hb4 HW
        by_cases h1 : x = -1
        · subst h1
          go_wp2_with fail
          refine bodyPost_ret (v := .tuple #[.slice none 0 0, .int .i64 0, .int .i64 6]) ?_ rfl (hR.out _ _ ⟨.inr (.inl ⟨HB.out, rfl⟩), Hb5.out⟩)
          simp [results, Tryz.results6, go_sem]
        · have h1b : (x == -1) = false := by simpa using h1
          obtain ⟨hy, hv0⟩ := beF_ok (V 0) ch q (by rw [← Hx.out]; exact h1)
          rw [← Hx.out] at hy hv0
          dsimp only at hy hv0
          have hne : vF (prN ⟨co, me, ga, sf, (ch : Int)⟩ k) k q n (n - 1) y ch ≠ -1 := by
            have e : vF (prN ⟨co, me, ga, sf, (ch : Int)⟩ k) k q n (n - 1) y ch = V 0 y ch := by rw [← HV.out]; rfl
            rw [e, hv0]; exact h1
          have Hst := Lib.hid (stF_ok hy (by omega) hne)
          have Hsum := Lib.hid (stF_sum hy (by omega) hne)
          have Hxs := Lib.hid (show x = vF (prN ⟨co, me, ga, sf, (ch : Int)⟩ k) k q n (n - 1) y ch from by rw [← hv0, ← HV.out]; rfl)
          rw [HV.out] at Hst Hsum
          clear hne hv0 Hx
          obtain ⟨rb, ho⟩ := HR5.out.onr 0 (by omega)
          obtain ⟨pb, po, pl, hpa, hpl, hpg, c0, c1'⟩ := ho.pk.at2k hy
          obtain rfl := Option.some.inj ((pks_get hy).symm.trans hpg)
          dsimp only at c0 c1'
          have o5 := ho.c5
          rw [hpa] at o5
          have os := ho.lsb
          have H1 := stF_one V k q y ch
          obtain ⟨a0, ha0⟩ : ∃ a, y / k = a := ⟨_, rfl⟩
          obtain ⟨b0, hb0⟩ : ∃ b, y % k = b := ⟨_, rfl⟩
          rw [ha0] at c0 H1
          rw [hb0] at c1' H1
          have j5 : (y : Int) < (q : Int) := by omega
          have ho0 : (w5.alloc (.cells #[.int .i64 (a0 : Nat), .int .i64 (b0 : Nat)] 47)).ownsRow w5.heap.size 47 2 (.slice (some ⟨w5.heap.size, 0, none⟩) (0 + 1) 1) (0 + 1) (outL V k q y ch 0) := by
            rw [H1]
            exact own_at (sz := 2) (n := 1) (heap_alloc_new w5 (.cells #[.int .i64 (a0 : Nat), .int .i64 (b0 : Nat)] 47)) rfl (Nat.le_refl _) (by unfold maxLen; omega)
          have HO := Lib.hid ho0
          have HW := Lib.hid (below_new w5 (.cells #[.int .i64 (a0 : Nat), .int .i64 (b0 : Nat)] 47))
          clear ho hpg ha0 hb0 H1 ho0
          go_upto_region 17 with fail
          clear c0 c1' o5 os j5 hpl hpa
          obtain ⟨w6, hw6⟩ : ∃ w6, w5.alloc (.cells #[.int .i64 (a0 : Nat), .int .i64 (b0 : Nat)] 47) = w6 := ⟨_, rfl⟩
          rw [hw6] at HO HW ⊢
          clear hw6
          have HR6 := Lib.hid (HR5.out.below HW.out)
          have hblt := HR6.out.blt
          obtain ⟨u0, u1, u2, u3, u4, -⟩ := cells5 HR6.out.box
          go_wp2_with fail
          clear u0 u1 u2 u3 u4 hblt HR6
          go_loopw [8, 11, 12, 13, 14, 15] (fun s8 s11 s12 s13 _ _ wr => ∃ (j p l : Nat) (z : Int) (oa : Option Addr) (oc : Nat), s13 = .int .i64 z ∧ z = (j : Int) + 1 ∧ j < n ∧ s8 = .int .i64 (p : Nat) ∧ s12 = .int .i64 (l : Nat) ∧ s11 = .slice oa (j + 1) oc ∧ Hid (stF V k q y ch j = (p, l)) ∧
            Hid (wr.ownsRow w5.heap.size 47 2 (.slice oa (j + 1) oc) (j + 1) (outL V k q y ch j)) ∧ Hid (Below w5.heap.size w5 wr)) (fun _ _ _ s13 _ _ _ => n - (intOf s13).toNat)
          case atStart => exact ⟨0, y, ch, 1, _, _, rfl, rfl, by omega, rfl, rfl, rfl, Lib.hid rfl, HO, HW⟩
          case round =>
            clear HO HW
            obtain ⟨j, p, l, z, oa, oc, rfl, hz, hj, rfl, rfl, rfl, Hs, HO, HW⟩ := hrel
            have HRw := Lib.hid (HR5.out.below HW.out)
            have hblt := HRw.out.blt
            obtain ⟨u0, u1, u2, u3, u4, -⟩ := cells5 HRw.out.box
            by_cases hlt2 : z < n
            · have hj2 : j + 1 < n := by omega
              have hz1 : z - 1 = (j : Int) := by omega
              obtain ⟨rb', hon⟩ := HRw.out.onr (j + 1) hj2
              obtain ⟨s1, s2, -, -, s5, -⟩ := Hst.out j hj
              have e1 : (stF V k q y ch j).1 = p := by rw [Hs.out]
              have e2 : (stF V k q y ch j).2 = l := by rw [Hs.out]
              rw [e1] at s1 s5
              rw [e2] at s2 s5
              have s6 := s5 hj2
              obtain ⟨r, hr⟩ : ∃ r, onF (V (j + 1)) k p l q = r := ⟨_, rfl⟩
              have hV1 : vF (prN ⟨co, me, ga, sf, (ch : Int)⟩ k) k q n (n - 1 - (j + 1)) = V (j + 1) := by rw [← HV.out]
              rw [hV1] at s6
              obtain ⟨b1, b2, -⟩ := onF_ok _ k p l q s6
              rw [hr] at b1 b2
              have Hon := Lib.hid (onward_any sb tb rb' pa q pc n c1 k (V (j + 1)) j p l wr hon hj2 (by omega) s1 (by omega) (by omega) (by omega))
              rw [hr] at Hon
              obtain ⟨x1, y1⟩ := r
              dsimp only at Hon b1 b2
              have hy1 := b1
              have hl96 : l ≤ 96 := by omega
              have Hr := Lib.hid hr
              clear hon s1 s2 s5 s6 e1 e2 hr hV1 b1
              go_upto_region 22 with ((with_reducible refine Hon.out.mono ?_); rintro e' w6 ⟨rfl, hb6⟩; have HW6 := Lib.hid (HW.out.trans (hb6.mono HW.out.size)); have HO6 := Lib.hid (ownsRow_below HO.out hb6); clear hb6)
              clear u0 u1 u2 u3 u4 hblt HRw
              obtain ⟨rb3, ho3⟩ := (HR5.out.below HW6.out).onr 0 (by omega)
              by_cases hyp : y1 = p
              · have hL := leftF_eq (a := p) (l := l) hyp
                have Hnx := Lib.hid (show stF V k q y ch (j + 1) = (p, l) from by have h := stF_next Hs.out Hr.out hL; rwa [hyp] at h)
                have hypi : (y1 : Int) = (p : Int) := by omega
                have hp1 : p < q := by omega
                clear hL b2
                obtain ⟨pb, po, pl, hpa, hpl, hpg, c0, c1'⟩ := ho3.pk.at2k hp1
                obtain rfl := Option.some.inj ((pks_get hp1).symm.trans hpg)
                dsimp only at c0 c1'
                have o5 := ho3.c5
                rw [hpa] at o5
                have os := ho3.lsb
                obtain ⟨a0, ha0⟩ : ∃ a, p / k = a := ⟨_, rfl⟩
                obtain ⟨b0, hb0⟩ : ∃ b, p % k = b := ⟨_, rfl⟩
                have Hmore := Lib.hid (stF_more Hnx.out ha0 hb0)
                rw [ha0] at c0
                rw [hb0] at c1'
                have j5 : (p : Int) < (q : Int) := by omega
                have hbase : w5.heap.size ≤ w6.heap.size := HW6.out.size
                clear ho3 hpg ha0 hb0
                go_wp2_with (at_builtin; refine wpList_app rfl (.tmp 94) (.tmp 102) _ rfl elemPick w5.heap.size _ _ _ rfl (HO6.out.kept (World.grownBy_alloc w6 _ none) (by cases (Value.slice oa (j + 1) oc).ownBlock <;> simp)) _ _ _ _ rfl (Sl.new _ _ _ 2 1 rfl) (by simp [Value.oneCell']) (by unfold maxLen; omega) (by omega) (by simp; omega) ?_; intro A1 c1'' w7 ho7 hg7 _)
                have HW7 := Lib.hid (Kx.low HW6.out (own_kxW HO6.out hg7) (fun j h => h) hbase)
                have HO7 := Lib.hid (show w7.ownsRow w5.heap.size 47 2 (.slice A1 (j + 1 + 1) c1'') (j + 1 + 1) (outL V k q y ch (j + 1)) from by rw [← Hmore.out]; exact ho7)
                clear ho7 hg7
                first | exact ⟨⟨j + 1, p, l, z + 1, A1, c1'', by go_num, by omega, by omega, rfl, rfl, rfl, Hnx, HO7, HW7⟩, by simp [intOf]; omega⟩ | exact ⟨⟨_, _, _, _, ⟨j + 1, p, l, (j : Int) + 1 + 1, rfl, by omega, by omega, rfl, rfl, A1, c1'', rfl, Hnx, HO7, HW7⟩, rfl, rfl, rfl, rfl⟩, by simp [intOf]; omega⟩
              · have hL := leftF_ne (a := p) (l := l) hyp
                rw [hL] at b2
                obtain ⟨l2, hl2⟩ : ∃ l2 : Nat, (l : Int) - 1 = (l2 : Int) := ⟨l - 1, by omega⟩
                have Hnx := Lib.hid (stF_next Hs.out Hr.out (hL.trans hl2))
                have hypi : ¬ (y1 : Int) = (p : Int) := by omega
                have hl97 : l2 ≤ 96 := by omega
                clear hL b2
                obtain ⟨pb, po, pl, hpa, hpl, hpg, c0, c1'⟩ := ho3.pk.at2k hy1
                obtain rfl := Option.some.inj ((pks_get hy1).symm.trans hpg)
                dsimp only at c0 c1'
                have o5 := ho3.c5
                rw [hpa] at o5
                have os := ho3.lsb
                obtain ⟨a0, ha0⟩ : ∃ a, y1 / k = a := ⟨_, rfl⟩
                obtain ⟨b0, hb0⟩ : ∃ b, y1 % k = b := ⟨_, rfl⟩
                have Hmore := Lib.hid (stF_more Hnx.out ha0 hb0)
                rw [ha0] at c0
                rw [hb0] at c1'
                have j5 : (y1 : Int) < (q : Int) := by omega
                have hbase : w5.heap.size ≤ w6.heap.size := HW6.out.size
                clear ho3 hpg ha0 hb0
                go_wp2_with (at_builtin; refine wpList_app rfl (.tmp 94) (.tmp 102) _ rfl elemPick w5.heap.size _ _ _ rfl (HO6.out.kept (World.grownBy_alloc w6 _ none) (by cases (Value.slice oa (j + 1) oc).ownBlock <;> simp)) _ _ _ _ rfl (Sl.new _ _ _ 2 1 rfl) (by simp [Value.oneCell']) (by unfold maxLen; omega) (by omega) (by simp; omega) ?_; intro A1 c1'' w7 ho7 hg7 _)
                have HW7 := Lib.hid (Kx.low HW6.out (own_kxW HO6.out hg7) (fun j h => h) hbase)
                have HO7 := Lib.hid (show w7.ownsRow w5.heap.size 47 2 (.slice A1 (j + 1 + 1) c1'') (j + 1 + 1) (outL V k q y ch (j + 1)) from by rw [← Hmore.out]; exact ho7)
                clear ho7 hg7
                first | exact ⟨⟨j + 1, y1, l2, z + 1, A1, c1'', by go_num, by omega, by omega, rfl, rfl, rfl, Hnx, HO7, HW7⟩, by simp [intOf]; omega⟩ | exact ⟨⟨_, _, _, _, ⟨j + 1, y1, l2, (j : Int) + 1 + 1, rfl, by omega, by omega, rfl, rfl, A1, c1'', rfl, Hnx, HO7, HW7⟩, rfl, rfl, rfl, rfl⟩, by simp [intOf]; omega⟩
            · obtain rfl : n = j + 1 := by omega
              go_wp2_with fail
              have hres := hR.out (.returned (.tuple #[.slice oa (j + 1) oc, .int .i64 x, .int .i64 0])) wr ⟨.inr (.inr ⟨HB.out, fun j => (stF V k q y ch j).1, oa, oc, by rw [Hxs.out, Hsum.out, ← HNL.out], by dsimp only; rw [← HNL.out]; exact SlE.of_own (show wr.ownsRow w5.heap.size 47 2 (.slice oa (j + 1) oc) (j + 1) (((List.range (j + 1)).map fun j => ((stF V k q y ch j).1 / k, (stF V k q y ch j).1 % k)).flatMap pkE) from HO.out) (by simp), fun i hi => by
                dsimp only at hi ⊢
                rw [← HNL.out] at hi
                obtain ⟨s1, s2, s3, s4, -⟩ := Hst.out i hi
                exact ⟨by rw [Hq.out]; exact s1, s4⟩⟩), Hb5.out.trans (HW.out.mono Hb5.out.size)⟩
              refine bodyPost_ret (v := .tuple #[.slice oa (j + 1) oc, .int .i64 x, .int .i64 0]) ?_ rfl hres
              simp [results, Tryz.results6, go_sem]
end
end Go.Proofs.YtojbldoekalbnaaGreatDoor
