/-
  Contract of wire.Needs: as much wire as the strings and their tails take.
-/
import Derived.Test.YtojbldoekalbnaaGreatDoorIE
import Derived.Lib.ItoaLen
namespace Go.Proofs.YtojbldoekalbnaaGreatDoor
section
open Go.RowKit
theorem sumL_add (f g : Nat → Int) (l : List Nat) : sumL (l.map fun t => f t + g t) = sumL (l.map f) + sumL (l.map g) := by
  induction l with
  | nil => simp [sumL]
  | cons a l ih => rw [List.map_cons, List.map_cons, List.map_cons, sumL_cons, sumL_cons, sumL_cons, ih]; omega
theorem sumL_zero (l : List Nat) : sumL (l.map fun _ => (0 : Int)) = 0 := by
  induction l with
  | nil => rfl
  | cons a l ih => rw [List.map_cons, sumL_cons, ih]; rfl
theorem sumL_one (c : Nat) (v : Int) : ∀ q, sumL ((List.range q).map fun t => if c = t then v else 0) = if c < q then v else 0
  | 0 => by simp [sumL]
  | q + 1 => by
    rw [sumL_range_succ, sumL_one c v q]
    by_cases h1 : c < q
    · rw [if_pos h1, if_neg (by omega), if_pos (by omega)]; omega
    · rw [if_neg h1]
      by_cases h2 : c = q
      · rw [if_pos h2, if_pos (by omega)]; omega
      · rw [if_neg h2, if_neg (by omega)]; rfl
/-- Each string is counted once. -/
theorem sumL_once (g : Nat → Nat) (v : Nat → Int) (q : Nat) : ∀ n, (∀ i, i < n → g i < q) → sumL ((List.range q).map fun t => sumL ((List.range n).map fun i => if g i = t then v i else 0)) = sumL ((List.range n).map v)
  | 0, _ => by
    show sumL ((List.range q).map fun _ => (0 : Int)) = 0
    exact sumL_zero _
  | n + 1, h => by
    have e : (fun t => sumL ((List.range (n + 1)).map fun i => if g i = t then v i else 0)) = fun t => sumL ((List.range n).map fun i => if g i = t then v i else 0) + (if g n = t then v n else 0) := by
      funext t; exact sumL_range_succ _ _
    rw [e, sumL_add, sumL_once g v q n (fun i hi => h i (by omega)), sumL_one, if_pos (h n (by omega)), sumL_range_succ]
theorem code_eq {k a b t : Nat} (hb : b < k) : (a = t / k ∧ b = t % k) ↔ a * k + b = t := by
  constructor
  · rintro ⟨rfl, rfl⟩
    rw [Nat.mul_comm]
    exact Nat.div_add_mod t k
  · rintro rfl
    rw [Nat.mul_comm, Nat.mul_add_div (by omega), Nat.mul_add_mod, Nat.div_eq_of_lt hb, Nat.mod_eq_of_lt hb]
    exact ⟨rfl, rfl⟩
def ltE (p : ByteArray × Int) : List Value := [.string ⟨#[119, 105, 114, 101]⟩, .string p.1, .int .i64 p.2]
theorem ltE_len (p : ByteArray × Int) : (ltE p).length = 3 := rfl
theorem SlE.at3q {w : World} {A : Option Addr} {n k : Nat} {L : List (ByteArray × Int)} (h : SlE ltE 3 w A n L) (hk : k < n) :
    ∃ b o l, A = some ⟨b, o, none⟩ ∧ b < w.heap.size ∧ L[k]? = some l ∧ w.cell? ⟨b, o + k * 3 + 2, none⟩ = some (.int .i64 l.2) := by
  obtain ⟨b, o, x, hA, hb, hx, hc⟩ := h.at_ ltE_len hk
  exact ⟨b, o, x, hA, hb, hx, by simpa [Nat.add_assoc] using hc 2 _ rfl⟩
theorem lt_snoc (lots : List (ByteArray × Int)) (it : ByteArray) (s : Int) : (lots ++ [(it, s)]).flatMap ltE = lots.flatMap ltE ++ [.string ⟨#[119, 105, 114, 101]⟩, .string it, .int .i64 s] := by simp [ltE]
/-- What the strings of a pick take. -/
def cntF (x : Sc) (L : List (Nat × Nat)) (k tail t u : Nat) : Int := sumL ((List.range u).map fun i => if (L.getD i (0, 0)).1 * k + (L.getD i (0, 0)).2 = t then (x.co.getD i ⟨0, 0, 0, 0⟩).L + (tail : Int) else 0)
theorem cntF_all {x : Sc} {L : List (Nat × Nat)} {k m tail n : Nat} (h : ∀ i, i < n → (L.getD i (0, 0)).1 < m ∧ (L.getD i (0, 0)).2 < k) : sumL ((List.range (m * k)).map fun t => cntF x L k tail t n) = sumL ((List.range n).map fun i => (x.co.getD i ⟨0, 0, 0, 0⟩).L + (tail : Int)) := by
  refine sumL_once (fun i => (L.getD i (0, 0)).1 * k + (L.getD i (0, 0)).2) (fun i => (x.co.getD i ⟨0, 0, 0, 0⟩).L + (tail : Int)) (m * k) n fun i hi => ?_
  obtain ⟨h1, h2⟩ := h i hi
  have := Nat.mul_le_mul_right k (show (L.getD i (0, 0)).1 + 1 ≤ m from h1)
  rw [Nat.succ_mul] at this
  omega
set_option maxRecDepth 16000 in
set_option maxHeartbeats 8000000 in
theorem wneeds_any (A : Option Addr) (n c : Nat) (B : Option Addr) (m d : Nat) (G : Option Addr) (k e : Nat) (x : Sc) (P : Option Addr) (pc tail : Nat) (L : List (Nat × Nat)) (w : World) (h : ScM w A n c B m d G k e x) (hp : SlE pkE 2 w P n L) (hr : ∀ p ∈ L, p.1 < m ∧ p.2 < k) (hi : ∀ y ∈ x.co, InR y.T ∧ InR y.W) (hB : scB x = true) (hT : tail ≤ 100000) (ht : TabW w.heap.size w) :
    Calls Tryz.prog 9 #[.agg (scA A n c B m d G k e x), .slice P n pc, .int .i64 (tail : Nat)] w fun e' w' => ∃ Q ln qc lots, e' = .returned (.tuple #[.slice Q ln qc, .int .i64 0]) ∧ SlE ltE 3 w' Q ln lots ∧ ln ≤ 64 ∧ (∀ l ∈ lots, 0 ≤ l.2 ∧ l.2 ≤ 100000000) ∧ sumL (lots.map Prod.snd) = sumL ((List.range n).map fun i => (x.co.getD i ⟨0, 0, 0, 0⟩).L + (tail : Int)) ∧ Below w.heap.size w w' := by
  refine calls_cps ?_
  intro R hR
  have H := Lib.hid h
  have Hp := Lib.hid hp
  have hok := scB_ok hB hi
  have hnl := H.out.co.1
  have hml := H.out.me.1
  have hkl := H.out.ga.1
  have Hok := Lib.hid hok
  have hn1 := hok.n
  have hm1 := hok.m
  have hk1 := hok.k
  rw [← hnl] at hn1
  rw [← hml] at hm1
  rw [← hkl] at hk1
  have Hck := Lib.hid (fun W (hb : Below w.heap.size w W) => wcheck_any A n c B m d G k e x W (h.below hb))
  rw [hB] at Hck
  have Hft := Lib.hid (fun W (hb : Below w.heap.size w W) => wfits_any A n c B m d G k e x P n pc L W (h.below hb) (hp.below hb) hr (by omega))
  rw [hB, show fitC true n n = 0 from by unfold fitC; rw [if_pos rfl, if_pos rfl]] at Hft
  have Hlk := Lib.hid (fun W (hb : Below w.heap.size w W) => look_any A n c B m d G k e x W (h.below hb) (by omega) (by omega) (by omega) hok)
  have Hta := Lib.hid ht
  have HNL := Lib.hid hnl
  have HML := Lib.hid hml
  have HKL := Lib.hid hkl
  have HR := Lib.hid hR
  clear h hp hB hi hok hml hkl hnl ht hR
  obtain ⟨co, me, ga, sf, cg⟩ := x
  unfold scA at Hck Hft Hlk ⊢
  dsimp only at Hck Hft Hlk HNL HML HKL ⊢
  go_enter Tryz.func9, Tryz.ntmps9
  go_upto_region 1 with fail
  have Hb1 := Lib.hid (below_new w (.cells #[.slice A n c, .slice B m d, .slice G k e, .int .i64 sf, .int .i64 cg] 26))
  have Hx1 := Lib.hid (heap_alloc_new w (.cells #[.slice A n c, .slice B m d, .slice G k e, .int .i64 sf, .int .i64 cg] 26))
  obtain ⟨w1, hw1⟩ : ∃ w1, w.alloc (.cells #[.slice A n c, .slice B m d, .slice G k e, .int .i64 sf, .int .i64 cg] 26) = w1 := ⟨_, rfl⟩
  rw [hw1] at Hb1 Hx1 ⊢
  clear hw1
  obtain ⟨u0, u1, u2, u3, u4, -⟩ := cells5 Hx1.out
  obtain ⟨bx, hbx⟩ : ∃ bx, w.heap.size = bx := ⟨_, rfl⟩
  have Hbx := Lib.hid hbx
  rw [hbx] at Hx1 u0 u1 u2 u3 u4 ⊢
  clear hbx
  have i0 : (tail : Int) ≤ 100000 := by omega
  have i00 : ¬ (100000 : Int) < (tail : Int) := by omega
  have i01 : ¬ (tail : Int) < 0 := by omega
  go_upto_region 3 with ((with_reducible refine (Hck.out _ Hb1.out).mono ?_); rintro e' w2 ⟨rfl, hb2⟩; have Hb2 := Lib.hid (Hb1.out.trans (hb2.mono Hb1.out.size)); have Hx2 := Lib.hid ((hb2.block _ (Array.getElem?_eq_some_iff.1 Hx1.out).1).trans Hx1.out); clear hb2)
  clear u0 u1 u2 u3 u4 Hck
  obtain ⟨u0, u1, u2, u3, u4, -⟩ := cells5 Hx2.out
  go_upto_region 6 with ((with_reducible refine (Hft.out _ Hb2.out).mono ?_); rintro e' w3 ⟨rfl, hb3⟩; have Hb3 := Lib.hid (Hb2.out.trans (hb3.mono Hb2.out.size)); have Hx3 := Lib.hid ((hb3.block _ (Array.getElem?_eq_some_iff.1 Hx2.out).1).trans Hx2.out); clear hb3)
  clear u0 u1 u2 u3 u4 Hft
  obtain ⟨u0, u1, u2, u3, u4, -⟩ := cells5 Hx3.out
  obtain ⟨q, hq⟩ : ∃ q, m * k = q := ⟨_, rfl⟩
  go_wp2_with ((with_reducible refine (Hlk.out _ Hb3.out).mono ?_); rintro e' w4 ⟨pa, pq, ra, rc, outer, rfl, hlk⟩; have HL := Lib.hid hlk; have hsl := (Array.getElem?_eq_some_iff.1 hlk.sb).1; obtain ⟨y0, y1, y2, y3, y4, y5, y6, y7, -⟩ := cells8 hlk.sb; rw [hq] at y5; clear hlk)
  have Hpk := Lib.hid (SlE.of_own HL.out.pk (pks_len k (m * k)).symm)
  have Hb4 := Lib.hid (Hb3.out.trans (HL.out.hb.mono Hb3.out.size))
  have Hx4 := Lib.hid ((HL.out.hb.block _ (Array.getElem?_eq_some_iff.1 Hx3.out).1).trans Hx3.out)
  have Hcn := Lib.hid (fun i (hi : i < m * k) => (code_eq (k := k) (a := i / k) (b := i % k) (t := i) (Nat.mod_lt _ (by omega))).1 ⟨rfl, rfl⟩)
  clear hsl y0 y1 y2 y3 y4 y5 y6 y7 u0 u1 u2 u3 u4 HL Hx3 Hb3 Hx2 Hb2 Hx1 Hb1 Hlk i0 i00 i01
  have Hq := Lib.hid hq
  have hq64 : q ≤ 64 := by have := Nat.mul_le_mul (show m ≤ 4 by omega) (show k ≤ 16 by omega); omega
  rw [hq] at Hpk Hcn
  clear hq
  have HO0 := Lib.hid (World.ownsRow_nil w4 w4.heap.size 45 3)
  go_loopw [9, 11, 12, 13, 14, 15, 39, 45] (fun s9 _ _ _ _ _ s39 _ wr => ∃ (t : Nat) (oa : Option Addr) (lj oc : Nat) (lots : List (ByteArray × Int)), s39 = .int .i64 (t : Nat) ∧ t ≤ q ∧ s9 = .slice oa lj oc ∧ lj ≤ t ∧ Hid (lj = lots.length) ∧ Hid (wr.ownsRow w4.heap.size 45 3 (.slice oa lj oc) lj (lots.flatMap ltE)) ∧
    Hid ((∀ l ∈ lots, 0 ≤ l.2 ∧ l.2 ≤ 100000000) ∧ sumL (lots.map Prod.snd) = sumL ((List.range t).map fun u => cntF ⟨co, me, ga, sf, cg⟩ L k tail u n)) ∧ Hid (Below w4.heap.size w4 wr)) (fun _ _ _ _ _ _ s39 _ _ => q - (intOf s39).toNat)
  case atStart => exact ⟨0, none, 0, 0, [], rfl, Nat.zero_le _, rfl, Nat.le_refl _, Lib.hid rfl, HO0, Lib.hid ⟨by simp, rfl⟩, Lib.hid (Below.refl _ _)⟩
  case round =>
    clear HO0
    obtain ⟨t, oa, lj, oc, lots, rfl, ht, rfl, hlj, Hlj, HO, HS, HW⟩ := hrel
    by_cases hlt : t < q
    · have i1 : (t : Int) < (q : Int) := by omega
      obtain ⟨pb, po, pl, hpa, hpl, hpg, c0, c1⟩ := (Hpk.out.below HW.out).at2k hlt
      obtain rfl := Option.some.inj ((pks_get hlt).symm.trans hpg)
      dsimp only at c0 c1
      subst hpa
      have Hab := Lib.hid (Hcn.out t hlt)
      have Hmk := Lib.hid (show t / k < m ∧ t % k < k from ⟨Nat.div_lt_of_lt_mul (by rw [Nat.mul_comm]; have := Hq.out; omega), Nat.mod_lt _ (by omega)⟩)
      obtain ⟨a0, ha0⟩ : ∃ a, t / k = a := ⟨_, rfl⟩
      obtain ⟨b0, hb0⟩ : ∃ b, t % k = b := ⟨_, rfl⟩
      rw [ha0] at c0 Hab Hmk
      rw [hb0] at c1 Hab Hmk
      clear hpg ha0 hb0
      go_upto_region 10 with fail
      obtain ⟨wa, hwa⟩ : ∃ wa, wr.alloc (.cells #[.int .i64 (a0 : Nat), .int .i64 (b0 : Nat)] 47) = wa := ⟨_, rfl⟩
      have Hba := Lib.hid (show Below wr.heap.size wr wa from by rw [← hwa]; exact below_new wr _)
      have Hxa := Lib.hid (show wa.heap[wr.heap.size]? = some (.cells #[.int .i64 (a0 : Nat), .int .i64 (b0 : Nat)] 47 (0, 0)) from by rw [← hwa]; exact heap_alloc_new wr _)
      rw [hwa]
      obtain ⟨lb, hlb⟩ : ∃ lb, wr.heap.size = lb := ⟨_, rfl⟩
      rw [hlb] at Hxa ⊢
      clear hwa hlb c0 c1 hpl
      have HWa := Lib.hid (HW.out.trans (Hba.out.mono HW.out.size))
      have HOa := Lib.hid (ownsRow_below HO.out Hba.out)
      clear HO HW Hba
      go_wp2_with fail
      go_loopw [12, 13, 14, 45] (fun s12 _ _ s45 wx => ∃ (u : Nat) (s : Int), s45 = .int .i64 (u : Nat) ∧ u ≤ n ∧ s12 = .int .i64 s ∧ 0 ≤ s ∧ s ≤ 200000 * (u : Int) ∧ Hid (s = cntF ⟨co, me, ga, sf, cg⟩ L k tail t u) ∧ Hid (Below wa.heap.size wa wx)) (fun _ _ _ s45 _ => n - (intOf s45).toNat)
      case atStart => exact ⟨0, 0, rfl, Nat.zero_le _, rfl, by omega, by omega, Lib.hid rfl, Lib.hid (Below.refl _ _)⟩
      case round =>
        obtain ⟨u, s, rfl, hu, rfl, hs0, hs1, Hs, HX⟩ := hrel
        have Hbig := Lib.hid (Hb4.out.trans ((HWa.out.trans (HX.out.mono HWa.out.size)).mono Hb4.out.size))
        have Hbx4 := Lib.hid (((HWa.out.trans (HX.out.mono HWa.out.size)).block _ (Array.getElem?_eq_some_iff.1 Hx4.out).1).trans Hx4.out)
        have Hxx := Lib.hid ((HX.out.block _ (Array.getElem?_eq_some_iff.1 Hxa.out).1).trans Hxa.out)
        by_cases hlt2 : u < n
        · have i2 : (u : Int) < (n : Int) := by omega
          obtain ⟨pb2, po2, l, rfl, hpl2, hl, c0, c1⟩ := (Hp.out.below Hbig.out).at2k hlt2
          obtain ⟨r1, r2⟩ := hr l (List.mem_of_getElem? hl)
          have hl2 : L.getD u (0, 0) = l := by rw [List.getD_eq_getElem?_getD, hl]; rfl
          obtain ⟨b, o, y, rfl, hbl2, hy, q0, q1, q2, q3⟩ := (H.out.below Hbig.out).co.at4c (k := u) (by omega)
          have hyo := Hok.out.co y (List.mem_of_getElem? hy)
          have hL1 := hyo.L.1
          have hL2 := hyo.L.2
          have hy2 : co.getD u ⟨0, 0, 0, 0⟩ = y := by rw [List.getD_eq_getElem?_getD, hy]; rfl
          have Hst := Lib.hid (show cntF ⟨co, me, ga, sf, cg⟩ L k tail t (u + 1) = s + if l.1 * k + l.2 = t then y.L + (tail : Int) else 0 from by
            have e := sumL_range_succ (fun i => if (L.getD i (0, 0)).1 * k + (L.getD i (0, 0)).2 = t then (co.getD i ⟨0, 0, 0, 0⟩).L + (tail : Int) else 0) u
            rw [hl2, hy2] at e
            rw [Hs.out]
            exact e)
          obtain ⟨p1, p2⟩ := l
          dsimp only at c0 c1 r1 r2 Hst
          clear hl hl2 hy hyo hy2
          obtain ⟨t0, t1, -⟩ := cells2 Hxx.out
          have hll := (Array.getElem?_eq_some_iff.1 Hxx.out).1
          go_upto_region 14 with fail
          obtain ⟨w5, hw5⟩ : ∃ w5, wr.alloc (.cells #[.int .i64 (p1 : Nat), .int .i64 (p2 : Nat)] 47) = w5 := ⟨_, rfl⟩
          have Hb5 := Lib.hid (show Below wr.heap.size wr w5 from by rw [← hw5]; exact below_new wr _)
          have hx5 : w5.heap[wr.heap.size]? = some (.cells #[.int .i64 (p1 : Nat), .int .i64 (p2 : Nat)] 47 (0, 0)) := by rw [← hw5]; exact heap_alloc_new wr _
          rw [hw5]
          obtain ⟨s0, s1, -⟩ := cells2 hx5
          have hll5 := (Array.getElem?_eq_some_iff.1 hx5).1
          obtain ⟨nb, hnb⟩ : ∃ nb, wr.heap.size = nb := ⟨_, rfl⟩
          rw [hnb] at s0 s1 hll5 ⊢
          have HX5 := Lib.hid (HX.out.trans (Hb5.out.mono HX.out.size))
          have hx6 := (Hb5.out.block _ hll).trans Hxx.out
          have hx7 := (Hb5.out.block _ (Array.getElem?_eq_some_iff.1 Hbx4.out).1).trans Hbx4.out
          have hl5 := (Array.getElem?_eq_some_iff.1 hx7).1
          have q0 := (Hb5.out.cell hbl2).trans q0
          have hbl2 : b < w5.heap.size := Nat.lt_of_lt_of_le hbl2 Hb5.out.size
          have hll : lb < w5.heap.size := Nat.lt_of_lt_of_le hll Hb5.out.size
          clear t0 t1
          obtain ⟨t0, t1, -⟩ := cells2 hx6
          obtain ⟨u0, u1, u2, u3, u4, -⟩ := cells5 hx7
          clear hw5 hnb q1 q2 q3 c0 c1 hpl2 hx5 hx6 hx7
          by_cases he1 : a0 = p1
          · by_cases he2 : b0 = p2
            · have hc : p1 * k + p2 = t := by rw [← he1, ← he2]; exact Hab.out
              rw [if_pos hc] at Hst
              have g1 : (a0 : Int) = (p1 : Int) := by omega
              have g2 : (b0 : Int) = (p2 : Int) := by omega
              clear he1 he2 hc
              go_wp2_with fail
              exact ⟨⟨u + 1, s + (y.L + tail), by go_num, by omega, rfl, by omega, by omega, Lib.hid Hst.out.symm, HX5⟩, by simp [intOf]; omega⟩
            · have hc : ¬ p1 * k + p2 = t := fun hc => by
                have h1 := (code_eq r2).2 hc
                have h2 := (code_eq Hmk.out.2).2 Hab.out
                exact he2 (h2.2.trans h1.2.symm)
              rw [if_neg hc] at Hst
              have g2 : ¬ (b0 : Int) = (p2 : Int) := by omega
              have g1 : (a0 : Int) = (p1 : Int) := by omega
              clear he1 he2 hc
              go_wp2_with fail
              exact ⟨⟨u + 1, s, by go_num, by omega, rfl, by omega, by omega, Lib.hid (by rw [Hst.out]; omega), HX5⟩, by simp [intOf]; omega⟩
          · have hc : ¬ p1 * k + p2 = t := fun hc => by
              have h1 := (code_eq r2).2 hc
              have h2 := (code_eq Hmk.out.2).2 Hab.out
              exact he1 (h2.1.trans h1.1.symm)
            rw [if_neg hc] at Hst
            have g1 : ¬ (a0 : Int) = (p1 : Int) := by omega
            clear he1 hc
            go_wp2_with fail
            exact ⟨⟨u + 1, s, by go_num, by omega, rfl, by omega, by omega, Lib.hid (by rw [Hst.out]; omega), HX5⟩, by simp [intOf]; omega⟩
        · obtain rfl : n = u := by omega
          have i2 : ¬ (n : Int) < (n : Int) := by omega
          obtain ⟨t0, t1, -⟩ := cells2 Hxx.out
          have hll := (Array.getElem?_eq_some_iff.1 Hxx.out).1
          obtain ⟨u0, u1, u2, u3, u4, -⟩ := cells5 Hbx4.out
          have hl5 := (Array.getElem?_eq_some_iff.1 Hbx4.out).1
          have HWx := Lib.hid (HWa.out.trans (HX.out.mono HWa.out.size))
          have HOx := Lib.hid (ownsRow_below HOa.out HX.out)
          by_cases hs2 : 0 < s
          · obtain ⟨gb, go', g, rfl, hgl, hg, r0⟩ := (H.out.below Hbig.out).ga.at1 (k := b0) Hmk.out.2
            have i3 : (b0 : Int) < (k : Int) := by have := Hmk.out.2; omega
            have hgr : 1 ≤ g ∧ g ≤ 2000 := by
              obtain ⟨mt, ss, g', hpk⟩ := Hok.out.pk a0 b0 (by have := Hmk.out.1; have := HML.out; dsimp only; omega) (by have := Hmk.out.2; have := HKL.out; dsimp only; omega)
              obtain rfl := Option.some.inj (hg.symm.trans hpk.hg)
              exact hpk.gr
            have ha4 : a0 < 4 := by have := Hmk.out.1; omega
            go_upto_region 18 with fail
            obtain ⟨ι, mk, hmk⟩ := cls_exW wr.heap.size wr
            have hd := hmk.drew
            have hnei := hmk.ne
            have t0 := fun x => ((hmk.below x).cell hll).trans t0
            have t1 := fun x => ((hmk.below x).cell hll).trans t1
            have u2 := fun x => ((hmk.below x).cell hl5).trans u2
            have r0 := fun x => ((hmk.below x).cell hgl).trans r0
            have Htx := fun x => Hta.out.on (Hbig.out.trans ((hmk.below x).mono Hbig.out.size))
            obtain ⟨S1, hS1⟩ : ∃ S1 : ByteArray, (⟨(Lib.itoa (a0 : Nat)).toArray⟩ : ByteArray) = S1 := ⟨_, rfl⟩
            obtain ⟨S2, hS2⟩ : ∃ S2 : ByteArray, (⟨(Lib.itoa g).toArray⟩ : ByteArray) = S2 := ⟨_, rfl⟩
            have HC1 := Lib.hid (fun x => hmk.call (itoa_any (a0 : Nat) (mk x) (by omega) (by omega) _ (Htx x)))
            have HC2 := Lib.hid (fun x => hmk.call (itoa_any g (mk x) (by omega) (by omega) _ (Htx x)))
            rw [hS1] at HC1
            rw [hS2] at HC2
            have Hbl := Lib.hid (fun x => hmk.below x)
            have hz1 : S1.size ≤ 21 := by
              rw [← hS1]
              exact Nat.le_trans (Nat.le_of_eq (by simp [ByteArray.size])) (Lib.itoa_length_le (a0 : Nat) (by omega) (by omega))
            have hz2 : S2.size ≤ 21 := by
              rw [← hS2]
              exact Nat.le_trans (Nat.le_of_eq (by simp [ByteArray.size])) (Lib.itoa_length_le g (by omega) (by omega))
            have z1 : ¬ 9223372036854775807 < 1 + S1.size := by omega
            have z2 : ¬ 9223372036854775807 < 1 + S1.size + 1 := by omega
            have z3 : ¬ 9223372036854775807 < 1 + S1.size + 1 + S2.size := by omega
            clear hmk Htx hS1 hS2
            refine wp_region_clsW (C := fun w' => ∃ x, w' = mk x) (by kernel_rfl) (by kernel_rfl) hd ?_
            repeat (go_big_quiet_step (first | with_reducible exact HC1.out _ | with_reducible exact HC2.out _))
            refine wpQuiet_nil ?_
            intro _ hw'
            obtain ⟨x, rfl⟩ := hw'
            have HW5 := Lib.hid (HWx.out.trans ((Hbl.out x).mono HWx.out.size))
            have HO5 := Lib.hid (ownsRow_below HOx.out (Hbl.out x))
            obtain ⟨w6, hw6⟩ : ∃ w6, mk x = w6 := ⟨_, rfl⟩
            rw [hw6] at HW5 HO5 ⊢
            have hbase := HW5.out.size
            clear hw6 t0 t1 u2 r0 hd
            go_wp2_with (at_builtin; refine wpList_app rfl (.tmp 79) (.tmp 83) _ rfl elemLot w4.heap.size _ _ _ rfl (HO5.out.kept (World.grownBy_alloc w6 _ none) (by cases (Value.slice oa lj oc).ownBlock <;> simp)) _ _ _ _ rfl (Sl.new _ _ _ 3 1 rfl) (by simp [Value.oneCell']) (by unfold maxLen; omega) (by omega) (by simp; omega) ?_; intro A1 c1 w7 ho7 hg7 _)
            have HW7 := Lib.hid (Kx.low HW5.out (own_kxW HO5.out hg7) (fun j h => h) hbase)
            obtain ⟨it, hit⟩ : ∃ it, w7.ownsRow w4.heap.size 45 3 (.slice A1 (lj + 1) c1) (lj + 1) (lots.flatMap ltE ++ [.string ⟨#[119, 105, 114, 101]⟩, .string it, .int .i64 s]) := ⟨_, ho7⟩
            clear ho7 hg7
            exact ⟨⟨t + 1, A1, lj + 1, c1, lots ++ [(it, s)], by go_num, by omega, rfl, by omega, Lib.hid (by simp [Hlj.out]), Lib.hid (by rw [lt_snoc]; exact hit), Lib.hid ⟨fun l hl => by
              rcases List.mem_append.1 hl with h | h
              · exact HS.out.1 l h
              · rw [List.mem_singleton] at h
                subst h
                dsimp only
                omega, by rw [List.map_append, List.map_singleton, sumL_snoc, HS.out.2, sumL_range_succ, ← Hs.out]⟩, HW7⟩, by simp [intOf]; omega⟩
          · obtain rfl : s = 0 := by omega
            go_wp2_with fail
            exact ⟨⟨t + 1, oa, lj, oc, lots, by go_num, by omega, rfl, by omega, Hlj, HOx, Lib.hid ⟨HS.out.1, by rw [sumL_range_succ, ← Hs.out, ← HS.out.2]; omega⟩, HWx⟩, by simp [intOf]; omega⟩
    · obtain rfl : q = t := by omega
      have i1 : ¬ (q : Int) < (q : Int) := by omega
      have Hfin := Lib.hid (HR.out.out (.returned (.tuple #[.slice oa lj oc, .int .i64 0])) wr ⟨oa, lj, oc, lots, rfl, SlE.of_own HO.out Hlj.out, by omega, HS.out.1, by
        rw [HS.out.2, ← Hq.out]
        exact cntF_all fun i hi => hr _ (by
          have h1 := Hp.out.1
          rw [List.getD_eq_getElem?_getD, List.getElem?_eq_getElem (by omega)]
          exact List.getElem_mem _), Hb4.out.trans (HW.out.mono Hb4.out.size)⟩)
      go_wp2_with fail
      exact Hfin.out
end
end Go.Proofs.YtojbldoekalbnaaGreatDoor
