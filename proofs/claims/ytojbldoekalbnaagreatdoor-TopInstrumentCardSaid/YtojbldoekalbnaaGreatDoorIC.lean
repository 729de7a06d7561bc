/-
  Contracts of wire.look, follows and onward; each states its condition.
-/
import Derived.Test.YtojbldoekalbnaaGreatDoorIB
namespace Go.Proofs.YtojbldoekalbnaaGreatDoor
section
section
open Go.RowKit
theorem own_monoW {W : World} {base base' e sz n : Nat} {v : Value} {xs : List Value} (h : W.ownsRow base e sz v n xs) (hb : base' ≤ base) : W.ownsRow base' e sz v n xs :=
  ⟨h.1, h.2.imp id fun ⟨b, c, cs, e1, h1, h2⟩ => ⟨b, c, cs, e1, Nat.le_trans hb h1, h2⟩⟩
theorem TblO.monoW {W : World} {base base' L : Nat} {eo ei : TypeId} {v : Value} {rows : List (List Int)} {outer : List Value} (t : TblO W base eo ei v L rows outer) (hb : base' ≤ base) : TblO W base' eo ei v L rows outer :=
  ⟨t.1, own_monoW t.2.1 hb, fun i r hr => by
    obtain ⟨Ai, ci, a1, a2, a3⟩ := t.2.2 i r hr
    exact ⟨Ai, ci, a1, a2, own_monoW a3 hb⟩⟩
theorem TblO.kxW {W W' : World} {base L : Nat} {eo ei : TypeId} {v : Value} {rows : List (List Int)} {outer : List Value} {S : Nat → Prop} (t : TblO W base eo ei v L rows outer) (hk : Kx S W W') (hs : ∀ j, base ≤ j → ¬ S j) : TblO W' base eo ei v L rows outer :=
  ⟨t.1, own_of_kxW t.2.1 hk hs, fun i r hr => by
    obtain ⟨Ai, ci, a1, a2, a3⟩ := t.2.2 i r hr
    exact ⟨Ai, ci, a1, a2, own_of_kxW a3 hk hs⟩⟩
/-- What look leaves: the search's box, all picks, what each costs for each course. -/
structure LkP (w W : World) (A : Option Addr) (n c : Nat) (B : Option Addr) (m d : Nat) (G : Option Addr) (k e : Nat) (x : Sc) (pa : Option Addr) (pc : Nat) (ra : Option Addr) (rc : Nat) (outer : List Value) : Prop where
  hb : Below w.heap.size w W
  sb : W.heap[w.heap.size + 1]? = some (.cells #[.slice A n c, .slice B m d, .slice G k e, .int .i64 x.sf, .int .i64 x.ch, .slice pa (m * k) pc, .slice ra n rc, .slice none 0 0] 67 (0, 0))
  pk : W.ownsRow (w.heap.size + 2) 47 2 (.slice pa (m * k) pc) (m * k) ((pks k (m * k)).flatMap pkE)
  tb : TblO W (w.heap.size + 2) 22 3 (.slice ra n rc) n (x.co.map fun y => (pks k (m * k)).map (prc x y)) outer
theorem map_snoc {α β : Type} (g : α → β) {l : List α} {i : Nat} {y : α} {rows : List β} (h : rows = (l.take i).map g) (hy : l[i]? = some y) {r : β} (hr : r = g y) : rows ++ [r] = (l.take (i + 1)).map g := by
  rw [List.take_add_one, hy, h, hr]
  simp
set_option maxRecDepth 16000 in
set_option maxHeartbeats 8000000 in
theorem look_any (A : Option Addr) (n c : Nat) (B : Option Addr) (m d : Nat) (G : Option Addr) (k e : Nat) (x : Sc) (w : World) (h : ScM w A n c B m d G k e x) (hn : n ≤ 96) (hm : m ≤ 4) (hk : k ≤ 16) (hok : ScOk x) :
    Calls Tryz.prog 16 #[.agg (scA A n c B m d G k e x)] w fun e' w' => ∃ pa pc ra rc outer, e' = .returned (.pointer (some ⟨w.heap.size + 1, 0, none⟩)) ∧ LkP w w' A n c B m d G k e x pa pc ra rc outer := by
  have H := Lib.hid h
  have Hok := Lib.hid hok
  obtain ⟨co, me, ga, sf, ch⟩ := x
  refine calls_cps ?_
  intro R hR
  unfold scA
  dsimp only
  have HL := Lib.hid (LkA.start w A n c B m d G k e sf ch (.slice none 0 0))
  clear h hok
  go_enter Tryz.func16, Tryz.ntmps16
  go_upto_region 3 with fail
  obtain ⟨w1, hw1⟩ : ∃ w1, ((w.alloc (.cells #[.slice A n c, .slice B m d, .slice G k e, .int .i64 sf, .int .i64 ch] 26)).alloc (.cells #[.slice A n c, .slice B m d, .slice G k e, .int .i64 sf, .int .i64 ch, .slice none 0 0, .slice none 0 0, .slice none 0 0] 67)) = w1 := ⟨_, rfl⟩
  rw [hw1] at HL ⊢
  clear hw1
  go_loopw [4, 5, 17, 20, 21, 22, 23] (fun _ _ s17 _ _ _ _ wr => ∃ (i : Nat) (pa : Option Addr) (pc : Nat), s17 = .int .i64 (i : Nat) ∧ i ≤ m ∧ Hid (LkA w wr A n c B m d G k e sf ch pa pc (i * k) (.slice none 0 0))) (fun _ _ s17 _ _ _ _ _ => m - (intOf s17).toNat)
  case atStart => exact ⟨0, none, 0, rfl, Nat.zero_le _, by rw [Nat.zero_mul]; exact HL⟩
  case round =>
    clear HL
    obtain ⟨i, pa, pc, rfl, hi, HL⟩ := hrel
    by_cases hlt : i < m
    · have i1 : (i : Int) < (m : Int) := by omega
      obtain ⟨u0, u1, u2, u3, u4, -⟩ := cells5 HL.out.box
      go_upto_region 6 with fail
      clear u0 u1 u2 u3 u4
      go_loopw [5, 23] (fun _ s23 wx => ∃ (j : Nat) (pa : Option Addr) (pc : Nat), s23 = .int .i64 (j : Nat) ∧ j ≤ k ∧ Hid (LkA w wx A n c B m d G k e sf ch pa pc (i * k + j) (.slice none 0 0))) (fun _ s23 _ => k - (intOf s23).toNat)
      case atStart => exact ⟨0, pa, pc, rfl, Nat.zero_le _, by rw [Nat.add_zero]; exact HL⟩
      case round =>
        clear HL
        obtain ⟨j, pa, pc, rfl, hj, HL⟩ := hrel
        by_cases hlt2 : j < k
        · have i2 : (j : Int) < (k : Int) := by omega
          have hl := HL.out.sz
          have hbl : w.heap.size + 1 < wr.heap.size := by omega
          obtain ⟨v0, v1, v2, v3, v4, v5, v6, v7, vf⟩ := cells8 HL.out.sb
          have hq : i * k + j ≤ 100 := by have := Nat.mul_le_mul (show i ≤ 4 by omega) hk; omega
          obtain ⟨q, hqq⟩ : ∃ q, i * k + j = q := ⟨_, rfl⟩
          have Hq := Lib.hid hqq.symm
          have Hp := Lib.hid (fun w2 p2 c2 o h1 h2 => LkA.push (w2 := w2) (p2 := p2) (c2 := c2) (o := o) HL.out rfl hlt2 h1 h2)
          rw [hqq] at HL v5 hq Hp
          clear hqq
          go_wp2_with (at_builtin; refine wpList_app rfl (.tmp 30) (.tmp 34) _ rfl elemPick (w.heap.size + 2) _ _ _ rfl (HL.out.own.kept (World.grownBy_alloc wr _ none) (by cases (Value.slice pa q pc).ownBlock <;> simp)) _ _ _ _ rfl (Sl.new _ _ _ 2 1 rfl) (by simp [Value.oneCell']) (by unfold maxLen; omega) (by omega) (by simp; omega) ?_; intro A1 c1 w2 ho2 hg2 _; have hk2 := own_kxW HL.out.own hg2; have s2 := (hk2.block _ hbl (by omega)).trans HL.out.sb; obtain ⟨x0, x1, x2, x3, x4, x5, x6, x7, xf⟩ := cells8 s2; have hbl2 : w.heap.size + 1 < w2.heap.size := Nat.lt_of_lt_of_le hbl hk2.size; have Hn := Lib.hid (Hp.out w2 A1 c1 _ ho2 hg2); clear ho2 hg2 hk2 s2)
          exact ⟨⟨j + 1, A1, c1, by go_num, by omega, by rw [← Nat.add_assoc, ← Hq.out]; exact Hn⟩, by simp [intOf]; omega⟩
        · obtain rfl : k = j := by omega
          have i2 : ¬ (k : Int) < (k : Int) := by omega
          go_wp2_with fail
          refine ⟨⟨i + 1, pa, pc, by go_num, by omega, by rw [Nat.succ_mul]; exact HL⟩, by simp [intOf]; omega⟩
    · obtain rfl : m = i := by omega
      have i1 : ¬ (m : Int) < (m : Int) := by omega
      clear hlt hi i1
      obtain ⟨w0, rfl⟩ : ∃ w0, w0 = wr := ⟨_, rfl⟩
      have HB0 := Lib.hid HL.out.startB
      have Hcf := Lib.hid (fun W (hk : Kx (fun j => j = w.heap.size + 1) w0 W) => H.out.below (Kx.low HL.out.hb hk (fun j hj => by omega) HL.out.hb.size))
      have Hbf := Lib.hid (fun W (hk : Kx (fun j => j = w.heap.size + 1) w0 W) => (hk.block _ (Array.getElem?_eq_some_iff.1 HL.out.box).1 (by omega)).trans HL.out.box)
      have Hpf := Lib.hid (fun W (hk : Kx (fun j => j = w.heap.size + 1) w0 W) => SlE.of_own (own_of_kxW HL.out.own hk (fun j hj e => by omega)) (pks_len k (m * k)).symm)
      have hbx0 := HL.out.lt0
      obtain ⟨bx, hbx⟩ : ∃ bx, w.heap.size = bx := ⟨_, rfl⟩
      rw [hbx] at HB0 hbx0 Hcf Hbf Hpf ⊢
      have Hbx := Lib.hid hbx
      have Hbox := Lib.hid HL.out.box
      rw [hbx] at Hbox
      obtain ⟨q, hq⟩ : ∃ q, m * k = q := ⟨_, rfl⟩
      rw [hq] at HL HB0 Hpf
      have Hq := Lib.hid hq
      have hq64 : q ≤ 64 := by have := Nat.mul_le_mul hm hk; omega
      clear hbx hq
      obtain ⟨u0, u1, u2, u3, u4, -⟩ := cells5 Hbox.out
      go_upto_region 12 with fail
      clear u0 u1 u2 u3 u4
      go_loopw [7, 8, 9, 10, 43, 58] (fun _ _ _ _ s43 _ wx => ∃ (i : Nat) (ra : Option Addr) (rc : Nat) (rows : List (List Int)) (outer : List Value), s43 = .int .i64 (i : Nat) ∧ i ≤ n ∧ Hid (rows = (co.take i).map fun y => (pks k q).map (prc ⟨co, me, ga, sf, ch⟩ y)) ∧ Hid (LkB w0 wx (bx + 1) (.slice A n c) (.slice B m d) (.slice G k e) (.int .i64 sf) (.int .i64 ch) (.slice pa q pc) ra rc i rows outer)) (fun _ _ _ _ s43 _ _ => n - (intOf s43).toNat)
      case atStart => exact ⟨0, none, 0, [], [], rfl, Nat.zero_le _, Lib.hid rfl, HB0⟩
      case round =>
        clear HB0
        obtain ⟨i, ra, rc, rows, outer, rfl, hi, Hrows, HB⟩ := hrel
        have hbx1 : bx + 1 < wr.heap.size := Nat.lt_of_lt_of_le hbx0 HB.out.kx.size
        have hbx2 : bx < wr.heap.size := by omega
        by_cases hlt : i < n
        · have i1 : (i : Int) < (n : Int) := by omega
          obtain ⟨b, o, y, rfl, hbl, hy, q0, q1, q2, q3⟩ := (Hcf.out wr HB.out.kx).co.at4c hlt
          obtain ⟨v0, v1, v2, v3, v4, v5, v6, v7, -⟩ := cells8 HB.out.hsb
          have hq9 : (q : Int) ≤ 9223372036854775807 := by omega
          have Hy := Lib.hid hy
          clear hy
          have hmk := run_mkIntW q (by omega) (wr.alloc (.cells #[.int .i64 y.L, .int .i64 y.F, .int .i64 y.T, .int .i64 y.W] 34))
          go_upto_region 16 with fail
          clear hmk
          have HC0 := Lib.hid (LkC.start wr y q (fun t => prc ⟨co, me, ga, sf, ch⟩ y (t / k, t % k)) (madeCells #[Value.int .i64 0] q) (size_madeCells _ _))
          obtain ⟨w1, hw1⟩ : ∃ w1, (wr.alloc (.cells #[.int .i64 y.L, .int .i64 y.F, .int .i64 y.T, .int .i64 y.W] 34)).alloc (.cells (madeCells #[Value.int .i64 0] q) 3) = w1 := ⟨_, rfl⟩
          rw [hw1] at HC0 ⊢
          obtain ⟨wo, rfl⟩ : ∃ wo, wo = wr := ⟨_, rfl⟩
          clear hw1 v0 v1 v2 v3 v4 v5 v6 v7 q0 q1 q2 q3 hbl hbx1 hbx2
          go_loopw [9, 10, 58] (fun _ _ s58 wx => ∃ (t : Nat), s58 = .int .i64 (t : Nat) ∧ t ≤ q ∧ Hid (LkC wo wx q t (fun t => prc ⟨co, me, ga, sf, ch⟩ y (t / k, t % k)) y)) (fun _ _ s58 _ => q - (intOf s58).toNat)
          case atStart => exact ⟨0, rfl, Nat.zero_le _, HC0⟩
          case round =>
            clear HC0
            obtain ⟨t, rfl, ht, HC⟩ := hrel
            have hrl := HC.out.rw.lt
            by_cases hlt2 : t < q
            · have i2 : (t : Int) < (q : Int) := by omega
              obtain ⟨hi', hj'⟩ : t / k < m ∧ t % k < k := by
                have h1 := Hq.out
                have h2 : 0 < k := by
                  rcases Nat.eq_zero_or_pos k with h | h
                  · subst h; omega
                  · exact h
                exact ⟨Nat.div_lt_of_lt_mul (by rw [Nat.mul_comm]; omega), Nat.mod_lt _ h2⟩
              obtain ⟨pb, po, l, rfl, hpl, hl, c0, c1⟩ := (Hpf.out wr (HB.out.kx.below HC.out.hb)).at2k hlt2
              obtain rfl := Option.some.inj ((pks_get hlt2).symm.trans hl)
              dsimp only at c0 c1
              obtain ⟨i', hie⟩ : ∃ i', t / k = i' := ⟨_, rfl⟩
              obtain ⟨j', hje⟩ : ∃ j', t % k = j' := ⟨_, rfl⟩
              have Hft := Lib.hid (show (fun t => prc ⟨co, me, ga, sf, ch⟩ y (t / k, t % k)) t = prc ⟨co, me, ga, sf, ch⟩ y (i', j') from by dsimp only; rw [hie, hje])
              rw [hie] at hi' c0
              rw [hje] at hj' c1
              obtain ⟨mt, s, g, hp⟩ := Hok.out.pk i' j' (by have := H.out.me.1; dsimp only at this ⊢; omega) (by have := H.out.ga.1; dsimp only at this ⊢; omega)
              have hpe := prc_eq hp y
              have hyo := Hok.out.co y (List.mem_of_getElem? Hy.out)
              have Hst := Lib.hid (fun W (hk : Kx (fun j => j = bx + 1) w0 W) => strong_any _ n c B m d G k e ⟨co, me, ga, sf, ch⟩ y i' j' mt s g W (Hcf.out W hk) hp hyo)
              have Hpr := Lib.hid (fun W (hk : Kx (fun j => j = bx + 1) w0 W) => price_any _ n c B m d G k e ⟨co, me, ga, sf, ch⟩ y i' j' mt s g W (Hcf.out W hk) hp hyo)
              unfold scA Crs.val pickV at Hst Hpr
              dsimp only at Hst Hpr hpe
              obtain ⟨pv, hpv⟩ : ∃ pv, pricF mt.D g y = pv := ⟨_, rfl⟩
              obtain ⟨hv, hhv⟩ : ∃ hv, holdsB mt.D s y.L y.F sf = hv := ⟨_, rfl⟩
              rw [hpv] at Hpr hpe
              rw [hhv] at Hst hpe
              have Hpe := Lib.hid (Hft.out.trans hpe)
              clear hl hie hje hp hpe hyo hpv hhv Hft
              go_upto_region 18 with fail
              obtain ⟨wa, hwa⟩ : ∃ wa, wr.alloc (.cells #[.int .i64 (i' : Nat), .int .i64 (j' : Nat)] 47) = wa := ⟨_, rfl⟩
              have hba : Below wr.heap.size wr wa := by rw [← hwa]; exact below_new wr _
              have hxa : wa.heap[wr.heap.size]? = some (.cells #[.int .i64 (i' : Nat), .int .i64 (j' : Nat)] 47 (0, 0)) := by rw [← hwa]; exact heap_alloc_new wr _
              have Hxa := Lib.hid hxa
              have HCa := Lib.hid (HC.out.below hba)
              have hne : wr.heap.size ≠ wo.heap.size + 1 := by omega
              rw [hwa]
              obtain ⟨pbx, hpbx⟩ : ∃ pbx, wr.heap.size = pbx := ⟨_, rfl⟩
              rw [hpbx] at Hxa hne ⊢
              clear hwa hba hxa c0 c1 hpl hpbx hrl HC
              obtain ⟨⟨ov, oc⟩, of⟩ := HCa.out.rw.cell hlt2
              have hrl := HCa.out.rw.lt
              go_upto_region 19 with fail
              cases hv with
              | false =>
                have HCb := Lib.hid (HCa.out.set hlt2 (v := -1) Hpe.out.symm)
                have Hxb := Lib.hid (((kx_one wa (wo.heap.size + 1) t (.int .i64 (-1))).block _ (Array.getElem?_eq_some_iff.1 Hxa.out).1 hne).trans Hxa.out)
                obtain ⟨wb, hwb⟩ : ∃ wb, wa.setCell ⟨wo.heap.size + 1, t, none⟩ (.int .i64 (-1)) = wb := ⟨_, rfl⟩
                rw [hwb] at HCb Hxb ⊢
                have Hkb := Lib.hid (HB.out.kx.below HCb.out.hb)
                obtain ⟨u0, u1, u2, u3, u4, -⟩ := cells5 (Hbf.out wb Hkb.out)
                obtain ⟨v0, v1, v2, v3, -⟩ := cells4 HCb.out.cb
                obtain ⟨t0, t1, -⟩ := cells2 Hxb.out
                clear hwb of oc hrl
                go_wp2_with ((with_reducible refine (Hst.out wb Hkb.out).mono ?_); rintro e w3 ⟨rfl, hb3⟩; have HC3 := Lib.hid (HCb.out.below hb3); clear hb3)
                exact ⟨⟨t + 1, by go_num, by omega, HC3⟩, by simp [intOf]; omega⟩
              | true =>
                have HCb := Lib.hid (HCa.out.set0 (.int .i64 (-1)))
                have Hxb := Lib.hid (((kx_one wa (wo.heap.size + 1) t (.int .i64 (-1))).block _ (Array.getElem?_eq_some_iff.1 Hxa.out).1 hne).trans Hxa.out)
                obtain ⟨wb, hwb⟩ : ∃ wb, wa.setCell ⟨wo.heap.size + 1, t, none⟩ (.int .i64 (-1)) = wb := ⟨_, rfl⟩
                rw [hwb] at HCb Hxb ⊢
                have Hkb := Lib.hid (HB.out.kx.below HCb.out.hb)
                obtain ⟨u0, u1, u2, u3, u4, -⟩ := cells5 (Hbf.out wb Hkb.out)
                obtain ⟨v0, v1, v2, v3, -⟩ := cells4 HCb.out.cb
                obtain ⟨t0, t1, -⟩ := cells2 Hxb.out
                clear hwb of oc hrl
                go_upto_region 20 with ((with_reducible refine (Hst.out wb Hkb.out).mono ?_); rintro e w3 ⟨rfl, hb3⟩; have HC3 := Lib.hid (HCb.out.below hb3); have Hx3 := Lib.hid ((hb3.block _ (Array.getElem?_eq_some_iff.1 Hxb.out).1).trans Hxb.out); clear hb3)
                have Hk3 := Lib.hid (HB.out.kx.below HC3.out.hb)
                clear u0 u1 u2 u3 u4 v0 v1 v2 v3 t0 t1
                obtain ⟨u0, u1, u2, u3, u4, -⟩ := cells5 (Hbf.out w3 Hk3.out)
                obtain ⟨v0, v1, v2, v3, -⟩ := cells4 HC3.out.cb
                obtain ⟨t0, t1, -⟩ := cells2 Hx3.out
                go_wp2_with ((with_reducible refine (Hpr.out w3 Hk3.out).mono ?_); rintro e w4 ⟨rfl, hb4⟩; have HC4 := Lib.hid (HC3.out.below hb4); obtain ⟨⟨ov, oc⟩, of⟩ := HC4.out.rw.cell hlt2; have hrl := HC4.out.rw.lt; clear hb4)
                exact ⟨⟨t + 1, by go_num, by omega, Lib.hid (HC4.out.set hlt2 Hpe.out.symm)⟩, by simp [intOf]; omega⟩
            · obtain rfl : q = t := by omega
              have i2 : ¬ (q : Int) < (q : Int) := by omega
              have Hbr := Lib.hid (HB.out.below HC.out.hb)
              obtain ⟨v0, v1, v2, v3, v4, v5, v6, v7, -⟩ := cells8 Hbr.out.hsb
              have hbx1 : bx + 1 < wr.heap.size := Nat.lt_of_lt_of_le hbx0 Hbr.out.kx.size
              have hw0 : w0.heap.size ≤ wr.heap.size := Hbr.out.kx.size
              have Hro := Lib.hid (HC.out.rw.own (base := w0.heap.size) (Nat.le_trans HB.out.kx.size (Nat.le_succ _)) (by unfold maxLen; omega))
              have Hrows2 := Lib.hid (map_snoc (fun y => (pks k q).map (prc ⟨co, me, ga, sf, ch⟩ y)) Hrows.out Hy.out (r := (List.range q).map fun t => prc ⟨co, me, ga, sf, ch⟩ y (t / k, t % k)) (by unfold pks; rw [List.map_map]; rfl))
              go_wp2_with (at_builtin; refine wpList_app rfl (.tmp 82) (.tmp 84) _ rfl elemRowW w0.heap.size _ _ _ rfl (Hbr.out.tb.own.kept (World.grownBy_alloc wr _ none) (by cases (Value.slice ra i rc).ownBlock <;> simp)) _ _ _ _ rfl (Sl.new _ _ _ 1 1 rfl) (by simp [Value.oneCell']) (by unfold maxLen; omega) (by omega) (by simp; omega) ?_; intro A1 c1 w2 ho2 hg2 _; obtain ⟨hlt2, s2⟩ := Hbr.out.grown_lt hg2; obtain ⟨x0, x1, x2, x3, x4, x5, x6, x7, xf⟩ := cells8 s2; have Hn := Lib.hid (Hbr.out.push (by simp) Hro.out ho2 hg2); clear ho2 hg2 s2)
              exact ⟨⟨i + 1, A1, c1, _, _, by go_num, by omega, Hrows2, Hn⟩, by simp [intOf]; omega⟩
        · obtain rfl : n = i := by omega
          have i1 : ¬ (n : Int) < (n : Int) := by omega
          go_wp2_with fail
          have hco : co.take n = co := by rw [List.take_of_length_le]; exact Nat.le_of_eq H.out.co.1.symm
          have ht := HB.out.tb
          rw [Hrows.out, hco, ← Hq.out] at ht
          have hs := HB.out.hsb
          have ho := own_of_kxW HL.out.own HB.out.kx (fun j hj e => by have := Hbx.out; omega)
          rw [← Hq.out, ← Hbx.out] at hs
          rw [← Hq.out] at ho
          rw [← Hbx.out]
          exact hR.out _ _ ⟨pa, pc, ra, rc, outer, rfl, Kx.low HL.out.hb HB.out.kx (fun j hj => by have := Hbx.out; omega) HL.out.hb.size, hs, ho, ht.monoW HL.out.sz⟩
end
end
section
section
open Go.RowKit
theorem tr_int {a b : Nat} (h : a ≤ b) : (a : Int) ≤ (b : Int) := by omega
theorem no_int {a b : Nat} (h : ¬ a ≤ b) : ¬ (a : Int) ≤ (b : Int) := by omega
set_option maxRecDepth 16000 in
set_option maxHeartbeats 8000000 in
theorem follows_any (sb : Nat) (pa : Option Addr) (q pc k a b : Nat) (w : World) (hc : w.cell? ⟨sb, 5, none⟩ = some (.slice pa q pc)) (hsb : sb < w.heap.size) (hp : SlE pkE 2 w pa q (pks k q)) (ha : a < q) (hb : b < q) :
    Calls Tryz.prog 41 #[.pointer (some ⟨sb, 0, none⟩), .int .i64 (a : Nat), .int .i64 (b : Nat)] w fun e w' => e = .returned (.bool (folB k a b)) ∧ Below w.heap.size w w' := by
  refine calls_cps ?_
  intro R hR
  obtain ⟨pb, po, l, rfl, hpl, hl, c0, c1⟩ := hp.at2k ha
  obtain rfl := Option.some.inj ((pks_get ha).symm.trans hl)
  obtain ⟨pb', po', l', e', hpl', hl', d0, d1⟩ := hp.at2k hb
  obtain ⟨rfl, rfl, -⟩ : pb = pb' ∧ po = po' ∧ True := by injection e' with e'; injection e' with h1 h2; exact ⟨h1, h2, trivial⟩
  obtain rfl := Option.some.inj ((pks_get hb).symm.trans hl')
  have HR := Lib.hid (show ∀ v, v = folB k a b → ∀ W, Below w.heap.size w W → R (.returned (.bool v)) W from fun v hv W g => hR.out _ _ ⟨by rw [hv], g⟩)
  clear hR hl hl' e' hp
  unfold folB at HR
  dsimp only at c0 c1 d0 d1
  obtain ⟨x0, hx0⟩ : ∃ x, a / k = x := ⟨_, rfl⟩
  obtain ⟨x1, hx1⟩ : ∃ x, a % k = x := ⟨_, rfl⟩
  obtain ⟨y0, hy0⟩ : ∃ x, b / k = x := ⟨_, rfl⟩
  obtain ⟨y1, hy1⟩ : ∃ x, b % k = x := ⟨_, rfl⟩
  rw [hx0] at c0 HR
  rw [hx1] at c1 HR
  rw [hy0] at d0 HR
  rw [hy1] at d1 HR
  clear hx0 hx1 hy0 hy1
  have ia : (a : Int) < (q : Int) := by omega
  have ib : (b : Int) < (q : Int) := by omega
  by_cases h1 : x0 ≤ y0
  · have i1 := tr_int h1
    by_cases h2 : x1 ≤ y1
    · have i2 := tr_int h2
      have HF := Lib.hid (HR.out true (by simp [h1, h2]))
      clear h1 h2 HR
      go_enter Tryz.func41, Tryz.ntmps41
      go_upto_region 1 with fail
      go_region
      all_goals
        go_wp2_with fail
        exact HF.out _ (Below.alloc (below_new w _) (by simp) _).drew
    · have i2 := no_int h2
      have HF := Lib.hid (HR.out false (by simp [h2]))
      clear h1 h2 HR
      go_enter Tryz.func41, Tryz.ntmps41
      go_upto_region 1 with fail
      go_region
      all_goals
        go_wp2_with fail
        exact HF.out _ (Below.alloc (below_new w _) (by simp) _).drew
  · have i1 := no_int h1
    have HF := Lib.hid (HR.out false (by simp [h1]))
    clear h1 HR
    go_enter Tryz.func41, Tryz.ntmps41
    go_upto_region 1 with fail
    go_region
    all_goals
      go_wp2_with fail
      exact HF.out _ (Below.alloc (below_new w _) (by simp) _).drew
end
end
section
section
open Go.RowKit
theorem onF_no {f : Nat → Nat → Int} {k a l t : Nat} (h : ¬ (0 ≤ leftF a l t ∧ folB k a t = true ∧ f t (leftF a l t).toNat ≠ -1 ∧ ((onF f k a l t).1 = -1 ∨ f t (leftF a l t).toNat < (onF f k a l t).1))) : onF f k a l (t + 1) = onF f k a l t := by
  rw [onF, if_neg h]
theorem onF_yes {f : Nat → Nat → Int} {k a l t : Nat} (h : 0 ≤ leftF a l t ∧ folB k a t = true ∧ f t (leftF a l t).toNat ≠ -1 ∧ ((onF f k a l t).1 = -1 ∨ f t (leftF a l t).toNat < (onF f k a l t).1)) : onF f k a l (t + 1) = (f t (leftF a l t).toNat, t) := by
  rw [onF, if_pos h]
theorem leftF_eq {a l t : Nat} (h : t = a) : leftF a l t = (l : Int) := by unfold leftF; rw [if_pos h]
theorem leftF_ne {a l t : Nat} (h : ¬ t = a) : leftF a l t = (l : Int) - 1 := by unfold leftF; rw [if_neg h]
/-- What onward reads of the table. -/
structure OnR (W : World) (sb tb rb : Nat) (pa : Option Addr) (q pc n u c1 k : Nat) (f : Nat → Nat → Int) : Prop where
  c5 : W.cell? ⟨sb, 5, none⟩ = some (.slice pa q pc)
  c7 : W.cell? ⟨sb, 7, none⟩ = some (.slice (some ⟨tb, 0, none⟩) n n)
  lsb : sb < W.heap.size
  ltb : tb < W.heap.size
  lrb : rb < W.heap.size
  pk : SlE pkE 2 W pa q (pks k q)
  ct : W.cell? ⟨tb, u, none⟩ = some (.slice (some ⟨rb, 0, none⟩) q q)
  rows : ∀ t, t < q → ∃ cb, cb < W.heap.size ∧ W.cell? ⟨rb, t, none⟩ = some (.slice (some ⟨cb, 0, none⟩) c1 c1) ∧ ∀ l, l < c1 → W.cell? ⟨cb, l, none⟩ = some (.int .i64 (f t l))
theorem OnR.below {W W' : World} {sb tb rb : Nat} {pa : Option Addr} {q pc n u c1 k : Nat} {f : Nat → Nat → Int} (h : OnR W sb tb rb pa q pc n u c1 k f) (hb : Below W.heap.size W W') : OnR W' sb tb rb pa q pc n u c1 k f :=
  ⟨(hb.cell h.lsb).trans h.c5, (hb.cell h.lsb).trans h.c7, Nat.lt_of_lt_of_le h.lsb hb.size, Nat.lt_of_lt_of_le h.ltb hb.size, Nat.lt_of_lt_of_le h.lrb hb.size, h.pk.below hb, (hb.cell h.ltb).trans h.ct, fun t ht => by
    obtain ⟨cb, a1, a2, a3⟩ := h.rows t ht
    exact ⟨cb, Nat.lt_of_lt_of_le a1 hb.size, (hb.cell h.lrb).trans a2, fun l hl => (hb.cell a1).trans (a3 l hl)⟩⟩
set_option maxRecDepth 16000 in
set_option maxHeartbeats 8000000 in
theorem onward_any (sb tb rb : Nat) (pa : Option Addr) (q pc n c1 k : Nat) (f : Nat → Nat → Int) (cu a l : Nat) (w : World) (h : OnR w sb tb rb pa q pc n (cu + 1) c1 k f) (hu : cu + 1 < n) (hn : n ≤ 1000) (ha : a < q) (hq : q ≤ 1000) (hl : l < c1) (hc1 : c1 ≤ 1000) :
    Calls Tryz.prog 18 #[.pointer (some ⟨sb, 0, none⟩), .int .i64 (cu : Nat), .int .i64 (a : Nat), .int .i64 (l : Nat)] w fun e w' => e = .returned (.tuple #[.int .i64 (onF f k a l q).1, .int .i64 ((onF f k a l q).2 : Nat)]) ∧ Below w.heap.size w w' := by
  refine calls_cps ?_
  intro R hR
  have HR := Lib.hid (show ∀ x : Int × Nat, x = onF f k a l q → ∀ W, Below w.heap.size w W → R (.returned (.tuple #[.int .i64 x.1, .int .i64 (x.2 : Nat)])) W from fun v hv W g => hR.out _ _ ⟨by rw [hv], g⟩)
  clear hR
  have H := Lib.hid h
  obtain ⟨u5, u7, us, ut, ur, -, uc, -⟩ := h
  go_enter Tryz.func18, Tryz.ntmps18
  go_wp2_with fail
  clear u5 u7 us ut ur uc
  go_loopw [10, 11, 12, 13, 14, 20] (fun s10 s11 _ _ _ s20 wr => ∃ (t : Nat) (x : Int × Nat), s20 = .int .i64 (t : Nat) ∧ t ≤ q ∧ s10 = .int .i64 x.1 ∧ s11 = .int .i64 (x.2 : Nat) ∧ Hid (x = onF f k a l t) ∧ Hid (Below w.heap.size w wr)) (fun _ _ _ _ _ s20 _ => q - (intOf s20).toNat)
  case atStart => exact ⟨0, (-1, 0), rfl, Nat.zero_le _, rfl, rfl, Lib.hid rfl, Lib.hid (Below.refl _ _)⟩
  case round =>
    obtain ⟨t, ⟨x1, x2⟩, rfl, ht, rfl, rfl, Hx, HB⟩ := hrel
    by_cases hlt : t < q
    · have i1 : (t : Int) < (q : Int) := by omega
      have HW := Lib.hid (H.out.below HB.out)
      obtain ⟨u5, u7, us, ut, ur, up, uc, uro⟩ := HW.out
      have Hfol := Lib.hid (follows_any sb pa q pc k a t wr u5 us up ha hlt)
      obtain ⟨cb, v1, v2, v3⟩ := uro t hlt
      have HB3 := Lib.hid (fun W (hb : Below wr.heap.size wr W) => HB.out.trans (hb.mono HB.out.size))
      clear up uro v1 v2
      have Hx1 := Lib.hid (show (onF f k a l t).1 = x1 from by rw [← Hx.out])
      by_cases he : t = a
      · subst he
        have HLF := Lib.hid (leftF_eq (a := t) (l := l) (t := t) rfl)
        go_upto_region 8 with fail
        have i3 : ¬ ((l : Nat) : Int) < 0 := by omega
        obtain ⟨c, hc⟩ : ∃ c, f t l = c := ⟨_, rfl⟩
        have Hc := Lib.hid (show f t (leftF t l t).toNat = c from by rw [HLF.out, Int.toNat_natCast]; exact hc)
        have Hp := Lib.hid (show 0 ≤ leftF t l t from by rw [HLF.out]; omega)
        have i4 : ((l : Nat) : Int) < (c1 : Int) := by omega
        clear hc
        cases hf : folB k t t with
        | false =>
          rw [hf] at Hfol
          have Hn := Lib.hid (Hx.out.trans (onF_no (f := f) (k := k) (a := t) (l := l) (t := t) (fun hh => by rw [hf] at hh; exact absurd hh.2.1 (by simp))).symm)
          go_wp2_with ((with_reducible refine Hfol.out.mono ?_); rintro e w3 ⟨rfl, hb3⟩)
          exact ⟨⟨t + 1, (x1, x2), by go_num, by omega, rfl, rfl, Hn, Lib.hid (HB3.out _ hb3)⟩, by simp [intOf]; omega⟩
        | true =>
          rw [hf] at Hfol
          go_upto_region 9 with ((with_reducible refine Hfol.out.mono ?_); rintro e w3 ⟨rfl, hb3⟩; have HB4 := Lib.hid (HB3.out _ hb3); have HW3 := Lib.hid (HW.out.below hb3); clear hb3)
          clear u5 u7 us ut ur uc v3
          obtain ⟨u5, u7, us, ut, ur, -, uc, uro⟩ := HW3.out
          obtain ⟨cb, v1, v2, v3⟩ := uro t hlt
          have v4 := v3 l (by omega)
          rw [show f t l = c from by have := Hc.out; rwa [HLF.out, Int.toNat_natCast] at this] at v4
          clear uro v3
          have j1 : ((cu : Nat) : Int) + 1 < (n : Int) := by omega
          go_upto_region 10 with fail
          by_cases h1 : c = -1
          · have Hn := Lib.hid (Hx.out.trans (onF_no (f := f) (k := k) (a := t) (l := l) (t := t) (fun hh => hh.2.2.1 (by rw [Hc.out]; exact h1))).symm)
            go_wp2_with fail
            exact ⟨⟨t + 1, (x1, x2), by go_num, by omega, rfl, rfl, Hn, HB4⟩, by simp [intOf]; omega⟩
          · by_cases h2 : x1 = -1
            · have Hn := Lib.hid (show (c, t) = onF f k t l (t + 1) from by rw [onF_yes ⟨Hp.out, hf, by rw [Hc.out]; exact h1, .inl (by rw [Hx1.out]; exact h2)⟩, Hc.out])
              go_wp2_with fail
              exact ⟨⟨t + 1, (c, t), by go_num, by omega, rfl, rfl, Hn, HB4⟩, by simp [intOf]; omega⟩
            · by_cases h3 : c < x1
              · have Hn := Lib.hid (show (c, t) = onF f k t l (t + 1) from by rw [onF_yes ⟨Hp.out, hf, by rw [Hc.out]; exact h1, .inr (by rw [Hx1.out, Hc.out]; exact h3)⟩, Hc.out])
                go_wp2_with fail
                exact ⟨⟨t + 1, (c, t), by go_num, by omega, rfl, rfl, Hn, HB4⟩, by simp [intOf]; omega⟩
              · have Hn := Lib.hid (Hx.out.trans (onF_no (f := f) (k := k) (a := t) (l := l) (t := t) (fun hh => hh.2.2.2.elim (fun h => h2 (by rw [← Hx1.out]; exact h)) (fun h => h3 (by rw [Hx1.out, Hc.out] at h; exact h)))).symm)
                have h4 : (x1 == -1) = false := by simpa using h2
                have h6 : (c != -1) = true := by simpa using h1
                have h5 : decide (c < x1) = false := decide_eq_false h3
                clear h3
                go_wp2_with fail
                exact ⟨⟨t + 1, (x1, x2), by go_num, by omega, rfl, rfl, Hn, HB4⟩, by simp [intOf]; omega⟩
      · have i2 : ¬ (t : Int) = (a : Int) := by omega
        have HL0 := Lib.hid (leftF_ne (a := a) (l := l) he)
        rcases Nat.eq_zero_or_pos l with h0 | h0
        · have i3 : (l : Int) - 1 < 0 := by omega
          have Hn := Lib.hid (Hx.out.trans (onF_no (f := f) (k := k) (a := a) (l := l) (t := t) (fun hh => by have := hh.1; rw [HL0.out] at this; omega)).symm)
          have h0i : (l : Int) = 0 := by omega
          clear h0
          go_wp2_with fail
          exact ⟨⟨t + 1, (x1, x2), by go_num, by omega, rfl, rfl, Hn, HB⟩, by simp [intOf]; omega⟩
        · obtain ⟨l2, hl2⟩ : ∃ l2 : Nat, (l : Int) - 1 = (l2 : Int) := ⟨l - 1, by omega⟩
          have HLF := Lib.hid (HL0.out.trans hl2)
          clear HL0
          go_upto_region 8 with fail
          have i3 : ¬ ((l2 : Nat) : Int) < 0 := by omega
          obtain ⟨c, hc⟩ : ∃ c, f t l2 = c := ⟨_, rfl⟩
          have Hc := Lib.hid (show f t (leftF a l t).toNat = c from by rw [HLF.out, Int.toNat_natCast]; exact hc)
          have Hp := Lib.hid (show 0 ≤ leftF a l t from by rw [HLF.out]; omega)
          have i4 : ((l2 : Nat) : Int) < (c1 : Int) := by omega
          clear hc
          cases hf : folB k a t with
          | false =>
            rw [hf] at Hfol
            have Hn := Lib.hid (Hx.out.trans (onF_no (f := f) (k := k) (a := a) (l := l) (t := t) (fun hh => by rw [hf] at hh; exact absurd hh.2.1 (by simp))).symm)
            go_wp2_with ((with_reducible refine Hfol.out.mono ?_); rintro e w3 ⟨rfl, hb3⟩)
            exact ⟨⟨t + 1, (x1, x2), by go_num, by omega, rfl, rfl, Hn, Lib.hid (HB3.out _ hb3)⟩, by simp [intOf]; omega⟩
          | true =>
            rw [hf] at Hfol
            go_upto_region 9 with ((with_reducible refine Hfol.out.mono ?_); rintro e w3 ⟨rfl, hb3⟩; have HB4 := Lib.hid (HB3.out _ hb3); have HW3 := Lib.hid (HW.out.below hb3); clear hb3)
            clear u5 u7 us ut ur uc v3
            obtain ⟨u5, u7, us, ut, ur, -, uc, uro⟩ := HW3.out
            obtain ⟨cb, v1, v2, v3⟩ := uro t hlt
            have v4 := v3 l2 (by omega)
            rw [show f t l2 = c from by have := Hc.out; rwa [HLF.out, Int.toNat_natCast] at this] at v4
            clear uro v3
            have j1 : ((cu : Nat) : Int) + 1 < (n : Int) := by omega
            go_upto_region 10 with fail
            by_cases h1 : c = -1
            · have Hn := Lib.hid (Hx.out.trans (onF_no (f := f) (k := k) (a := a) (l := l) (t := t) (fun hh => hh.2.2.1 (by rw [Hc.out]; exact h1))).symm)
              go_wp2_with fail
              exact ⟨⟨t + 1, (x1, x2), by go_num, by omega, rfl, rfl, Hn, HB4⟩, by simp [intOf]; omega⟩
            · by_cases h2 : x1 = -1
              · have Hn := Lib.hid (show (c, t) = onF f k a l (t + 1) from by rw [onF_yes ⟨Hp.out, hf, by rw [Hc.out]; exact h1, .inl (by rw [Hx1.out]; exact h2)⟩, Hc.out])
                go_wp2_with fail
                exact ⟨⟨t + 1, (c, t), by go_num, by omega, rfl, rfl, Hn, HB4⟩, by simp [intOf]; omega⟩
              · by_cases h3 : c < x1
                · have Hn := Lib.hid (show (c, t) = onF f k a l (t + 1) from by rw [onF_yes ⟨Hp.out, hf, by rw [Hc.out]; exact h1, .inr (by rw [Hx1.out, Hc.out]; exact h3)⟩, Hc.out])
                  go_wp2_with fail
                  exact ⟨⟨t + 1, (c, t), by go_num, by omega, rfl, rfl, Hn, HB4⟩, by simp [intOf]; omega⟩
                · have Hn := Lib.hid (Hx.out.trans (onF_no (f := f) (k := k) (a := a) (l := l) (t := t) (fun hh => hh.2.2.2.elim (fun h => h2 (by rw [← Hx1.out]; exact h)) (fun h => h3 (by rw [Hx1.out, Hc.out] at h; exact h)))).symm)
                  have h4 : (x1 == -1) = false := by simpa using h2
                  have h6 : (c != -1) = true := by simpa using h1
                  have h5 : decide (c < x1) = false := decide_eq_false h3
                  clear h3
                  go_wp2_with fail
                  exact ⟨⟨t + 1, (x1, x2), by go_num, by omega, rfl, rfl, Hn, HB4⟩, by simp [intOf]; omega⟩
    · obtain rfl : q = t := by omega
      have i1 : ¬ (q : Int) < (q : Int) := by omega
      go_wp2_with fail
      exact HR.out (x1, x2) Hx.out _ HB.out
end
end
end Go.Proofs.YtojbldoekalbnaaGreatDoor
