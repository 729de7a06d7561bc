/-
  Contract of the law's path: the marks and the greatest weights by as many rounds as notes; conditions: the links' ends are notes, the tree's numbers are links, the slices read.
-/
import Derived.Test.YtgmphiklkllnlaaTPsb
namespace Go.Proofs.Ytgmphiklkllnlaa
open Go.RowKit
set_option maxRecDepth 8000 in
set_option maxHeartbeats 8000000 in
theorem path_any (N x y : Nat) (A B : Option Addr) (n c m d : Nat) (L : List Lk) (TL : List Int) (w : World) (hS : SlE linkE 3 w A n L) (hT : SlE intE 1 w B m TL) (_hn : n ≤ 9223372036854775807) (hm : m ≤ 1000000) (hL : LkV N L) (hTL : ∀ i ∈ TL, 0 ≤ i ∧ i < n) (hN : N ≤ 64) (hx : x < N) (hy : y < N) :
    Calls Try.prog 28 #[.int .i64 (N : Nat), .slice A n c, .slice B m d, .int .i64 (x : Nat), .int .i64 (y : Nat)] w
      fun e w' => e = .returned (.tuple #[.int .i64 ((prounds (lksL L TL) N (pstart x)).2 y), .bool ((prounds (lksL L TL) N (pstart x)).1 y)]) ∧ Below w.heap.size w w' := by
  refine calls_cps ?_
  intro R hR
  have HS := Lib.hid hS
  have HT := Lib.hid hT
  have HLv := Lib.hid hL
  have HTL := Lib.hid hTL
  have hmk := run_mkBool N (by omega)
  have hmk2 := run_mkInt N (by omega)
  have hnew := heap_alloc_new w (.cells (madeCells #[Value.bool false] N) 4)
  have hbw := below_new w (.cells (madeCells #[Value.bool false] N) 4)
  have hz1 : (w.alloc (.cells (madeCells #[Value.bool false] N) 4)).heap.size = w.heap.size + 1 := by simp
  obtain ⟨w1, hw1⟩ : ∃ w1, w.alloc (.cells (madeCells #[Value.bool false] N) 4) = w1 := ⟨_, rfl⟩
  rw [hw1] at hnew hbw hz1
  have hnew2 := heap_alloc_new w1 (.cells (madeCells #[Value.int .i64 0] N) 3)
  have hbw2 := below_new w1 (.cells (madeCells #[Value.int .i64 0] N) 3)
  obtain ⟨w2, hw2⟩ : ∃ w2, w1.alloc (.cells (madeCells #[Value.int .i64 0] N) 3) = w2 := ⟨_, rfl⟩
  rw [hw2] at hnew2 hbw2
  rw [hz1] at hnew2
  obtain ⟨g, hg⟩ : ∃ g, w.heap.size = g := ⟨_, rfl⟩
  rw [hg] at hnew hnew2 hbw hR hz1
  have hq0 : Pq w2 g N (fun _ => false, fun _ => 0) := ⟨BlkF.made ((hbw2.block _ (by omega)).trans hnew), BlkI.made hnew2⟩
  have hb2 : Below g w w2 := hbw.trans (hbw2.mono (by omega))
  have c0 := hq0.f.cell hx
  have f0 := hq0.f.frozen
  have hk3 := kx_setg (Kx.refl (fun j => j = g) w2) x (.bool true)
  have hq3 : Pq (w2.setCell ⟨g, x, none⟩ (.bool true)) g N (pstart x) := ⟨(hq0.f.set x).congr (fun i _ => by unfold pstart; simp), hq0.w.kx hk3 (by omega)⟩
  have hbz : Below g w (w2.setCell ⟨g, x, none⟩ (.bool true)) := Kx.low hb2 hk3 (fun j hj => by omega) (by have := hb2.size; omega)
  have HQ := Lib.hid hq3
  have HBz := Lib.hid hbz
  have hx0 : (0 : Int) ≤ (x : Int) := by omega
  have hxN : (x : Int) < (N : Int) := by omega
  have hy0 : (0 : Int) ≤ (y : Int) := by omega
  have hyN : (y : Int) < (N : Int) := by omega
  have hy' := hy
  have Hg := Lib.hid hg
  have Hz1 := Lib.hid hz1
  clear hS hT hL hTL hnew hnew2 hbw hbw2 hq0 hb2 hk3 hq3 hbz hg hz1
  go_enter Try.func28, Try.ntmps28
  go_upto_region 3 with fail
  (try rw [Hg.out])
  (try rw [Hz1.out])
  go_wp2_with fail
  clear c0 f0 hmk hmk2
  obtain ⟨W1, hW1⟩ : ∃ W1, w2.setCell ⟨g, x, none⟩ (.bool true) = W1 := ⟨_, rfl⟩
  rw [hW1] at HQ HBz ⊢
  clear hW1 hw1 hw2
  go_loopg [14, 15, 16] N (fun gk s14 _ _ wr => ∃ k : Nat, s14 = .int .i64 (k : Nat) ∧ k + gk = N ∧ Hid (Pq wr g N (prounds (lksL L TL) k (pstart x))) ∧ Below g w wr)
  case atStart => exact ⟨0, rfl, by omega, HQ, HBz.out⟩
  case round =>
    clear HQ HBz
    obtain ⟨k, rfl, hk, HB, hbw⟩ := hrel
    obtain ⟨wi, rfl⟩ : ∃ wi : World, wi = wr := ⟨_, rfl⟩
    obtain ⟨go, hgo⟩ : ∃ go, gk = go := ⟨_, rfl⟩
    have hkg : k + go = N := by omega
    have Hgo := Lib.hid hgo
    have HBw := Lib.hid hbw
    clear hbw hgo hk
    obtain ⟨q, hq⟩ : ∃ q, prounds (lksL L TL) k (pstart x) = q := ⟨_, rfl⟩
    rw [hq] at HB
    have Hq := Lib.hid hq
    clear hq
    by_cases hlt : k < N
    · have i1 : (k : Int) < (N : Int) := by omega
      go_wp2_with fail
      go_loopg [15, 16] m (fun gk s15 _ wr => ∃ i : Nat, s15 = .int .i64 (i : Nat) ∧ i + gk = m ∧ Hid (Pq wr g N (psweep (lksL L (TL.take i)) q)) ∧ Below g w wr)
      case atStart => exact ⟨0, rfl, by omega, HB, HBw.out⟩
      case round =>
        clear HB HBw
        obtain ⟨i, rfl, hi, HB, hbw⟩ := hrel
        obtain ⟨wo, rfl⟩ : ∃ wo : World, wo = wr := ⟨_, rfl⟩
        have HBw := Lib.hid hbw
        by_cases him : i < m
        · have j1 : (i : Int) < (m : Int) := by omega
          have j0 : (0 : Int) ≤ (i : Int) := by omega
          obtain ⟨b2, o2, xi, rfl, hbl2, hxi, t0⟩ := (HT.out.below (by rw [Hg.out]; exact hbw)).at1 him
          have hxr := HTL.out xi (List.mem_of_getElem? hxi)
          obtain ⟨e, rfl⟩ : ∃ e : Nat, xi = e := ⟨xi.toNat, by omega⟩
          have hen : e < n := by omega
          obtain ⟨bb, oo, l, rfl, hbl, hs, p0, p1, p2⟩ := (HS.out.below (by rw [Hg.out]; exact hbw)).at3 hen
          have hlv := HLv.out l (List.mem_of_getElem? hs)
          have Hst := Lib.hid (psweep_take (L := L) (q := q) hxi (by rw [Int.toNat_natCast]; exact hs))
          obtain ⟨na, hna⟩ : ∃ na : Nat, l.a = na := ⟨l.a.toNat, by omega⟩
          obtain ⟨nb, hnb⟩ : ∃ nb : Nat, l.b = nb := ⟨l.b.toNat, by omega⟩
          obtain ⟨wl, hwl⟩ : ∃ wl, l.w = wl := ⟨_, rfl⟩
          have hnaN : na < N := by omega
          have hnbN : nb < N := by omega
          have hta : l.a.toNat = na := by omega
          have htb : l.b.toNat = nb := by omega
          rw [hna] at p0
          rw [hnb] at p1
          rw [hwl] at p2
          obtain ⟨qi, hqi⟩ : ∃ qi, psweep (lksL L (TL.take i)) q = qi := ⟨_, rfl⟩
          rw [hqi] at HB Hst
          have hlb := heap_alloc_new wo (.cells #[.int .i64 (na : Int), .int .i64 (nb : Int), .int .i64 wl] 42)
          have hbo := below_new wo (.cells #[.int .i64 (na : Int), .int .i64 (nb : Int), .int .i64 wl] 42)
          obtain ⟨bL, hbL⟩ : ∃ bL, wo.heap.size = bL := ⟨_, rfl⟩
          obtain ⟨w3, hw3⟩ : ∃ w3, wo.alloc (.cells #[.int .i64 (na : Int), .int .i64 (nb : Int), .int .i64 wl] 42) = w3 := ⟨_, rfl⟩
          have hgl := HB.out.w.lt
          have hB3 : Pq w3 g N qi := by rw [← hw3]; exact HB.out.below hbo
          have hb3 : Below g w w3 := by rw [← hw3]; exact hbw.trans (hbo.mono (by omega))
          rw [hw3] at hlb hbo
          rw [hbL] at hlb hgl
          have e0 : w3.cell? ⟨bL, 0, none⟩ = some (.int .i64 (na : Int)) := by rw [cell_of_row _ _ 0 _ _ (0, 0) hlb]; rfl
          have e1 : w3.cell? ⟨bL, 1, none⟩ = some (.int .i64 (nb : Int)) := by rw [cell_of_row _ _ 1 _ _ (0, 0) hlb]; rfl
          have e2 : w3.cell? ⟨bL, 2, none⟩ = some (.int .i64 wl) := by rw [cell_of_row _ _ 2 _ _ (0, 0) hlb]; rfl
          have ca := hB3.f.cell hnaN
          have cb := hB3.f.cell hnbN
          have va := hB3.w.cell hnaN
          have vb := hB3.w.cell hnbN
          have fz := hB3.f.frozen
          have fw := hB3.w.frozen
          have k0 : (0 : Int) ≤ (na : Int) := by omega
          have k1 : (na : Int) < (N : Int) := by omega
          have k2 : (0 : Int) ≤ (nb : Int) := by omega
          have k3 : (nb : Int) < (N : Int) := by omega
          have HB3 := Lib.hid hB3
          have Hb3 := Lib.hid hb3
          have Hlb := Lib.hid hlb
          have Htab := Lib.hid (And.intro hta (And.intro htb hwl))
          obtain ⟨fa, hfa⟩ : ∃ v, qi.1 na = v := ⟨_, rfl⟩
          obtain ⟨fb, hfb⟩ : ∃ v, qi.1 nb = v := ⟨_, rfl⟩
          obtain ⟨ua, hua⟩ : ∃ v, qi.2 na = v := ⟨_, rfl⟩
          obtain ⟨ub, hub⟩ : ∃ v, qi.2 nb = v := ⟨_, rfl⟩
          rw [hfa] at ca
          rw [hfb] at cb
          rw [hua] at va
          rw [hub] at vb
          have Hfab := Lib.hid (And.intro hfa (And.intro hfb (And.intro hua hub)))
          clear hbw hs hlv hna hnb hwl hta htb hlb hbo hB3 hb3 hqi HB hxi hxr hfa hfb hua hub
          go_upto_region 11 with fail
          clear t0 p0 p1 p2
          (try rw [hbL])
          as_aux_lemma =>
            cases fa <;> cases fb
            · -- neither
              have hst : psweep (lksL L (TL.take (i + 1))) q = qi := by
                rw [Hst.out]; unfold pstep; rw [Htab.out.1, Htab.out.2.1, Hfab.out.1, Hfab.out.2.1]; simp
              have Hn := Lib.hid hst
              clear hst
              go_wp2_with fail
              go_roundg (gk - 1)
              case measure => omega
              case rel => exact ⟨i + 1, by go_num, by omega, Lib.hid (by rw [Hn.out]; exact HB3.out), Hb3.out⟩
            · -- the second end
              have hst : psweep (lksL L (TL.take (i + 1))) q = (fun i => qi.1 i || decide (i = na), fun i => if i = na then max ub wl else qi.2 i) := by
                rw [Hst.out]; unfold pstep; rw [Htab.out.1, Htab.out.2.1, Hfab.out.1, Hfab.out.2.1, Hfab.out.2.2.2, Htab.out.2.2]; simp
              have Hn := Lib.hid hst
              clear hst
              have hput := HB3.out.put na (max ub wl)
              have hkp : Kx (fun j => j = g ∨ j = g + 1) w3 (((w3.setCell ⟨g, na, none⟩ (.bool true)).setCell ⟨g + 1, na, none⟩ (.int .i64 (max ub wl))).drew) :=
                (Kx.drew ((kx_setg (Kx.refl (fun j => j = g) w3) na (.bool true)).mono (T := fun j => j = g ∨ j = g + 1) (fun j hj => .inl hj) |> fun h => h.trans ((kx_setg (Kx.refl (fun j => j = g + 1) _) na (.int .i64 (max ub wl))).mono (T := fun j => j = g ∨ j = g + 1) (fun j hj => .inr hj)) (fun _ _ h => h)))
              have s1 := ((HB3.out.f.set na)).cell hnaN
              have sw := (HB3.out.w.kx (kx_setg (Kx.refl (fun j => j = g) w3) na (.bool true)) (by omega)).cell hnaN
              have sz := (HB3.out.w.kx (kx_setg (Kx.refl (fun j => j = g) w3) na (.bool true)) (by omega)).frozen
              go_wp2_with fail
              go_region
              clear s1 sw sz ca cb va vb fz fw e0 e1 e2
              as_aux_lemma =>
                obtain ⟨W9, hW9⟩ : ∃ W9, ((w3.setCell ⟨g, na, none⟩ (.bool true)).setCell ⟨g + 1, na, none⟩ (.int .i64 (max ub wl))).drew = W9 := ⟨_, rfl⟩
                rw [hW9] at hput hkp ⊢
                have Hp := Lib.hid hput
                have Hb9 := Lib.hid (Kx.low Hb3.out hkp (fun j hj => by omega) (by have := HB3.out.f.lt; omega))
                clear hW9 hput hkp
                go_wp2_with fail
                go_roundg (gk - 1)
                case measure => omega
                case rel => exact ⟨i + 1, by go_num, by omega, Lib.hid (by rw [Hn.out]; exact Hp.out), Hb9.out⟩
            · -- the first end
              have hst : psweep (lksL L (TL.take (i + 1))) q = (fun i => qi.1 i || decide (i = nb), fun i => if i = nb then max ua wl else qi.2 i) := by
                rw [Hst.out]; unfold pstep; rw [Htab.out.1, Htab.out.2.1, Hfab.out.1, Hfab.out.2.1, Hfab.out.2.2.1, Htab.out.2.2]; simp
              have Hn := Lib.hid hst
              clear hst
              have hput := HB3.out.put nb (max ua wl)
              have hkp : Kx (fun j => j = g ∨ j = g + 1) w3 (((w3.setCell ⟨g, nb, none⟩ (.bool true)).setCell ⟨g + 1, nb, none⟩ (.int .i64 (max ua wl))).drew) :=
                (Kx.drew ((kx_setg (Kx.refl (fun j => j = g) w3) nb (.bool true)).mono (T := fun j => j = g ∨ j = g + 1) (fun j hj => .inl hj) |> fun h => h.trans ((kx_setg (Kx.refl (fun j => j = g + 1) _) nb (.int .i64 (max ua wl))).mono (T := fun j => j = g ∨ j = g + 1) (fun j hj => .inr hj)) (fun _ _ h => h)))
              have s1 := ((HB3.out.f.set nb)).cell hnbN
              have sw := (HB3.out.w.kx (kx_setg (Kx.refl (fun j => j = g) w3) nb (.bool true)) (by omega)).cell hnbN
              have sz := (HB3.out.w.kx (kx_setg (Kx.refl (fun j => j = g) w3) nb (.bool true)) (by omega)).frozen
              go_upto_region 12 with fail
              go_region
              clear s1 sw sz ca cb va vb fz fw e0 e1 e2
              as_aux_lemma =>
                obtain ⟨W9, hW9⟩ : ∃ W9, ((w3.setCell ⟨g, nb, none⟩ (.bool true)).setCell ⟨g + 1, nb, none⟩ (.int .i64 (max ua wl))).drew = W9 := ⟨_, rfl⟩
                rw [hW9] at hput hkp ⊢
                have hlb9 := (hkp.block bL (Array.getElem?_eq_some_iff.1 Hlb.out).1 (by omega)).trans Hlb.out
                have e0 : W9.cell? ⟨bL, 0, none⟩ = some (.int .i64 (na : Int)) := by rw [cell_of_row _ _ 0 _ _ (0, 0) hlb9]; rfl
                have e1 : W9.cell? ⟨bL, 1, none⟩ = some (.int .i64 (nb : Int)) := by rw [cell_of_row _ _ 1 _ _ (0, 0) hlb9]; rfl
                have ca := hput.f.cell hnaN
                have cb := hput.f.cell hnbN
                dsimp only at ca cb
                rw [show (qi.1 na || decide (na = nb)) = true from by rw [Hfab.out.1]; rfl] at ca
                rw [show (qi.1 nb || decide (nb = nb)) = true from by simp] at cb
                have Hp := Lib.hid hput
                have Hb9 := Lib.hid (Kx.low Hb3.out hkp (fun j hj => by omega) (by have := HB3.out.f.lt; omega))
                clear hW9 hput hkp hlb9
                go_wp2_with fail
                go_roundg (gk - 1)
                case measure => omega
                case rel => exact ⟨i + 1, by go_num, by omega, Lib.hid (by rw [Hn.out]; exact Hp.out), Hb9.out⟩
            · -- both
              have hst : psweep (lksL L (TL.take (i + 1))) q = qi := by
                rw [Hst.out]; unfold pstep; rw [Htab.out.1, Htab.out.2.1, Hfab.out.1, Hfab.out.2.1]; simp
              have Hn := Lib.hid hst
              clear hst
              go_wp2_with fail
              go_roundg (gk - 1)
              case measure => omega
              case rel => exact ⟨i + 1, by go_num, by omega, Lib.hid (by rw [Hn.out]; exact HB3.out), Hb3.out⟩
        · obtain rfl : i = m := by omega
          have hr : psweep (lksL L (TL.take i)) q = prounds (lksL L TL) (k + 1) (pstart x) := by
            rw [List.take_of_length_le (by rw [← HT.out.1]; exact Nat.le_refl _), ← Hq.out]; rfl
          rw [hr] at HB
          clear hr
          go_wp2_with fail
          go_roundg (go - 1)
          case measure => have := Hgo.out; omega
          case rel => exact ⟨k + 1, by go_num, by omega, HB, hbw⟩
    · obtain rfl : k = N := by omega
      have hq2 := Hq.out
      have c1 := HB.out.f.cell hy'
      have c2 := HB.out.w.cell hy'
      obtain ⟨qv, hqv⟩ : ∃ v, q.2 y = v := ⟨_, rfl⟩
      obtain ⟨qb, hqb⟩ : ∃ v, q.1 y = v := ⟨_, rfl⟩
      have Hf := Lib.hid (fun W (h : Below g w W) => hR.out (.returned (.tuple #[.int .i64 qv, .bool qb])) W ⟨by rw [← hqv, ← hqb, ← hq2], h⟩)
      rw [hqb] at c1
      rw [hqv] at c2
      clear hR hq2 hqv hqb HB
      go_wp2_with fail
      go_quiet (fail)
      go_wp2_with fail
      exact Hf.out _ (below_drewN HBw.out _)
end Go.Proofs.Ytgmphiklkllnlaa
