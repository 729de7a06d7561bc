/-
  The contract of match.total: it tells what the document's Total tells; condition: the table is valid.
-/
import Derived.Test.YtjdhcdoekfikpaaMCut
namespace Go.Proofs.Ytjdhcdoekfikpaa
open Go.RowKit

theorem taken_set {l : List Int} {taken : List Bool} {m k j : Nat} (hl : taken.length = m) (h : ∀ j, j < m → (taken.getD j false = true ↔ ∃ i, i < k ∧ l.getD i 0 = (j : Int))) (hj : l.getD k 0 = (j : Int)) :
    ∀ a, a < m → ((taken.set j true).getD a false = true ↔ ∃ i, i < k + 1 ∧ l.getD i 0 = (a : Int)) := fun a ha => by
  by_cases e : j = a
  · subst e
    rw [List.getD_eq_getElem?_getD, List.getElem?_set_self (by omega)]
    exact ⟨fun _ => ⟨k, by omega, hj⟩, fun _ => rfl⟩
  · have h1 : (taken.set j true).getD a false = taken.getD a false := by rw [List.getD_eq_getElem?_getD, List.getElem?_set_ne e, List.getD_eq_getElem?_getD]
    rw [h1, h a ha]
    constructor
    · rintro ⟨i, hi, hv⟩; exact ⟨i, by omega, hv⟩
    · rintro ⟨i, hi, hv⟩
      by_cases e2 : i = k
      · subst e2; rw [hj] at hv; omega
      · exact ⟨i, by omega, hv⟩
set_option maxRecDepth 100000 in
set_option maxHeartbeats 4000000 in
theorem total_any (A : Option Addr) (n c m : Nat) (T : List (List Int)) (A2 : Option Addr) (L c2 : Nat) (l : List Int) (w : World) (hT : SlR w A n T) (hok : TOk T m) (hA : SlE intE 1 w A2 L l) (hL : L ≤ 9223372036854775807) :
    Calls Try.prog 57 #[.slice A n c, .slice A2 L c2] w fun e w' => (TotOk T m l ∧ e = .returned (.tuple #[.int .i64 (totS T l n), .bool true]) ∨ ¬ TotOk T m l ∧ e = .returned (.tuple #[.int .i64 0, .bool false])) ∧ Below w.heap.size w w' := by
  refine calls_cps ?_
  intro R hR
  have hn1 : 1 ≤ n := by rw [hT.1]; exact hok.n1
  obtain ⟨b, o, A0, c0, rfl, hh⟩ := hT.head (by omega)
  rw [hok.wid] at hh
  have hm64 := hok.m64
  have hnm : n ≤ m := by rw [hT.1]; exact hok.nm
  have hm1 : 1 ≤ m := by omega
  have Hno := Lib.hid (show ∀ W, Below w.heap.size w W → ¬ TotOk T m l → R (.returned (.tuple #[.int .i64 0, .bool false])) W from fun W hq h => hR.out _ _ ⟨.inr ⟨h, rfl⟩, hq⟩)
  have Hyes := Lib.hid (show ∀ W s, Below w.heap.size w W → TotOk T m l → s = totS T l n → R (.returned (.tuple #[.int .i64 s, .bool true])) W from fun W s hq h e => hR.out _ _ ⟨.inl ⟨h, by rw [e]⟩, hq⟩)
  have Hn := Lib.hid hT.1
  have Hl := Lib.hid hA.1
  have HT := Lib.hid hT
  have HA := Lib.hid hA
  have Hok := Lib.hid hok
  have i0 : 0 < n := by omega
  clear hR hT hA hok
  by_cases hLn : L = n
  · subst hLn
    have g0 : ((L : Int) != (L : Int)) = false := by simp
    go_enter Try.func57, Try.ntmps57
    go_wp2_with (at_make; refine wpList_mkZ rfl (.tmp 18) (.tmp 18) _ rfl 4 Try.underlying91 infoBool rfl (by omega) _ m rfl rfl rfl (by omega) ?_; intro w2 hw2 hg2)
    have hB : BlkB w2 w.heap.size (List.replicate m false) := by unfold BlkB; rw [List.map_replicate]; exact hw2
    have hb : Below w.heap.size w w2 := (Below.refl w.heap.size w).grown hg2 (Nat.le_refl _) (fun k hk => by cases hk)
    have HB := Lib.hid hB
    have Hb := Lib.hid hb
    obtain ⟨bk, hbk⟩ : ∃ bk, w.heap.size = bk := ⟨_, rfl⟩
    have hbk' : w.heap.size ≤ bk := Nat.le_of_eq hbk
    rw [hbk] at HB
    generalize hsl : (Value.slice (some ⟨w.heap.size, 0, none⟩) m m) = vs
    rw [hbk] at hsl
    subst hsl
    clear hw2 hg2 hB hb hbk hh
    go_wp2_with fail
    go_loopg [7, 8, 9, 22] L (fun gk s7 s8 s9 s22 wr => ∃ (k : Nat) (taken : List Bool), k + gk = L ∧ s22 = .int .i64 ((k : Nat) : Int) ∧ s7 = .int .i64 (totS T l k) ∧ Hid (okP T m l k) ∧ taken.length = m ∧ Hid (∀ j, j < m → (taken.getD j false = true ↔ ∃ i, i < k ∧ l.getD i 0 = (j : Int))) ∧ BlkB wr bk taken ∧ Below w.heap.size w wr)
    case atStart => exact ⟨0, _, by omega, rfl, rfl, Lib.hid (okP_zero T m l), by simp, Lib.hid (fun j hj => by simp [List.getD_eq_getElem?_getD, hj]), HB.out, Hb.out⟩
    case round =>
      obtain ⟨k, taken, hgk, rfl, rfl, Ho, htl, Htk, hB, hb⟩ := hrel
      obtain ⟨wi, rfl⟩ : ∃ wi : World, wi = wr := ⟨_, rfl⟩
      by_cases hlt : k < L
      · obtain ⟨b2, o2, x, rfl, _, hx, q0⟩ := (HA.out.below hb).at1 hlt
        have i1 : (k : Int) < (L : Int) := by omega
        have hgx : l.getD k 0 = x := by rw [List.getD_eq_getElem?_getD, hx]; rfl
        have hsb := totS_bd Hok.out (k := k) (by rw [← Hn.out]; omega) Ho.out
        obtain ⟨s, hs⟩ : ∃ s, totS T l k = s := ⟨_, rfl⟩
        rw [hs] at hsb ⊢
        have Hs := Lib.hid hs
        have Hgx := Lib.hid hgx
        have Hb2 := Lib.hid hb
        have HB2 := Lib.hid hB
        have Htl := Lib.hid htl
        clear hx hgx hs hb hB htl
        by_cases hxr : 0 ≤ x ∧ x < (m : Int)
        · obtain ⟨j, rfl⟩ : ∃ j : Nat, x = j := ⟨x.toNat, by omega⟩
          have hjm : j < m := by omega
          obtain ⟨d1, d2⟩ := HB2.out.at_ (k := j) (by rw [Htl.out]; exact hjm)
          have i2 : (j : Int) < (m : Int) := by omega
          have k1 : decide ((j : Int) < 0) = false := decide_eq_false (by omega)
          have k2 : decide ((m : Int) ≤ (j : Int)) = false := decide_eq_false (by omega)
          have k3 : decide (m ≤ j) = false := decide_eq_false (by omega)
          clear hxr
          cases htj : taken.getD j false with
          | true =>
            rw [htj] at d1
            have Hf := Lib.hid (Hno.out wi Hb2.out (fun ht => by
              obtain ⟨i, hi, hv⟩ := (Htk.out j hjm).1 htj
              have h4 := (ht.2 k (by rw [← Hn.out]; exact hlt)).2.2.2 i hi
              rw [Hgx.out] at h4
              exact h4 hv))
            clear htj
            go_wp2
            exact Hf.out
          | false =>
            rw [htj] at d1
            have Htj := Lib.hid htj
            clear htj
            obtain ⟨b', o', Ai, ci, bi, oi, e, _, _, t1, rfl, t2⟩ := table_at HT.out Hok.out.rect Hb2.out hlt hjm
            simp only [Option.some.injEq, Addr.mk.injEq, and_true] at e
            obtain ⟨rfl, rfl⟩ := e
            have hcb := Hok.out.costOk k j (by rw [← Hn.out]; exact hlt) hjm
            obtain ⟨y, hy⟩ : ∃ y, ct T k j = y := ⟨_, rfl⟩
            rw [hy] at t2 hcb
            have Hy := Lib.hid hy
            clear hy
            by_cases hy0 : y = -1
            · have g3 : (y == -1) = true := by simp [hy0]
              have Hf := Lib.hid (Hno.out wi Hb2.out (fun ht => by
                have h3 := (ht.2 k (by rw [← Hn.out]; exact hlt)).2.2.1
                rw [Hgx.out] at h3
                simp only [Int.toNat_natCast] at h3
                rw [Hy.out] at h3
                omega))
              clear hy0
              go_wp2
              exact Hf.out
            · have g3 : (y == -1) = false := by simpa using hy0
              have hy1 : 0 ≤ y := by omega
              have hb3 := Hb2.out.setCell (p := ⟨bk, j, none⟩) hbk' (.bool true)
              have hB3 := HB2.out.set j true
              obtain ⟨b', o', Ai', ci', bi', oi', e, _, _, t3, e5, t4⟩ := table_at HT.out Hok.out.rect hb3 hlt hjm
              simp only [Option.some.injEq, Addr.mk.injEq, and_true] at e
              obtain ⟨rfl, rfl⟩ := e
              rw [Hy.out] at t4
              have z1 : IntKind.i64.wrap (s + y) = s + y := IntWalk.i64_in _ (by omega)
              have HO := Lib.hid (okP_succ Ho.out (by rw [Hgx.out]; omega) (by rw [Hgx.out]; omega) (by rw [Hgx.out]; simp only [Int.toNat_natCast]; rw [Hy.out]; omega) (fun i hi => by
                rw [Hgx.out]
                intro hv
                have := (Htk.out j hjm).2 ⟨i, hi, hv⟩
                rw [Htj.out] at this
                exact absurd this (by simp)))
              have Hst := Lib.hid (show totS T l (k + 1) = s + y by
                have h := Hs.out
                unfold totS at h ⊢
                rw [sumN, h, Hgx.out]
                simp only [Int.toNat_natCast]
                rw [Hy.out])
              have HTk := Lib.hid (taken_set Htl.out Htk.out Hgx.out)
              have HB3 := Lib.hid hB3
              have Hb3 := Lib.hid hb3
              clear hb3 hB3
              go_wp2_with fail
              go_roundg (gk - 1)
              case measure => omega
              case rel => exact ⟨k + 1, _, by omega, by go_num, by rw [Hst.out], HO, by rw [List.length_set]; exact Htl.out, HTk, HB3.out, Hb3.out⟩
        · have Hf := Lib.hid (Hno.out wi Hb2.out (fun ht => by
            have h1 := ht.2 k (by rw [← Hn.out]; exact hlt)
            rw [Hgx.out] at h1
            omega))
          by_cases hx0 : x < 0
          · have k1 : decide (x < 0) = true := decide_eq_true hx0
            clear hxr
            go_wp2
            exact Hf.out
          · have k1 : decide (x < 0) = false := decide_eq_false hx0
            have hx1 : (m : Int) ≤ x := by omega
            have k2 : decide ((m : Int) ≤ x) = true := decide_eq_true hx1
            clear hxr
            go_wp2
            exact Hf.out
      · obtain rfl : L = k := by omega
        have Hf := Lib.hid (Hyes.out wi _ hb ⟨by rw [← Hl.out, ← Hn.out], by rw [← Hn.out]; exact Ho.out⟩ rfl)
        go_wp2
        exact Hf.out
  · have g0 : ((L : Int) != (n : Int)) = true := by simp; omega
    have Hf := Lib.hid (Hno.out w (Below.refl _ _) (fun ht => hLn (by rw [Hl.out, ht.1, ← Hn.out])))
    go_enter Try.func57, Try.ntmps57
    go_wp2
    exact Hf.out
end Go.Proofs.Ytjdhcdoekfikpaa
