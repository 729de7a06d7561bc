/-
  Contract of slices.symMergeCmpFunc where the first part has one element; conditions: the parts lie where the numbers say, the second rises, the element's number is lower than that of as light ones.
-/
import Derived.Test.YtgmphiklkllnlaaTRtt
namespace Go.Proofs.Ytgmphiklkllnlaa
open Go.RowKit
structure BinA (L : List Lk) (x : Int) (Y : List Int) (m i j : Nat) : Prop where
  lo : ∀ y, m < i → Y[i - 1 - m]? = some y → lkW L y < lkW L x
  hi : ∀ y, Y[j - m]? = some y → ¬ lkW L y < lkW L x
theorem nb_one (A B : List Int) (x v : Int) {k : Nat} (hk : A.length = k) : (A ++ x :: (v :: B))[k]? = some x ∧ (A ++ x :: (v :: B))[k + 1]? = some v ∧
    ((A ++ x :: (v :: B)).set k v).set (k + 1) x = A ++ v :: (x :: B) ∧ ((A ++ x :: (v :: B)).set (k + 1) x).set k v = A ++ v :: (x :: B) := by
  have e1 : ∀ z : Int, A ++ z :: (v :: B) = (A ++ [z]) ++ v :: B := fun z => by simp
  have e2 : ∀ z : Int, A ++ z :: (x :: B) = (A ++ [z]) ++ x :: B := fun z => by simp
  refine ⟨get_at _ _ _ hk, ?_, ?_, ?_⟩
  · rw [e1]; exact get_at _ _ _ (by simp [hk])
  · rw [set_at _ _ _ _ hk, e1, set_at _ _ _ _ (by simp [hk]), e2]
  · rw [e1, set_at _ _ _ _ (by simp [hk]), ← e2, set_at _ _ _ _ hk]
set_option maxRecDepth 8000 in
set_option maxHeartbeats 8000000 in
theorem sym1_any (L : List Lk) (A : Option Addr) (n c bl g a m b N cap : Nat) (P Y Q : List Int) (x : Int) (w : World) (hS : Srt w L A n c bl g) (hB : Blk w g (P ++ ([x] ++ (Y ++ Q)))) (ha : P.length = a) (hm : a + 1 = m) (hb : m + Y.length = b)
    (hN : N = (P ++ ([x] ++ (Y ++ Q))).length) (hNs : N ≤ 100000) (_hcap : N ≤ cap) (hv : ∀ z ∈ x :: Y, 0 ≤ z ∧ z < n) (hY : Ris L Y) (hx : ∀ y ∈ Y, lkW L x = lkW L y → x < y) :
    Calls Try.prog 88 #[.slice (some ⟨g, 0, none⟩) N cap, .int .i64 (a : Nat), .int .i64 (m : Nat), .int .i64 (b : Nat), .func (.func 71) #[] #[.pointer (some ⟨bl, 0, none⟩)]] w
      fun e w' => e = .returned (.tuple #[]) ∧ ∃ r, Ris L r ∧ r.Perm (x :: Y) ∧ Blk w' g (P ++ (r ++ Q)) ∧ Kx (fun j => j = g) w w' := by
  refine calls_cps ?_
  intro R hR
  have hlen : b + Q.length = N := by rw [hN, ← hb, ← hm, ← ha]; simp; omega
  have HS := Lib.hid hS
  have HB := Lib.hid hB
  have Hv := Lib.hid hv
  have HY := Lib.hid hY
  have Hx := Lib.hid hx
  have Ha := Lib.hid ha
  obtain ⟨yl, hyl⟩ : ∃ yl, Y.length = yl := ⟨_, rfl⟩
  rw [hyl] at hb
  have Hyl := Lib.hid hyl
  clear hS hB hv hY hx ha hyl hN
  go_enter Try.func88, Try.ntmps88
  have e1 : (m : Int) - (a : Int) = 1 := by omega
  go_wp2_with fail
  go_loopw [10, 11] (fun s10 s11 wr => ∃ (i j : Nat), s10 = .int .i64 (i : Nat) ∧ s11 = .int .i64 (j : Nat) ∧ m ≤ i ∧ i ≤ j ∧ j ≤ b ∧ Hid (BinA L x Y m i j) ∧ Qt w wr) (fun i j _ => (intOf j).toNat - (intOf i).toNat)
  case atStart => exact ⟨m, b, rfl, rfl, Nat.le_refl _, by omega, Nat.le_refl _, Lib.hid ⟨fun y h => absurd h (Nat.lt_irrefl _), fun y h => by rw [List.getElem?_eq_none (by rw [Hyl.out]; omega)] at h; cases h⟩, Qt.refl _⟩
  case round =>
    obtain ⟨i, j, rfl, rfl, hi, hij, hj, HI, q, rfl⟩ := hrel
    by_cases hlt : i < j
    · obtain ⟨h, hh⟩ : ∃ h, (i + j) / 2 = h := ⟨_, rfl⟩
      have h1 : i ≤ h := by omega
      have h2 : h < j := by omega
      have eh : ((i : Int) + (j : Int)) / 2 = (h : Int) := by omega
      obtain ⟨y, hy⟩ : ∃ y, Y[h - m]? = some y := ⟨_, List.getElem?_eq_getElem (by rw [Hyl.out]; omega)⟩
      have hym : y ∈ Y := List.mem_of_getElem? hy
      have hSo : Srt (w.drewN q) L A n c bl g := HS.out.kx ((Kx.refl _ _).drewN q)
      have c0 : (w.drewN q).cell? ⟨g, h, none⟩ = some (.int .i64 y) := HB.out.cell (by
        have e : P ++ ([x] ++ (Y ++ Q)) = (P ++ [x]) ++ (Y ++ Q) := by simp
        rw [e, show h = (P ++ [x]).length + (h - m) by simp [Ha.out]; omega]
        exact part_get hy)
      have c1 : (w.drewN q).cell? ⟨g, a, none⟩ = some (.int .i64 x) := HB.out.cell (get_at P (Y ++ Q) x Ha.out)
      obtain ⟨wo, hwo⟩ : ∃ wo, w.drewN q = wo := ⟨_, rfl⟩
      rw [hwo] at hSo c0 c1 ⊢
      have Hc := Lib.hid (hSo.cmp (Hv.out y (by simp [hym])) (Hv.out x (by simp)))
      have Hwo := Lib.hid hwo
      have hw1 := lkW_bd HS.out.ok x
      have hw2 := lkW_bd HS.out.ok y
      obtain ⟨wx, hwx⟩ : ∃ z, lkW L x = z := ⟨_, rfl⟩
      obtain ⟨wy, hwy⟩ : ∃ z, lkW L y = z := ⟨_, rfl⟩
      rw [hwx] at hw1 Hc
      rw [hwy] at hw2 Hc
      have i1 : (i : Int) < (j : Int) := by omega
      have k1 : (h : Int) < (N : Int) := by omega
      have k0 : (0 : Int) ≤ (h : Int) := by omega
      have k3 : (a : Int) < (N : Int) := by omega
      have k2 : (0 : Int) ≤ (a : Int) := by omega
      have Hy := Lib.hid hy
      have Hw := Lib.hid (And.intro hwx hwy)
      clear hy hwx hwy hym hSo hwo
      by_cases hcw : wy - wx < 0
      · have hcd : decide (wy - wx < 0) = true := by simp [hcw]
        have HI2 := Lib.hid (show BinA L x Y m (h + 1) j from ⟨fun y' _ hy' => by
          rw [show h + 1 - 1 - m = h - m by omega, Hy.out] at hy'
          injection hy' with hy'
          rw [← hy', Hw.out.1, Hw.out.2]; omega, HI.out.hi⟩)
        go_wp2_with fail
        go_quiet ((first | (go_at_call 71; exact Hc.out _) | exact Hc.out _))
        clear c0 c1 hcd
        go_wp2_with fail
        exact ⟨⟨h + 1, j, by go_num, by go_num, by omega, by omega, hj, HI2, q + nq, by rw [← Hwo.out]; exact World.drewN_drewN _ _ _⟩, by simp [intOf]; omega⟩
      · have hcd : decide (wy - wx < 0) = false := by simp; omega
        have HI2 := Lib.hid (show BinA L x Y m i h from ⟨HI.out.lo, fun y' hy' => by
          rw [Hy.out] at hy'
          injection hy' with hy'
          rw [← hy', Hw.out.1, Hw.out.2]; omega⟩)
        go_wp2_with fail
        go_quiet ((first | (go_at_call 71; exact Hc.out _) | exact Hc.out _))
        clear c0 c1 hcd
        go_wp2_with fail
        exact ⟨⟨i, h, by go_num, by go_num, by omega, by omega, by omega, HI2, q + nq, by rw [← Hwo.out]; exact World.drewN_drewN _ _ _⟩, by simp [intOf]; omega⟩
    · obtain rfl : i = j := by omega
      obtain ⟨Y1, Y2, hYe, hY1⟩ := cut_at Y (k := i - m) (by rw [Hyl.out]; omega)
      have hr : Ris L (Y1 ++ x :: Y2) := by
        have hYr := HY.out
        rw [hYe] at hYr
        have hxr : Ris L [x] := List.pairwise_singleton _ _
        have c1 := hYr.app.1.cross hxr (fun l z hl hz => by
          simp only [List.head?_cons, Option.some.injEq] at hz
          subst hz
          obtain ⟨l1, l2⟩ := last_get hl
          left
          refine HI.out.lo l (by omega) ?_
          rw [hYe, List.getElem?_append_left (by omega), show i - 1 - m = Y1.length - 1 by omega]
          exact l2)
        have c2 := hxr.cross hYr.app.2.1 (fun l z hl hz => by
          simp only [List.getLast?_singleton, Option.some.injEq] at hl
          subst hl
          have hz0 := head_get hz
          have hzm : z ∈ Y := by rw [hYe]; exact List.mem_append_right _ (List.mem_of_getElem? hz0)
          have := HI.out.hi z (by rw [hYe, List.getElem?_append_right (by omega), show i - m - Y1.length = 0 by omega]; exact hz0)
          have := Hx.out z hzm
          unfold klt; omega)
        refine hYr.app.1.join (hxr.join hYr.app.2.1 c2) (fun u hu v hv => ?_)
        rcases List.mem_cons.1 hv with rfl | hv
        · exact c1 u hu _ (by simp)
        · exact hYr.app.2.2 u hu v hv
      have hp : (Y1 ++ x :: Y2).Perm (x :: Y) := by rw [hYe]; exact List.perm_middle
      have HR := Lib.hid (show ∀ W, Blk W g (P ++ (Y1 ++ x :: (Y2 ++ Q))) → Kx (fun j => j = g) w W → R (.returned (.tuple #[])) W from fun W hb hk => hR.out _ W ⟨rfl, _, hr, hp, by rw [List.append_assoc]; exact hb, hk⟩)
      have hB0 : Blk (w.drewN q) g (P ++ ([] ++ (x :: (Y1 ++ (Y2 ++ Q))))) := by have := HB.out; rw [hYe, List.append_assoc] at this; exact this
      have HB0 := Lib.hid hB0
      have hy1 : m + Y1.length = i := by omega
      obtain ⟨w0, hw0⟩ : ∃ w0, w.drewN q = w0 := ⟨_, rfl⟩
      have Hk0 := Lib.hid (show Kx (fun j => j = g) w w0 from by rw [← hw0]; exact (Kx.refl _ _).drewN q)
      rw [hw0] at HB0 ⊢
      have u1 : (i : Int) - 1 = ((i - 1 : Nat) : Int) := by omega
      clear hR hr hp hB0 hw0 HY Hx HI Hv HS HB hYe hY1
      go_wp2_with fail
      go_loopw [13] (fun s13 wr => ∃ (k : Nat) (U V : List Int), s13 = .int .i64 (k : Nat) ∧ a ≤ k ∧ Hid (a + U.length = k ∧ U ++ V = Y1 ∧ Blk wr g (P ++ (U ++ (x :: (V ++ (Y2 ++ Q)))))) ∧ Kx (fun j => j = g) w wr) (fun k _ => i - (intOf k).toNat)
      case atStart => exact ⟨a, [], Y1, rfl, Nat.le_refl _, Lib.hid ⟨rfl, rfl, HB0.out⟩, Hk0.out⟩
      case round =>
        obtain ⟨k, U, V, rfl, hak, HU, hk⟩ := hrel
        obtain ⟨wo, rfl⟩ : ∃ wo : World, wo = wr := ⟨_, rfl⟩
        have hVl : k + 1 + V.length = i := by
          have h1 := HU.out.1
          have h2 := congrArg List.length HU.out.2.1
          rw [List.length_append] at h2
          omega
        by_cases hki : k < i - 1
        · obtain ⟨v, V2, hV2⟩ : ∃ v V2, V = v :: V2 := by
            cases h : V with
            | nil => exfalso; rw [h] at hVl; simp at hVl; omega
            | cons v V2 => exact ⟨v, V2, rfl⟩
          subst hV2
          have e0 : P ++ (U ++ (x :: (v :: V2 ++ (Y2 ++ Q)))) = (P ++ U) ++ x :: (v :: (V2 ++ (Y2 ++ Q))) := by simp
          have hbl := HU.out.2.2
          rw [e0] at hbl
          obtain ⟨p1, p2, p3, -⟩ := nb_one (P ++ U) (V2 ++ (Y2 ++ Q)) x v (k := k) (by rw [List.length_append, Ha.out]; exact HU.out.1)
          have c1 := hbl.cell p1
          have c2 := hbl.cell p2
          have f0 := hbl.frozen
          have hb2 := (hbl.set k v).set (k + 1) x
          rw [p3] at hb2
          have Hbk := Lib.hid hb2
          have Hkk := Lib.hid (kx_setg (kx_setg hk k (.int .i64 v)) (k + 1) (.int .i64 x))
          have i1 : (k : Int) < ((i - 1 : Nat) : Int) := by omega
          have j1 : (k : Int) < (N : Int) := by omega
          have j2 : (k : Int) + 1 < (N : Int) := by omega
          have j3 : (0 : Int) ≤ (k : Int) := by omega
          have j4 : (0 : Int) ≤ (k : Int) + 1 := by omega
          have n1 : ¬ k = k + 1 := by omega
          have n2 : ¬ k + 1 = k := by omega
          clear p1 p2 p3 hb2 hbl hk e0
          go_wp2_with fail
          go_region
          clear c1 c2 f0
          obtain ⟨W2, hW2⟩ : ∃ W2, (wo.setCell ⟨g, k, none⟩ (.int .i64 v)).setCell ⟨g, k + 1, none⟩ (.int .i64 x) = W2 := ⟨_, rfl⟩
          rw [hW2] at Hbk Hkk ⊢
          clear hW2
          go_wp2_with fail
          refine ⟨⟨k + 1, U ++ [v], V2, by go_num, by omega, Lib.hid ⟨?_, ?_, ?_⟩, Hkk.out.drew⟩, by simp [intOf]; omega⟩
          · rw [List.length_append, ← HU.out.1]; simp; omega
          · rw [← HU.out.2.1]; simp
          · have := Hbk.out.drew
            rw [show P ++ (U ++ [v] ++ (x :: (V2 ++ (Y2 ++ Q)))) = P ++ U ++ v :: x :: (V2 ++ (Y2 ++ Q)) by simp]
            exact this
        · have hV : V = [] := List.length_eq_zero_iff.1 (by omega)
          have hU : U = Y1 := by rw [← HU.out.2.1, hV, List.append_nil]
          have Hf := Lib.hid (HR.out wo (by have := HU.out.2.2; rw [hV, hU] at this; exact this) hk)
          have i1 : ¬ (k : Int) < ((i - 1 : Nat) : Int) := by omega
          clear HR hk hV hU HU
          go_wp2_with fail
          go_end0
          exact Hf.out
end Go.Proofs.Ytgmphiklkllnlaa
