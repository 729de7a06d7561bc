/-
  Contract of slices.symMergeCmpFunc where the second part has one element and the first has more; conditions: the parts lie where the numbers say, the first rises, the element's number is higher than that of as light ones.
-/
import Derived.Test.YtgmphiklkllnlaaTSy1
namespace Go.Proofs.Ytgmphiklkllnlaa
open Go.RowKit
structure BinB (L : List Lk) (y : Int) (X : List Int) (a i j : Nat) : Prop where
  lo : ∀ x, a < i → X[i - 1 - a]? = some x → ¬ lkW L y < lkW L x
  hi : ∀ x, X[j - a]? = some x → lkW L y < lkW L x
set_option maxRecDepth 8000 in
set_option maxHeartbeats 8000000 in
theorem sym2_any (L : List Lk) (A : Option Addr) (n c bl g a m b N cap : Nat) (P X Q : List Int) (y : Int) (w : World) (hS : Srt w L A n c bl g) (hB : Blk w g (P ++ (X ++ ([y] ++ Q)))) (ha : P.length = a) (hm : a + X.length = m) (hb : m + 1 = b)
    (hN : N = (P ++ (X ++ ([y] ++ Q))).length) (hNs : N ≤ 100000) (_hcap : N ≤ cap) (hX2 : 2 ≤ X.length) (hv : ∀ z ∈ y :: X, 0 ≤ z ∧ z < n) (hX : Ris L X) (hy : ∀ x ∈ X, lkW L x = lkW L y → x < y) :
    Calls Try.prog 88 #[.slice (some ⟨g, 0, none⟩) N cap, .int .i64 (a : Nat), .int .i64 (m : Nat), .int .i64 (b : Nat), .func (.func 71) #[] #[.pointer (some ⟨bl, 0, none⟩)]] w
      fun e w' => e = .returned (.tuple #[]) ∧ ∃ r, Ris L r ∧ r.Perm (X ++ [y]) ∧ Blk w' g (P ++ (r ++ Q)) ∧ Kx (fun j => j = g) w w' := by
  refine calls_cps ?_
  intro R hR
  have hlen : b + Q.length = N := by rw [hN, ← hb, ← hm, ← ha]; simp; omega
  have HS := Lib.hid hS
  have HB := Lib.hid hB
  have Hv := Lib.hid hv
  have HX := Lib.hid hX
  have Hy := Lib.hid hy
  have Ha := Lib.hid ha
  obtain ⟨xl, hxl⟩ : ∃ xl, X.length = xl := ⟨_, rfl⟩
  rw [hxl] at hm hX2
  have Hxl := Lib.hid hxl
  clear hS hB hv hX hy ha hxl hN
  go_enter Try.func88, Try.ntmps88
  have e1 : ((m : Int) - (a : Int) == 1) = false := by simp; omega
  have e2 : (b : Int) - (m : Int) = 1 := by omega
  go_wp2_with fail
  go_loopw [14, 15] (fun s14 s15 wr => ∃ (i j : Nat), s14 = .int .i64 (i : Nat) ∧ s15 = .int .i64 (j : Nat) ∧ a ≤ i ∧ i ≤ j ∧ j ≤ m ∧ Hid (BinB L y X a i j) ∧ Qt w wr) (fun i j _ => (intOf j).toNat - (intOf i).toNat)
  case atStart => exact ⟨a, m, rfl, rfl, Nat.le_refl _, by omega, Nat.le_refl _, Lib.hid ⟨fun y h => absurd h (Nat.lt_irrefl _), fun y h => by rw [List.getElem?_eq_none (by rw [Hxl.out]; omega)] at h; cases h⟩, Qt.refl _⟩
  case round =>
    obtain ⟨i, j, rfl, rfl, hi, hij, hj, HI, q, rfl⟩ := hrel
    by_cases hlt : i < j
    · obtain ⟨h, hh⟩ : ∃ h, (i + j) / 2 = h := ⟨_, rfl⟩
      have h1 : i ≤ h := by omega
      have h2 : h < j := by omega
      have eh : ((i : Int) + (j : Int)) / 2 = (h : Int) := by omega
      obtain ⟨x, hx⟩ : ∃ x, X[h - a]? = some x := ⟨_, List.getElem?_eq_getElem (by rw [Hxl.out]; omega)⟩
      have hxm : x ∈ X := List.mem_of_getElem? hx
      have hSo : Srt (w.drewN q) L A n c bl g := HS.out.kx ((Kx.refl _ _).drewN q)
      have c0 : (w.drewN q).cell? ⟨g, h, none⟩ = some (.int .i64 x) := HB.out.cell (by
        rw [show h = P.length + (h - a) by rw [Ha.out]; omega]
        exact part_get hx)
      have c1 : (w.drewN q).cell? ⟨g, m, none⟩ = some (.int .i64 y) := HB.out.cell (by
        have e : P ++ (X ++ ([y] ++ Q)) = (P ++ X) ++ y :: Q := by simp
        rw [e]
        exact get_at _ _ _ (by rw [List.length_append, Ha.out, Hxl.out]; exact hm))
      obtain ⟨wo, hwo⟩ : ∃ wo, w.drewN q = wo := ⟨_, rfl⟩
      rw [hwo] at hSo c0 c1 ⊢
      have Hc := Lib.hid (hSo.cmp (Hv.out y (by simp)) (Hv.out x (by simp [hxm])))
      have Hwo := Lib.hid hwo
      have hw1 := lkW_bd HS.out.ok x
      have hw2 := lkW_bd HS.out.ok y
      obtain ⟨wx, hwx⟩ : ∃ z, lkW L x = z := ⟨_, rfl⟩
      obtain ⟨wy, hwy⟩ : ∃ z, lkW L y = z := ⟨_, rfl⟩
      rw [hwx] at hw1 Hc
      rw [hwy] at hw2 Hc
      have i1 : (i : Int) < (j : Int) := by omega
      have k1 : (h : Int) < (N : Int) := by omega
      have k0 : (0 : Int) ≤ (h : Int) := by omega
      have k3 : (m : Int) < (N : Int) := by omega
      have k2 : (0 : Int) ≤ (m : Int) := by omega
      have Hx := Lib.hid hx
      have Hw := Lib.hid (And.intro hwx hwy)
      clear hx hwx hwy hxm hSo hwo
      by_cases hcw : wy - wx < 0
      · have hcd : decide (wy - wx < 0) = true := by simp [hcw]
        have HI2 := Lib.hid (show BinB L y X a i h from ⟨HI.out.lo, fun x' hx' => by
          rw [Hx.out] at hx'
          injection hx' with hx'
          rw [← hx', Hw.out.1, Hw.out.2]; omega⟩)
        go_wp2_with fail
        go_quiet ((first | (go_at_call 71; exact Hc.out _) | exact Hc.out _))
        clear c0 c1 hcd
        go_wp2_with fail
        exact ⟨⟨i, h, by go_num, by go_num, by omega, by omega, by omega, HI2, q + nq, by rw [← Hwo.out]; exact World.drewN_drewN _ _ _⟩, by simp [intOf]; omega⟩
      · have hcd : decide (wy - wx < 0) = false := by simp; omega
        have HI2 := Lib.hid (show BinB L y X a (h + 1) j from ⟨fun x' _ hx' => by
          rw [show h + 1 - 1 - a = h - a by omega, Hx.out] at hx'
          injection hx' with hx'
          rw [← hx', Hw.out.1, Hw.out.2]; omega, HI.out.hi⟩)
        go_wp2_with fail
        go_quiet ((first | (go_at_call 71; exact Hc.out _) | exact Hc.out _))
        clear c0 c1 hcd
        go_wp2_with fail
        exact ⟨⟨h + 1, j, by go_num, by go_num, by omega, by omega, hj, HI2, q + nq, by rw [← Hwo.out]; exact World.drewN_drewN _ _ _⟩, by simp [intOf]; omega⟩
    · obtain rfl : i = j := by omega
      obtain ⟨X1, X2, hXe, hX1⟩ := cut_at X (k := i - a) (by rw [Hxl.out]; omega)
      have hr : Ris L (X1 ++ y :: X2) := by
        have hXr := HX.out
        rw [hXe] at hXr
        have hyr : Ris L [y] := List.pairwise_singleton _ _
        have c1 := hXr.app.1.cross hyr (fun l z hl hz => by
          simp only [List.head?_cons, Option.some.injEq] at hz
          subst hz
          obtain ⟨l1, l2⟩ := last_get hl
          have h3 := HI.out.lo l (by omega) (by
            rw [hXe, List.getElem?_append_left (by omega), show i - 1 - a = X1.length - 1 by omega]
            exact l2)
          have := Hy.out l (by rw [hXe]; exact List.mem_append_left _ (List.mem_of_getElem? l2))
          unfold klt; omega)
        have c2 := hyr.cross hXr.app.2.1 (fun l z hl hz => by
          simp only [List.getLast?_singleton, Option.some.injEq] at hl
          subst hl
          have hz0 := head_get hz
          left
          exact HI.out.hi z (by rw [hXe, List.getElem?_append_right (by omega), show i - a - X1.length = 0 by omega]; exact hz0))
        refine hXr.app.1.join (hyr.join hXr.app.2.1 c2) (fun u hu v hv => ?_)
        rcases List.mem_cons.1 hv with rfl | hv
        · exact c1 u hu _ (by simp)
        · exact hXr.app.2.2 u hu v hv
      have hp : (X1 ++ y :: X2).Perm (X ++ [y]) := by
        rw [hXe]
        have := (List.perm_append_comm (l₁ := [y]) (l₂ := X2)).append_left X1
        rw [List.append_assoc]
        exact this
      have HR := Lib.hid (show ∀ W, Blk W g (P ++ (X1 ++ (y :: (X2 ++ Q)))) → Kx (fun j => j = g) w W → R (.returned (.tuple #[])) W from fun W hb hk => hR.out _ W ⟨rfl, _, hr, hp, by rw [List.append_assoc]; exact hb, hk⟩)
      have hB0 : Blk (w.drewN q) g (P ++ (X1 ++ (X2 ++ (y :: ([] ++ Q))))) := by have := HB.out; rw [hXe, List.append_assoc] at this; exact this
      have HB0 := Lib.hid hB0
      have hx1 : a + X1.length = i := by omega
      have hx2 : i + X2.length = m := by have := Hxl.out; rw [hXe, List.length_append] at this; omega
      have HX1 := Lib.hid hx1
      obtain ⟨w0, hw0⟩ : ∃ w0, w.drewN q = w0 := ⟨_, rfl⟩
      have Hk0 := Lib.hid (show Kx (fun j => j = g) w w0 from by rw [← hw0]; exact (Kx.refl _ _).drewN q)
      rw [hw0] at HB0 ⊢
      clear hR hr hp hB0 hw0 HX Hy HI Hv HS HB hXe hX1 hx1
      go_wp2_with fail
      go_loopw [17] (fun s17 wr => ∃ (k : Nat) (V U : List Int), s17 = .int .i64 (k : Nat) ∧ i ≤ k ∧ k ≤ m ∧ Hid (i + V.length = k ∧ V ++ U = X2 ∧ Blk wr g (P ++ (X1 ++ (V ++ (y :: (U ++ Q)))))) ∧ Kx (fun j => j = g) w wr) (fun k _ => (intOf k).toNat)
      case atStart => exact ⟨m, X2, [], rfl, by omega, Nat.le_refl _, Lib.hid ⟨hx2, by simp, HB0.out⟩, Hk0.out⟩
      case round =>
        obtain ⟨k, V, U, rfl, hik, hkm, HU, hk⟩ := hrel
        obtain ⟨wo, rfl⟩ : ∃ wo : World, wo = wr := ⟨_, rfl⟩
        have hVl := HU.out.1
        by_cases hki : i < k
        · obtain ⟨V2, v, hV2⟩ : ∃ V2 v, V = V2 ++ [v] := by
            have hne : V ≠ [] := fun h => by rw [h] at hVl; simp at hVl; omega
            exact ⟨V.dropLast, V.getLast hne, (List.dropLast_concat_getLast hne).symm⟩
          subst hV2
          rw [List.length_append] at hVl
          obtain ⟨k', rfl⟩ : ∃ k', k = k' + 1 := ⟨k - 1, by omega⟩
          have e0 : P ++ (X1 ++ (V2 ++ [v] ++ (y :: (U ++ Q)))) = (P ++ X1 ++ V2) ++ v :: (y :: (U ++ Q)) := by simp
          have hbl := HU.out.2.2
          rw [e0] at hbl
          obtain ⟨p1, p2, -, p3⟩ := nb_one (P ++ X1 ++ V2) (U ++ Q) v y (k := k') (by rw [List.length_append, List.length_append, Ha.out, HX1.out]; simp at hVl; omega)
          have c1 := hbl.cell p1
          have c2 := hbl.cell p2
          have f0 := hbl.frozen
          have hb2 := (hbl.set (k' + 1) v).set k' y
          rw [p3] at hb2
          have Hbk := Lib.hid hb2
          have Hkk := Lib.hid (kx_setg (kx_setg hk (k' + 1) (.int .i64 v)) k' (.int .i64 y))
          have i1 : (i : Int) < (k' : Int) + 1 := by omega
          have j1 : (k' : Int) < (N : Int) := by omega
          have j2 : (k' : Int) + 1 < (N : Int) := by omega
          have j3 : (0 : Int) ≤ (k' : Int) := by omega
          have j4 : (0 : Int) ≤ (k' : Int) + 1 := by omega
          have n1 : ¬ k' = k' + 1 := by omega
          have n2 : ¬ k' + 1 = k' := by omega
          have hu1 : IntKind.i64.wrap ((k' : Int) + 1 - 1) = (k' : Int) := by rw [show (k' : Int) + 1 - 1 = (k' : Int) by omega]; exact IntWalk.i64_in _ (by omega)
          have hu2 : (k' : Int) + 1 - 1 = (k' : Int) := by omega
          clear p1 p2 p3 hb2 hbl hk e0
          go_wp2_with fail
          go_region
          clear c1 c2 f0
          obtain ⟨W2, hW2⟩ : ∃ W2, (wo.setCell ⟨g, k' + 1, none⟩ (.int .i64 v)).setCell ⟨g, k', none⟩ (.int .i64 y) = W2 := ⟨_, rfl⟩
          rw [hW2] at Hbk Hkk ⊢
          clear hW2
          go_wp2_with fail
          refine ⟨⟨k', V2, v :: U, by go_num, by omega, by omega, Lib.hid ⟨?_, ?_, ?_⟩, Hkk.out.drew⟩, by simp [intOf] <;> omega⟩
          · simp at hVl; omega
          · rw [← HU.out.2.1]; simp
          · have := Hbk.out.drew
            rw [show P ++ (X1 ++ (V2 ++ (y :: (v :: U ++ Q)))) = P ++ X1 ++ V2 ++ y :: v :: (U ++ Q) by simp]
            exact this
        · have hV : V = [] := List.length_eq_zero_iff.1 (by omega)
          have hU : U = X2 := by rw [← HU.out.2.1, hV, List.nil_append]
          have Hf := Lib.hid (HR.out wo (by have := HU.out.2.2; rw [hV, hU] at this; exact this) hk)
          have i1 : ¬ (i : Int) < (k : Int) := by omega
          clear HR hk hV hU HU
          go_wp2_with fail
          go_end0
          exact Hf.out
end Go.Proofs.Ytgmphiklkllnlaa
