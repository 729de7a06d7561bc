/-
  Contracts of slices.swapRangeCmpFunc and slices.rotateCmpFunc: parts of a row change places; conditions: the parts lie where the numbers say.
-/
import Derived.Test.YtgmphiklkllnlaaTSym0
import Derived.Test.YtgmphiklkllnlaaTIns
import Derived.BigRegion
namespace Go.Proofs.Ytgmphiklkllnlaa
open Go.RowKit
theorem Blk.drew {W : World} {g : Nat} {l : List Int} (h : Blk W g l) : Blk W.drew g l := h
theorem Kx.drew {S : Nat → Prop} {W W' : World} (h : Kx S W W') : Kx S W W'.drew := h.drewN 1
theorem set_at (A B : List Int) {k : Nat} (x y : Int) (hk : A.length = k) : (A ++ x :: B).set k y = A ++ y :: B := by
  subst hk
  rw [List.set_append_right _ _ (Nat.le_refl _), Nat.sub_self]; rfl
theorem get_at (A B : List Int) {k : Nat} (x : Int) (hk : A.length = k) : (A ++ x :: B)[k]? = some x := by
  subst hk
  rw [List.getElem?_append_right (Nat.le_refl _), Nat.sub_self]; rfl
theorem swp_one {P Y1 X2 M X1 Y2 Q : List Int} {x y : Int} {k1 k2 : Nat} (h1 : P.length + Y1.length = k1) (h2 : k1 + 1 + X2.length + M.length + X1.length = k2) :
    (P ++ (Y1 ++ (x :: X2 ++ (M ++ (X1 ++ (y :: Y2 ++ Q))))))[k1]? = some x ∧ (P ++ (Y1 ++ (x :: X2 ++ (M ++ (X1 ++ (y :: Y2 ++ Q))))))[k2]? = some y ∧
    ((P ++ (Y1 ++ (x :: X2 ++ (M ++ (X1 ++ (y :: Y2 ++ Q)))))).set k1 y).set k2 x = P ++ (Y1 ++ [y] ++ (X2 ++ (M ++ (X1 ++ [x] ++ (Y2 ++ Q))))) := by
  have e1 : P ++ (Y1 ++ (x :: X2 ++ (M ++ (X1 ++ (y :: Y2 ++ Q))))) = (P ++ Y1) ++ x :: (X2 ++ (M ++ (X1 ++ (y :: Y2 ++ Q)))) := by simp
  have e2 : P ++ (Y1 ++ (x :: X2 ++ (M ++ (X1 ++ (y :: Y2 ++ Q))))) = (P ++ Y1 ++ x :: X2 ++ M ++ X1) ++ y :: (Y2 ++ Q) := by simp
  have e3 : (P ++ Y1) ++ y :: (X2 ++ (M ++ (X1 ++ (y :: Y2 ++ Q)))) = (P ++ Y1 ++ y :: X2 ++ M ++ X1) ++ y :: (Y2 ++ Q) := by simp
  refine ⟨?_, ?_, ?_⟩
  · rw [e1]; exact get_at _ _ _ (by simp [h1])
  · rw [e2]; exact get_at _ _ _ (by simp; omega)
  · rw [e1, set_at _ _ _ _ (by simp [h1]), e3, set_at _ _ _ _ (by simp; omega)]
    simp
set_option maxRecDepth 8000 in
set_option maxHeartbeats 4000000 in
theorem swap_any (g a b k N cap : Nat) (fn : Value) (P X M Y Q : List Int) (w : World) (hB : Blk w g (P ++ (X ++ (M ++ (Y ++ Q))))) (ha : P.length = a) (hx : X.length = k) (hy : Y.length = k) (hb : a + k + M.length = b)
    (hN : N = (P ++ (X ++ (M ++ (Y ++ Q)))).length) (hNs : N ≤ 100000) (_hcap : N ≤ cap) :
    Calls Try.prog 97 #[.slice (some ⟨g, 0, none⟩) N cap, .int .i64 (a : Nat), .int .i64 (b : Nat), .int .i64 (k : Nat), fn] w
      fun e w' => e = .returned (.tuple #[]) ∧ Blk w' g (P ++ (Y ++ (M ++ (X ++ Q)))) ∧ Kx (fun j => j = g) w w' := by
  refine calls_cps ?_
  intro R hR
  have hlen : a + k + M.length + k + Q.length = N := by rw [hN]; simp [ha, hx, hy]; omega
  have HB := Lib.hid hB
  have Hx := Lib.hid (And.intro hx hy)
  have Ha := Lib.hid ha
  obtain ⟨m, hm⟩ : ∃ m, M.length = m := ⟨_, rfl⟩
  obtain ⟨q, hq⟩ : ∃ q, Q.length = q := ⟨_, rfl⟩
  rw [hm] at hb hlen
  rw [hq] at hlen
  have Hm := Lib.hid hm
  clear hB hx hy ha hm hq hN
  go_enter Try.func97, Try.ntmps97
  go_wp2_with fail
  go_loopw [10] (fun s10 wr => ∃ (i : Nat) (X1 X2 Y1 Y2 : List Int), s10 = .int .i64 (i : Nat) ∧ i ≤ k ∧ Hid (X1 ++ X2 = X ∧ Y1 ++ Y2 = Y ∧ X1.length = i ∧ Y1.length = i ∧ Blk wr g (P ++ (Y1 ++ (X2 ++ (M ++ (X1 ++ (Y2 ++ Q))))))) ∧ Kx (fun j => j = g) w wr) (fun i _ => k - (intOf i).toNat)
  case atStart => exact ⟨0, [], X, [], Y, rfl, Nat.zero_le _, Lib.hid ⟨rfl, rfl, rfl, rfl, HB.out⟩, Kx.refl _ _⟩
  case round =>
    obtain ⟨i, X1, X2, Y1, Y2, rfl, hi, HI, hk⟩ := hrel
    obtain ⟨wo, rfl⟩ : ∃ wo : World, wo = wr := ⟨_, rfl⟩
    by_cases hlt : i < k
    · obtain ⟨x, X3, hX3⟩ : ∃ x X3, X2 = x :: X3 := by
        cases h : X2 with
        | nil => exfalso; have h1 := HI.out.1; have h2 := Hx.out.1; rw [h, List.append_nil] at h1; rw [← h1, HI.out.2.2.1] at h2; omega
        | cons x X3 => exact ⟨x, X3, rfl⟩
      obtain ⟨y, Y3, hY3⟩ : ∃ y Y3, Y2 = y :: Y3 := by
        cases h : Y2 with
        | nil => exfalso; have h1 := HI.out.2.1; have h2 := Hx.out.2; rw [h, List.append_nil] at h1; rw [← h1, HI.out.2.2.2.1] at h2; omega
        | cons y Y3 => exact ⟨y, Y3, rfl⟩
      subst hX3
      subst hY3
      have hl3 : i + 1 + X3.length = k := by have h1 := Hx.out.1; rw [← HI.out.1] at h1; simp [HI.out.2.2.1] at h1; omega
      obtain ⟨p1, p2, p3⟩ := swp_one (P := P) (Y1 := Y1) (X2 := X3) (M := M) (X1 := X1) (Y2 := Y3) (Q := Q) (x := x) (y := y) (k1 := a + i) (k2 := b + i) (by rw [Ha.out, HI.out.2.2.2.1]) (by rw [Hm.out, HI.out.2.2.1]; omega)
      have c1 := HI.out.2.2.2.2.cell p1
      have c2 := HI.out.2.2.2.2.cell p2
      have f0 := HI.out.2.2.2.2.frozen
      have hbk := (HI.out.2.2.2.2.set (a + i) y).set (b + i) x
      rw [p3] at hbk
      have Hbk := Lib.hid hbk
      have Hkk := Lib.hid (kx_setg (kx_setg hk (a + i) (.int .i64 y)) (b + i) (.int .i64 x))
      have i1 : (i : Int) < (k : Int) := by omega
      have j1 : (a : Int) + (i : Int) < (N : Int) := by omega
      have j2 : (b : Int) + (i : Int) < (N : Int) := by omega
      have j3 : (0 : Int) ≤ (a : Int) + (i : Int) := by omega
      have j4 : (0 : Int) ≤ (b : Int) + (i : Int) := by omega
      have n1 : ¬ a + i = b + i := by omega
      have n2 : ¬ b + i = a + i := by omega
      clear p1 p2 p3 hbk hk hl3
      go_wp2_with fail
      go_region
      clear c1 c2 f0
      obtain ⟨W2, hW2⟩ : ∃ W2, (wo.setCell ⟨g, a + i, none⟩ (.int .i64 y)).setCell ⟨g, b + i, none⟩ (.int .i64 x) = W2 := ⟨_, rfl⟩
      rw [hW2] at Hbk Hkk ⊢
      clear hW2
      go_wp2_with fail
      refine ⟨⟨i + 1, X1 ++ [x], X3, Y1 ++ [y], Y3, by go_num, by omega, Lib.hid ⟨?_, ?_, ?_, ?_, Hbk.out.drew⟩, Hkk.out.drew⟩, by simp [intOf]; omega⟩
      · rw [← HI.out.1]; simp
      · rw [← HI.out.2.1]; simp
      · rw [List.length_append, HI.out.2.2.1]; rfl
      · rw [List.length_append, HI.out.2.2.2.1]; rfl
    · obtain rfl : i = k := by omega
      have e1 : X1 = X ∧ X2 = [] := by
        have h1 := HI.out.1
        have h2 : X2 = [] := List.length_eq_zero_iff.1 (by have h3 := congrArg List.length h1; rw [List.length_append, HI.out.2.2.1, Hx.out.1] at h3; omega)
        exact ⟨by rw [← h1, h2, List.append_nil], h2⟩
      have e2 : Y1 = Y ∧ Y2 = [] := by
        have h1 := HI.out.2.1
        have h2 : Y2 = [] := List.length_eq_zero_iff.1 (by have h3 := congrArg List.length h1; rw [List.length_append, HI.out.2.2.2.1, Hx.out.2] at h3; omega)
        exact ⟨by rw [← h1, h2, List.append_nil], h2⟩
      have Hf := Lib.hid (hR.out _ wo ⟨rfl, by have := HI.out.2.2.2.2; rw [e1.1, e1.2, e2.1, e2.2] at this; exact this, hk⟩)
      clear hR hk HI e1 e2
      go_wp2_with fail
      go_end0
      exact Hf.out
end Go.Proofs.Ytgmphiklkllnlaa
