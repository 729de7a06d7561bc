/-
  Contract of slices.rotateCmpFunc: two neighbouring parts of a row change places; conditions: the parts lie where the numbers say, none is empty.
-/
import Derived.Test.YtgmphiklkllnlaaTSwp
namespace Go.Proofs.Ytgmphiklkllnlaa
open Go.RowKit
structure RotI (P X Y Q T : List Int) (i j m : Nat) : Prop where
  x : X.length = i
  y : Y.length = j
  p : P.length + i = m
  t : P ++ (Y ++ (X ++ Q)) = T
set_option maxRecDepth 8000 in
set_option maxHeartbeats 4000000 in
theorem rotate_any (g a m b N cap : Nat) (fn : Value) (P X Y Q : List Int) (w : World) (hB : Blk w g (P ++ (X ++ (Y ++ Q)))) (ha : P.length = a) (hm : a + X.length = m) (hb : m + Y.length = b)
    (hN : N = (P ++ (X ++ (Y ++ Q))).length) (hNs : N ≤ 100000) (hcap : N ≤ cap) (hX : X ≠ []) (hY : Y ≠ []) :
    Calls Try.prog 95 #[.slice (some ⟨g, 0, none⟩) N cap, .int .i64 (a : Nat), .int .i64 (m : Nat), .int .i64 (b : Nat), fn] w
      fun e w' => e = .returned (.tuple #[]) ∧ Blk w' g (P ++ (Y ++ (X ++ Q))) ∧ Kx (fun j => j = g) w w' := by
  refine calls_cps ?_
  intro R hR
  have hlen : b + Q.length = N := by rw [hN, ← hb, ← hm, ← ha]; simp; omega
  have hXl : 0 < X.length := List.length_pos_iff.2 hX
  have hYl : 0 < Y.length := List.length_pos_iff.2 hY
  obtain ⟨x, hx⟩ : ∃ x, X.length = x := ⟨_, rfl⟩
  obtain ⟨y, hy⟩ : ∃ y, Y.length = y := ⟨_, rfl⟩
  obtain ⟨T, hT⟩ : ∃ T, P ++ (Y ++ (X ++ Q)) = T := ⟨_, rfl⟩
  have hTN : T.length = N := by rw [hN, ← hT]; simp; omega
  rw [hx] at hm hXl
  rw [hy] at hb hYl
  rw [hT] at hR
  have HB := Lib.hid hB
  have HI0 := Lib.hid (show RotI P X Y Q T x y m from ⟨hx, hy, by omega, hT⟩)
  have Hsw := Lib.hid (fun (W : World) (k : Nat) (P' X' M' Y' Q' : List Int) (hb : Blk W g (P' ++ (X' ++ (M' ++ (Y' ++ Q'))))) (hx : X'.length = k) (hy : Y'.length = k) (hl : (P' ++ (X' ++ (M' ++ (Y' ++ Q')))).length = N) (A B K : Int) (hA : A = (P'.length : Nat)) (hB : B = ((P'.length + k + M'.length : Nat) : Int)) (hK : K = (k : Nat)) =>
    (show Calls Try.prog 97 #[.slice (some ⟨g, 0, none⟩) N cap, .int .i64 A, .int .i64 B, .int .i64 K, fn] W (fun e w' => e = .returned (.tuple #[]) ∧ Blk w' g (P' ++ (Y' ++ (M' ++ (X' ++ Q')))) ∧ Kx (fun j => j = g) W w') from by subst hA; subst hB; subst hK; exact swap_any g P'.length (P'.length + k + M'.length) k N cap fn P' X' M' Y' Q' W hb rfl hx hy rfl hl.symm hNs hcap))
  clear hB hx hy hT hN hX hY ha
  go_enter Try.func95, Try.ntmps95
  have e1 : (m : Int) - (a : Int) = (x : Int) := by omega
  have e2 : (b : Int) - (m : Int) = (y : Int) := by omega
  go_wp2_with fail
  (try simp only [e1, e2])
  go_loopw [10, 11] (fun s10 s11 wr => ∃ (i j : Nat) (P' X' Y' Q' : List Int), s10 = .int .i64 (i : Nat) ∧ s11 = .int .i64 (j : Nat) ∧ 0 < i ∧ 0 < j ∧ i ≤ m ∧ m + j ≤ N ∧ Hid (RotI P' X' Y' Q' T i j m) ∧ Hid (Blk wr g (P' ++ (X' ++ (Y' ++ Q')))) ∧ Kx (fun j => j = g) w wr) (fun i j _ => (intOf i).toNat + (intOf j).toNat)
  case atStart => exact ⟨x, y, P, X, Y, Q, rfl, rfl, hXl, hYl, by omega, by omega, HI0, HB, Kx.refl _ _⟩
  case round =>
    obtain ⟨i, j, P', X', Y', Q', rfl, rfl, hi, hj, him, hjN, HI, HBr, hk⟩ := hrel
    obtain ⟨wo, rfl⟩ : ∃ wo : World, wo = wr := ⟨_, rfl⟩
    have hl : (P' ++ (X' ++ (Y' ++ Q'))).length = N := by
      have h := congrArg List.length HI.out.t
      rw [hTN] at h
      simp only [List.length_append] at h ⊢
      omega
    have hPm := HI.out.p
    have Hl := Lib.hid hl
    have Hk := Lib.hid hk
    clear hl hk
    have q1 : (m : Int) - (i : Int) = (P'.length : Int) := by omega
    rcases Nat.lt_trichotomy i j with hij | hij | hij
    · obtain ⟨Y1, Y2, hYe, hY1⟩ := cut_at Y' (k := j - i) (by rw [HI.out.y]; omega)
      have hY2 : Y2.length = i := by have := HI.out.y; rw [hYe, List.length_append] at this; omega
      have hc := Hsw.out wo i P' X' Y1 Y2 Q' (by have := HBr.out; rw [hYe, List.append_assoc] at this; exact this) HI.out.x hY2 (by have := Hl.out; rw [hYe, List.append_assoc] at this; exact this)
      have q2 : m + j - i = P'.length + i + Y1.length := by omega
      have q3 : (j : Int) - (i : Int) = (Y1.length : Int) := by omega
      have b1 : ((i : Int) != (j : Int)) = true := by simp; omega
      have b2 : ¬ (j : Int) < (i : Int) := by omega
      have HcS := Lib.hid hc
      have HI2 := Lib.hid (show RotI P' Y2 Y1 (X' ++ Q') T i (j - i) m from ⟨hY2, hY1, HI.out.p, by have := HI.out.t; rw [hYe, List.append_assoc] at this; exact this⟩)
      clear hc hYe hY2 HBr
      go_wp2_with (go_at_call 97; refine (HcS.out _ _ _ (by omega) (by first | omega | (simp <;> omega)) (by omega)).mono ?_; rintro e w2 ⟨rfl, hb2, hk2⟩; have Hb2 := Lib.hid hb2; have Hk2 := Lib.hid (Hk.out.trans hk2 (fun _ _ h => h)); clear hb2 hk2)
      refine ⟨⟨i, j - i, P', Y2, Y1, X' ++ Q', by go_num, by go_num, hi, by omega, him, by omega, HI2, Hb2, Hk2.out⟩, by simp [intOf]; omega⟩
    · subst hij
      have hc := Hsw.out wo i P' X' [] Y' Q' (by have := HBr.out; exact this) HI.out.x HI.out.y (by have := Hl.out; exact this)
      have HcS := Lib.hid hc
      have b1 : ((i : Int) != (i : Int)) = false := by simp
      clear hc HBr
      go_wp2_with (go_at_call 97; refine (HcS.out _ _ _ (by omega) (by first | omega | (simp <;> omega)) (by omega)).mono ?_; rintro e w2 ⟨rfl, hb2, hk2⟩; have Hf := Lib.hid (hR.out _ w2 ⟨rfl, by rw [← HI.out.t]; exact hb2, Hk.out.trans hk2 (fun _ _ h => h)⟩); clear hb2 hk2)
      go_end0
      exact Hf.out
    · obtain ⟨X1, X2, hXe, hX1⟩ := cut_at X' (k := j) (by rw [HI.out.x]; omega)
      have hX2 : X2.length = i - j := by have := HI.out.x; rw [hXe, List.length_append] at this; omega
      have hc := Hsw.out wo j P' X1 X2 Y' Q' (by have := HBr.out; rw [hXe, List.append_assoc] at this; exact this) hX1 HI.out.y (by have := Hl.out; rw [hXe, List.append_assoc] at this; exact this)
      have b1 : ((i : Int) != (j : Int)) = true := by simp; omega
      have b2 : (j : Int) < (i : Int) := by omega
      have HcS := Lib.hid hc
      have HI2 := Lib.hid (show RotI (P' ++ Y') X2 X1 Q' T (i - j) j m from ⟨hX2, hX1, by rw [List.length_append, HI.out.y]; omega, by have := HI.out.t; rw [hXe] at this; rw [← this]; simp⟩)
      clear hc hXe HBr
      go_wp2_with (go_at_call 97; refine (HcS.out _ _ _ (by omega) (by first | omega | (simp <;> omega)) (by omega)).mono ?_; rintro e w2 ⟨rfl, hb2, hk2⟩; rw [show P' ++ (Y' ++ (X2 ++ (X1 ++ Q'))) = (P' ++ Y') ++ (X2 ++ (X1 ++ Q')) from (List.append_assoc _ _ _).symm] at hb2; have Hb2 := Lib.hid hb2; have Hk2 := Lib.hid (Hk.out.trans hk2 (fun _ _ h => h)); clear hb2 hk2)
      refine ⟨⟨i - j, j, P' ++ Y', X2, X1, Q', by go_num, by go_num, by omega, hj, by omega, hjN, HI2, Hb2, Hk2.out⟩, by simp [intOf]; omega⟩
end Go.Proofs.Ytgmphiklkllnlaa
