/-
  Contracts of kruskal's comparison and of slices.insertionSortCmpFunc with it: a part of the row comes to rise; conditions: the row's numbers are links, and of as light ones the one ahead has the lower number.
-/
import Derived.Test.YtojbldoekalbnaaGreatTKru0
import Derived.Test.YtojbldoekalbnaaGreatTFil0
import Derived.Deep.LoopGhost
import Derived.Deep.RegionHeld3
namespace Go.Proofs.YtojbldoekalbnaaGreat
open Go.RowKit
def linkE (l : Lk) : List Value := [.int .i64 l.a, .int .i64 l.b, .int .i64 l.w]
theorem linkE_len (l : Lk) : (linkE l).length = 3 := rfl
theorem SlE.at3 {w : World} {A : Option Addr} {n k : Nat} {L : List Lk} (h : SlE linkE 3 w A n L) (hk : k < n) :
    ∃ b o l, A = some ⟨b, o, none⟩ ∧ b < w.heap.size ∧ L[k]? = some l ∧ w.cell? ⟨b, o + k * 3, none⟩ = some (.int .i64 l.a) ∧ w.cell? ⟨b, o + k * 3 + 1, none⟩ = some (.int .i64 l.b) ∧ w.cell? ⟨b, o + k * 3 + 2, none⟩ = some (.int .i64 l.w) := by
  obtain ⟨b, o, x, hA, hb, hx, hc⟩ := h.at_ linkE_len hk
  exact ⟨b, o, x, hA, hb, hx, by simpa using hc 0 _ rfl, by simpa [Nat.add_assoc] using hc 1 _ rfl, by simpa [Nat.add_assoc] using hc 2 _ rfl⟩
def LkOk (L : List Lk) : Prop := ∀ l ∈ L, 0 ≤ l.w ∧ l.w ≤ 1000000
theorem lkW_bd {L : List Lk} (h : LkOk L) (i : Int) : 0 ≤ lkW L i ∧ lkW L i ≤ 1000000 := by
  unfold lkW
  cases e : L[i.toNat]? with
  | none => simp
  | some l => exact h l (List.mem_of_getElem? e)
set_option maxRecDepth 8000 in
set_option maxHeartbeats 2000000 in
theorem cmp_any (L : List Lk) (hL : LkOk L) (A : Option Addr) (n c bl : Nat) (i j : Nat) (W : World) (hb : W.cell? ⟨bl, 0, none⟩ = some (.slice A n c)) (hS : SlE linkE 3 W A n L) (hi : i < n) (hj : j < n) :
    Calls Tryz.prog 85 #[.int .i64 (i : Nat), .int .i64 (j : Nat), .pointer (some ⟨bl, 0, none⟩)] W fun e W' => e = .returned (.int .i64 (lkW L i - lkW L j)) ∧ Qt W W' := by
  refine calls_cps ?_
  intro R hR
  obtain ⟨b, o, l, rfl, hbl, hl, p0, p1, p2⟩ := hS.at3 hi
  obtain ⟨b', o', k, e', hbk, hk, q0, q1, q2⟩ := hS.at3 hj
  simp only [Option.some.injEq, Addr.mk.injEq, and_true] at e'
  obtain ⟨rfl, rfl⟩ := e'
  have h1 := lkW_bd hL (i : Int)
  have h2 := lkW_bd hL (j : Int)
  have e1 : lkW L (i : Int) = l.w := by unfold lkW; rw [Int.toNat_natCast, hl]
  have e2 : lkW L (j : Int) = k.w := by unfold lkW; rw [Int.toNat_natCast, hk]
  rw [e1] at h1
  rw [e2] at h2
  have Hf := Lib.hid (show ∀ q, R (.returned (.int .i64 (l.w - k.w))) (W.drewN q) from fun q => hR.out _ _ ⟨by rw [e1, e2], ⟨q, rfl⟩⟩)
  have hin : (i : Int) < (n : Int) := by omega
  have hjn : (j : Int) < (n : Int) := by omega
  have hi0 : (0 : Int) ≤ (i : Int) := by omega
  have hj0 : (0 : Int) ≤ (j : Int) := by omega
  have hu : IntKind.i64.wrap (l.w - k.w) = l.w - k.w := IntWalk.i64_in _ (by omega)
  have Hu := Lib.hid hu
  clear hR e1 e2 hl hk hS p0 p1 q0 q1 hu
  go_enter Tryz.func85, Tryz.ntmps85
  go_wp2_with fail
  have hu := Hu.out
  go_quiet (fail)
  clear hu
  go_wp2_with fail
  exact Hf.out _
/-- What the sort leans on: the links and their box, in blocks other than the row's. -/
structure Srt (w : World) (L : List Lk) (A : Option Addr) (n c bl g : Nat) : Prop where
  ok : LkOk L
  box : w.heap[bl]? = some (.cells #[.slice A n c] 56 (0, 0))
  ne : bl ≠ g
  sl : SlE linkE 3 w A n L
  Ag : 0 < n → ∀ x, A = some x → x.block ≠ g
theorem slE_kxL {S : Nat → Prop} {W W' : World} {A : Option Addr} {n : Nat} {l : List Lk} (h : SlE linkE 3 W A n l) (hk : Kx S W W') (hs : 0 < n → ∀ a, A = some a → ¬ S a.block) : SlE linkE 3 W' A n l :=
  ⟨h.1, h.2.1, fun hn => by
    obtain ⟨b, o, e, hb, hc⟩ := h.2.2 hn
    exact ⟨b, o, e, Nat.lt_of_lt_of_le hb hk.size, fun j u hu => (World.cell?_of_block (w := W) (hk.block b hb (hs hn _ e))).trans (hc j u hu)⟩⟩
theorem Srt.kx {w W : World} {L : List Lk} {A : Option Addr} {n c bl g : Nat} (h : Srt w L A n c bl g) (hk : Kx (fun j => j = g) w W) : Srt W L A n c bl g :=
  ⟨h.ok, (hk.block bl (Array.getElem?_eq_some_iff.1 h.box).1 h.ne).trans h.box, h.ne, slE_kxL h.sl hk (fun hn a ha => h.Ag hn a ha), h.Ag⟩
theorem Srt.cell {w : World} {L : List Lk} {A : Option Addr} {n c bl g : Nat} (h : Srt w L A n c bl g) : w.cell? ⟨bl, 0, none⟩ = some (.slice A n c) := by rw [cell_of_row _ _ 0 _ _ (0, 0) h.box]; rfl
theorem Srt.cmp {w : World} {L : List Lk} {A : Option Addr} {n c bl g : Nat} (h : Srt w L A n c bl g) {x y : Int} (hx : 0 ≤ x ∧ x < n) (hy : 0 ≤ y ∧ y < n) (q : Nat) :
    Calls Tryz.prog 85 #[.int .i64 x, .int .i64 y, .pointer (some ⟨bl, 0, none⟩)] (w.drewN q) fun e W' => e = .returned (.int .i64 (lkW L x - lkW L y)) ∧ ∃ m, W' = w.drewN m := by
  obtain ⟨i, rfl⟩ : ∃ i : Nat, x = i := ⟨x.toNat, by omega⟩
  obtain ⟨j, rfl⟩ : ∃ j : Nat, y = j := ⟨y.toNat, by omega⟩
  refine (cmp_any L h.ok A n c bl i j (w.drewN q) h.cell h.sl (by omega) (by omega)).mono ?_
  rintro e W' ⟨h1, m, rfl⟩
  exact ⟨h1, q + m, World.drewN_drewN _ _ _⟩
theorem mid_get {P S1 S2 : List Int} {x : Int} : (P ++ (S1 ++ x :: S2))[P.length + S1.length]? = some x := by
  rw [List.getElem?_append_right (by omega), Nat.add_sub_cancel_left, List.getElem?_append_right (Nat.le_refl _), Nat.sub_self]; rfl
theorem mid_set {P S1 S2 : List Int} {x y : Int} : (P ++ (S1 ++ x :: S2)).set (P.length + S1.length) y = P ++ (S1 ++ y :: S2) := by
  rw [List.set_append_right _ _ (by omega), Nat.add_sub_cancel_left, List.set_append_right _ _ (Nat.le_refl _), Nat.sub_self]; rfl
/-- Two neighbours change places. -/
theorem Blk.swap {W : World} {g k : Nat} {P S1 T : List Int} {x y : Int} (h : Blk W g (P ++ (S1 ++ y :: (x :: T)))) (hk : P.length + S1.length = k) :
    Blk ((W.setCell ⟨g, k + 1, none⟩ (.int .i64 y)).setCell ⟨g, k, none⟩ (.int .i64 x)) g (P ++ (S1 ++ x :: (y :: T))) := by
  have h1 := (h.set (k + 1) y).set k x
  have e1 : (P ++ (S1 ++ y :: (x :: T))).set (k + 1) y = P ++ (S1 ++ y :: (y :: T)) := by
    have := mid_set (P := P) (S1 := S1 ++ [y]) (S2 := T) (x := x) (y := y)
    rw [List.length_append, ← Nat.add_assoc, hk, List.append_assoc, List.append_assoc] at this
    exact this
  have e2 : (P ++ (S1 ++ y :: (y :: T))).set k x = P ++ (S1 ++ x :: (y :: T)) := by
    have := mid_set (P := P) (S1 := S1) (S2 := y :: T) (x := y) (y := x)
    rwa [hk] at this
  rw [e1, e2] at h1
  exact h1
theorem kx_setg {W W' : World} {g : Nat} (h : Kx (fun j => j = g) W W') (k : Nat) (v : Value) : Kx (fun j => j = g) W (W'.setCell ⟨g, k, none⟩ v) := kx_set (S := fun j => j = g) h rfl k v
set_option maxRecDepth 8000 in
set_option maxHeartbeats 8000000 in
theorem ins_any (L : List Lk) (A : Option Addr) (n c bl g N cap : Nat) (P seg Q : List Int) (w : World) (hS : Srt w L A n c bl g) (hB : Blk w g (P ++ (seg ++ Q))) (hN : N = (P ++ (seg ++ Q)).length) (hNs : N ≤ 100000) (_hcap : N ≤ cap)
    (hv : ∀ x ∈ seg, 0 ≤ x ∧ x < n) (hst : Stb L seg) (hne : seg ≠ []) :
    Calls Tryz.prog 155 #[.slice (some ⟨g, 0, none⟩) N cap, .int .i64 (P.length : Nat), .int .i64 ((P.length + seg.length : Nat) : Int), .func (.func 85) #[] #[.pointer (some ⟨bl, 0, none⟩)]] w
      fun e w' => e = .returned (.tuple #[]) ∧ ∃ r, Ris L r ∧ r.Perm seg ∧ Blk w' g (P ++ (r ++ Q)) ∧ Kx (fun j => j = g) w w' := by
  refine calls_cps ?_
  intro R hR
  have HS := Lib.hid hS
  have HB := Lib.hid hB
  have Hv := Lib.hid hv
  have Hst := Lib.hid hst
  have hN2 : P.length + seg.length ≤ N := by rw [hN]; simp
  have HN := Lib.hid hN
  obtain ⟨x0, r0, hseg⟩ : ∃ x r, seg = x :: r := by
    cases seg with
    | nil => exact absurd rfl hne
    | cons x r => exact ⟨x, r, rfl⟩
  have hl0 : seg.length = r0.length + 1 := by rw [hseg]; simp
  have Hseg := Lib.hid hseg
  clear hS hB hv hst hN hne hseg
  obtain ⟨a, ha⟩ : ∃ a, P.length = a := ⟨_, rfl⟩
  obtain ⟨b, hb⟩ : ∃ b, a + seg.length = b := ⟨_, rfl⟩
  rw [ha, hb] at hN2 ⊢
  have Ha := Lib.hid ha
  have hab : a + 1 ≤ b := by omega
  have Hb := Lib.hid hb
  clear ha hb
  go_enter Tryz.func155, Tryz.ntmps155
  go_wp2_with fail
  go_loopw [8] (fun s8 wr => ∃ (i : Nat) (D r rest : List Int), s8 = .int .i64 (i : Nat) ∧ a + 1 ≤ i ∧ i ≤ b ∧ Hid (D ++ rest = seg ∧ a + D.length = i ∧ r.Perm D ∧ Ris L r ∧ Blk wr g (P ++ (r ++ (rest ++ Q)))) ∧ Kx (fun j => j = g) w wr) (fun i _ => b - (intOf i).toNat)
  case atStart => exact ⟨a + 1, [x0], [x0], r0, by go_num, Nat.le_refl _, hab, Lib.hid ⟨by rw [Hseg.out]; rfl, rfl, List.Perm.refl _, List.pairwise_singleton _ _, by have := HB.out; rw [Hseg.out] at this; exact this⟩, Kx.refl _ _⟩
  case round =>
    obtain ⟨i, D, r, rest, rfl, hi1, hi2, HI, hk⟩ := hrel
    obtain ⟨wo, rfl⟩ : ∃ wo : World, wo = wr := ⟨_, rfl⟩
    by_cases hlt : i < b
    · have hrl : ∃ x rest', rest = x :: rest' := by
        cases hr : rest with
        | nil =>
          have h1 := HI.out.1
          have h2 := HI.out.2.1
          rw [hr, List.append_nil] at h1
          have h3 := Hb.out
          rw [← h1] at h3
          omega
        | cons x rest' => exact ⟨x, rest', rfl⟩
      obtain ⟨x, rest', hrx⟩ := hrl
      have Hrx := Lib.hid hrx
      clear hrx
      go_wp2_with fail
      go_loopw [9] (fun s9 wr => ∃ (j : Nat) (S1 S2 : List Int), s9 = .int .i64 (j : Nat) ∧ a ≤ j ∧ j ≤ i ∧ Hid (a + S1.length = j ∧ Ins L S1 x S2 ∧ (S1 ++ x :: S2).Perm (D ++ [x]) ∧ Blk wr g (P ++ (S1 ++ x :: (S2 ++ (rest' ++ Q))))) ∧ Kx (fun j => j = g) w wr) (fun i _ => (intOf i).toNat)
      case atStart =>
        refine ⟨i, r, [], rfl, by omega, Nat.le_refl _, Lib.hid ⟨?_, ⟨by rw [List.append_nil]; exact HI.out.2.2.2.1, by simp, fun y hy e => ?_⟩, ?_, ?_⟩, hk⟩
        · rw [HI.out.2.2.1.length_eq]; exact HI.out.2.1
        · have h1 := Hst.out
          rw [← HI.out.1, Hrx.out] at h1
          exact (List.pairwise_append.1 h1).2.2 y (HI.out.2.2.1.subset hy) x (by simp) e
        · exact HI.out.2.2.1.append (List.Perm.refl _)
        · have := HI.out.2.2.2.2
          rw [Hrx.out] at this
          exact this
      case round =>
        clear hk
        obtain ⟨j, S1, S2, rfl, hj1, hj2, HJ, hk⟩ := hrel
        obtain ⟨wi, rfl⟩ : ∃ wi : World, wi = wr := ⟨_, rfl⟩
        have Hk := Lib.hid hk
        have HSi := Lib.hid (HS.out.kx hk)
        clear hk
        have Hpv := Lib.hid (show ∀ y ∈ S1 ++ x :: S2, 0 ≤ y ∧ y < n from fun y hy => Hv.out y (by
          rw [← HI.out.1, Hrx.out]
          have := HJ.out.2.2.1.subset hy
          rcases List.mem_append.1 this with h | h
          · exact List.mem_append_left _ h
          · simp only [List.mem_singleton] at h; subst h; simp))
        by_cases hja : a < j
        · obtain ⟨y, S1', hS1⟩ : ∃ y S1', S1 = S1' ++ [y] := by
            have hne : S1 ≠ [] := fun h => by have := HJ.out.1; rw [h] at this; simp at this; omega
            exact ⟨S1.getLast hne, S1.dropLast, (List.dropLast_concat_getLast hne).symm⟩
          have hlen : a + S1'.length + 1 = j := by have := HJ.out.1; rw [hS1] at this; simp at this; omega
          obtain ⟨k, rfl⟩ : ∃ k, j = k + 1 := ⟨j - 1, by omega⟩
          have hk1 : P.length + S1'.length = k := by rw [Ha.out]; omega
          have hbk := HJ.out.2.2.2
          rw [hS1] at hbk
          have g0 : wi.cell? ⟨g, k + 1, none⟩ = some (.int .i64 x) := hbk.cell (by
            have := mid_get (P := P) (S1 := S1' ++ [y]) (S2 := S2 ++ (rest' ++ Q)) (x := x)
            rwa [List.length_append, ← Nat.add_assoc, hk1] at this)
          have hbk2 : Blk wi g (P ++ (S1' ++ y :: (x :: (S2 ++ (rest' ++ Q))))) := by
            rw [List.append_assoc] at hbk; exact hbk
          have g1 : wi.cell? ⟨g, k, none⟩ = some (.int .i64 y) := hbk2.cell (by
            have := mid_get (P := P) (S1 := S1') (S2 := x :: (S2 ++ (rest' ++ Q))) (x := y)
            rwa [hk1] at this)
          have f0 := hbk.frozen
          have hxv := Hpv.out x (by simp)
          have hyv := Hpv.out y (by rw [hS1]; simp)
          have Hc := Lib.hid (HSi.out.cmp hxv hyv)
          have hw1 := lkW_bd HS.out.ok x
          have hw2 := lkW_bd HS.out.ok y
          obtain ⟨wx, hwx⟩ : ∃ z, lkW L x = z := ⟨_, rfl⟩
          obtain ⟨wy, hwy⟩ : ∃ z, lkW L y = z := ⟨_, rfl⟩
          rw [hwx] at hw1 Hc
          rw [hwy] at hw2 Hc
          have HJ2 := Lib.hid (show Ins L (S1' ++ [y]) x S2 from by rw [← hS1]; exact HJ.out.2.1)
          have Hwx := Lib.hid hwx
          have Hwy := Lib.hid hwy
          have Hbk2 := Lib.hid hbk2
          have Hk1 := Lib.hid hk1
          have HS1 := Lib.hid hS1
          have hgt : (a : Int) < (k : Int) + 1 := by omega
          have hi0 : (0 : Int) ≤ (k : Int) := by omega
          have hi1 : (0 : Int) ≤ (k : Int) + 1 := by omega
          have hiN : (k : Int) < (N : Int) := by omega
          have hiN1 : (k : Int) + 1 < (N : Int) := by omega
          have hu1 : IntKind.i64.wrap ((k : Int) + 1 - 1) = (k : Int) := by rw [show (k : Int) + 1 - 1 = (k : Int) by omega]; exact IntWalk.i64_in _ (by omega)
          have hu2 : (k : Int) + 1 - 1 = (k : Int) := by omega
          clear hwx hwy hbk hbk2 hk1 hS1 hlen
          by_cases hcw : wx - wy < 0
          · have hcd : decide (wx - wy < 0) = true := by simp [hcw]
            go_wp2_with fail
            go_quiet ((first | (go_at_call 85; exact Hc.out _) | exact Hc.out _))
            obtain ⟨W6, hW6⟩ : ∃ W6, wi.drewN nq = W6 := ⟨_, rfl⟩
            have e0 : W6.cell? ⟨g, k + 1, none⟩ = some (.int .i64 x) := by rw [← hW6]; exact g0
            have e1 : W6.cell? ⟨g, k, none⟩ = some (.int .i64 y) := by rw [← hW6]; exact g1
            have ef : ∀ i, W6.frozen? ⟨g, i, none⟩ = false := by rw [← hW6]; exact f0
            have Hbk6 := Lib.hid (show Blk W6 g _ from by rw [← hW6]; exact Hbk2.out)
            have Hk6 := Lib.hid (show Kx (fun j => j = g) w W6 from by rw [← hW6]; exact Hk.out.drewN nq)
            rw [hW6]
            clear hW6 g0 g1 f0 hcd
            have hnk : k + 1 ≠ k := by omega
            have hnk2 : k ≠ k + 1 := by omega
            go_wp2_with fail
            go_region
            have Hbk7 := Lib.hid (Hbk6.out.swap Hk1.out)
            have Hk7 := Lib.hid (kx_setg (kx_setg Hk6.out (k + 1) (.int .i64 y)) k (.int .i64 x))
            have Hin := Lib.hid (HJ2.out.step (by rw [Hwx.out, Hwy.out]; omega))
            clear e0 e1 ef
            go_wp2_with fail
            refine ⟨⟨k, S1', y :: S2, by go_num, by omega, by omega, Lib.hid ⟨?_, Hin.out, ?_, by exact Hbk7.out⟩, by exact Hk7.out.drewN 1⟩, by simp [intOf] <;> omega⟩
            · have := Hk1.out; have := Ha.out; omega
            · refine List.Perm.trans ?_ HJ.out.2.2.1
              rw [HS1.out, List.append_assoc]
              exact (List.Perm.refl _).append (List.Perm.swap y x S2)
          · have hcd : decide (wx - wy < 0) = false := by simp; omega
            have Hend := Lib.hid (show Ris L (S1 ++ x :: S2) from by rw [HS1.out]; exact HJ2.out.stop (by rw [Hwx.out, Hwy.out]; omega))
            go_wp2_with fail
            go_quiet ((first | (go_at_call 85; exact Hc.out _) | exact Hc.out _))
            clear g0 g1 f0 hcd
            go_wp2_with fail
            refine ⟨⟨i + 1, D ++ [x], S1 ++ x :: S2, rest', by go_num, by omega, by omega, Lib.hid ⟨?_, ?_, HJ.out.2.2.1, Hend.out, ?_⟩, Hk.out.drewN _⟩, by simp [intOf] <;> omega⟩
            · rw [List.append_assoc, ← HI.out.1, Hrx.out]; rfl
            · rw [List.length_append, ← HI.out.2.1]; simp; omega
            · have := HJ.out.2.2.2
              rw [List.append_assoc]
              exact this
        · have hja2 : j = a := by omega
          have hgt : ¬ (a : Int) < (j : Int) := by omega
          have hgd : decide ((a : Int) < (j : Int)) = false := by simp; omega
          have hS1 : S1 = [] := by have := HJ.out.1; exact List.length_eq_zero_iff.1 (by omega)
          have Hend := Lib.hid (show Ris L (S1 ++ x :: S2) from by have := HJ.out.2.1; rw [hS1] at this ⊢; exact this.fin)
          clear hS1
          go_wp2_with fail
          go_quiet (fail)
          go_wp2_with fail
          refine ⟨⟨i + 1, D ++ [x], S1 ++ x :: S2, rest', by go_num, by omega, by omega, Lib.hid ⟨?_, ?_, HJ.out.2.2.1, Hend.out, ?_⟩, Hk.out.drewN _⟩, by simp [intOf] <;> omega⟩
          · rw [List.append_assoc, ← HI.out.1, Hrx.out]; rfl
          · rw [List.length_append, ← HI.out.2.1]; simp; omega
          · have := HJ.out.2.2.2
            rw [List.append_assoc]
            exact this
    · obtain rfl : i = b := by omega
      have hrest : rest = [] := by
        have h1 := HI.out.1
        have h2 := HI.out.2.1
        have h3 := Hb.out
        rw [← h1, List.length_append] at h3
        exact List.length_eq_zero_iff.1 (by omega)
      have Hf := Lib.hid (hR.out _ wo ⟨rfl, r, HI.out.2.2.2.1, by have h1 := HI.out.1; rw [hrest, List.append_nil] at h1; rw [← h1]; exact HI.out.2.2.1, by have := HI.out.2.2.2.2; rw [hrest] at this; exact this, hk⟩)
      clear hR hrest hk
      go_wp2_with fail
      go_end0
      exact Hf.out
end Go.Proofs.YtojbldoekalbnaaGreat
