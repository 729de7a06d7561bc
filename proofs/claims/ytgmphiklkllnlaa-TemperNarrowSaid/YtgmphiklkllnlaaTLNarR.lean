/-
  The contract of clavecinlaw03.TemperNarrow, true at every input, and the statement on it, proved.
-/
import Derived.Test.YtgmphiklkllnlaaTPsb
import Derived.Test.YtgmphiklkllnlaaTPth
import Derived.Test.YtgmphiklkllnlaaTLk
import Derived.Test.YtgmphiklkllnlaaRows
import Derived.Test.YtgmphiklkllnlaaTOpM
namespace Go.Proofs.Ytgmphiklkllnlaa
section
open Go.RowKit
theorem row_modn (row : Int) {L : Nat} (hL : 1 ≤ L) : ∃ (r : Int) (k : Nat), Int.tmod row (L : Int) = r ∧ -(L : Int) < r ∧ r < (L : Int) ∧ 0 ≤ r + (L : Int) ∧ (r + (L : Int)) % (L : Int) = (k : Int) ∧ k < L := by
  have h1 : Int.tmod row (L : Int) < L := Int.tmod_lt_of_pos row (by omega)
  have h2 : -(L : Int) < Int.tmod row (L : Int) := by
    have := Int.tmod_lt_of_pos (-row) (b := (L : Int)) (by omega)
    rw [Int.neg_tmod] at this
    omega
  have h3 : 0 ≤ (Int.tmod row (L : Int) + L) % L := Int.emod_nonneg _ (by omega)
  have h4 : (Int.tmod row (L : Int) + L) % L < L := Int.emod_lt_of_pos _ (by omega)
  exact ⟨_, ((Int.tmod row (L : Int) + L) % L).toNat, rfl, h2, h1, by omega, by omega, by omega⟩
set_option maxRecDepth 8000 in
set_option maxHeartbeats 8000000 in
theorem narrow_any (notes f t : Int) (A : Option Addr) (n c : Nat) (L : List Lk) (w : World) (hS : SlE linkE 3 w A n L) (hnc : n ≤ c) (hc : c ≤ 9223372036854775807) :
    Calls Try.prog 8 #[.int .i64 notes, .slice A n c, .agg #[.int .i64 f, .int .i64 t]] w fun en w' => en = .returned (.bool true) ∧ Below w.heap.size w w' := by
  refine calls_cps ?_
  intro R hR
  have hal := heap_alloc_new w (.cells #[.int .i64 f, .int .i64 t] 43)
  have hb1 := below_new w (.cells #[.int .i64 f, .int .i64 t] 43)
  obtain ⟨w1, hw1⟩ : ∃ w1, w.alloc (.cells #[.int .i64 f, .int .i64 t] 43) = w1 := ⟨_, rfl⟩
  rw [hw1] at hal hb1
  obtain ⟨bx, hbx⟩ : ∃ bx, w.heap.size = bx := ⟨_, rfl⟩
  rw [hbx] at hal
  have HX := Lib.hid (show ∀ W, Below w1.heap.size w1 W → W.cell? ⟨bx, 0, none⟩ = some (.int .i64 f) ∧ W.cell? ⟨bx, 1, none⟩ = some (.int .i64 t) ∧ Below w.heap.size w W from fun W hb => by
    have h := (hb.block bx (Array.getElem?_eq_some_iff.1 hal).1).trans hal
    exact ⟨by rw [cell_of_row _ _ 0 _ _ (0, 0) h]; rfl, by rw [cell_of_row _ _ 1 _ _ (0, 0) h]; rfl, hb1.trans (hb.mono hb1.size)⟩)
  have Hlk := Lib.hid (links_any A n c L w1 (hS.below hb1) hnc hc)
  obtain ⟨K, hK⟩ : ∃ K, L.take (lkK n) = K := ⟨_, rfl⟩
  obtain ⟨k, hk⟩ : ∃ k, lkK n = k := ⟨_, rfl⟩
  have hk5 : k ≤ 513 := by rw [← hk]; unfold lkK; split <;> first | omega | (split <;> omega)
  rw [hK, hk] at Hlk
  have HY := Lib.hid (show ∀ W, Below w.heap.size w W → R (.returned (.bool true)) W from fun W h => hR.out _ W ⟨rfl, h⟩)
  have Hbx := Lib.hid hbx
  clear hR hS hK hk hal hb1 hbx
  go_enter Try.func8, Try.ntmps8
  go_upto_region 1 with fail
  (try rw [Hbx.out])
  go_upto_region 2 with (go_at_call 23; refine Hlk.out.mono ?_; rintro e1 w2 ⟨A2, c2, rfl, hs, hb⟩; have Hs := Lib.hid hs; have Hb := Lib.hid hb; clear hs hb)
  cases hp : planB notes K
  · have HA := Lib.hid (fun (W : World) (h : SlE linkE 3 W A2 k K) => bear_bad notes A2 k c2 K W h (by omega) hp)
    clear hp
    go_wp2_with (first
      | (go_at_call 24; refine (HA.out _ Hs.out).mono ?_; rintro e1 w3 ⟨rfl, hb⟩; have Hb := Lib.hid (Hb.out.trans (hb.mono Hb.out.size)); clear hb)
      | (go_at_call 19; refine (lives_any _).mono ?_; rintro e1 w6 ⟨rfl, hb⟩; have Hb := Lib.hid (Hb.out.trans (hb.mono Hb.out.size)); clear hb))
    exact HY.out _ (HX.out _ Hb.out).2.2
  · have hpl := (planB_iff _ _).1 hp
    obtain ⟨N, rfl⟩ : ∃ N : Nat, notes = N := ⟨notes.toNat, by have := hpl.lo; omega⟩
    obtain ⟨T, hT⟩ : ∃ T, (kruL K stop0).1 = T := ⟨_, rfl⟩
    have hT2 : (kruL K (stopB (N : Nat))).1 = T := by rw [← hT]; exact kruL_same (fun l hl => by have := hpl.lk l hl; omega)
    have HA := Lib.hid (fun (W : World) (h : SlE linkE 3 W A2 k K) => bear2_ok (N : Nat) A2 k c2 K W h hpl hpl.len T hT2)
    have HP := Lib.hid (fun (W : World) (h : SlE linkE 3 W A2 k K) => refPlan_any (N : Nat) A2 k c2 K W h (by omega))
    rw [hp] at HP
    have hN1 : 1 ≤ N := by have := hpl.lo; omega
    have hN64 : N ≤ 64 := by have := hpl.hi; omega
    have Hpl := Lib.hid hpl
    have HT := Lib.hid hT
    clear hp hpl hT hT2
    by_cases hTN : (T.length : Int) < (N : Int) - 1
    · go_wp2_with (first
        | (go_at_call 24; refine (HA.out _ Hs.out).mono ?_; rintro e1 w3 ⟨hb, ⟨-, rfl⟩ | ⟨h1, -⟩⟩; rotate_left; (· (exact absurd hTN h1)); have Hb := Lib.hid (Hb.out.trans (hb.mono Hb.out.size)); clear hb)
        | (go_at_call 19; refine (lives_any _).mono ?_; rintro e1 w6 ⟨rfl, hb⟩; have Hb := Lib.hid (Hb.out.trans (hb.mono Hb.out.size)); clear hb))
      exact HY.out _ (HX.out _ Hb.out).2.2
    · have hTl : T.length + 1 = N := by have h1 := kruL_le Hpl.out; rw [HT.out] at h1; omega
      have b0 : ((T.length : Int) != (N : Int) - 1) = false := by simp; omega
      have Hil := Lib.hid (show T.length = (isrt T).length from (isrt_len T).symm)
      obtain ⟨z1, f1, hz1, hz2, hz3, hz4, hz5, hfN⟩ := row_modn f hN1
      obtain ⟨z2, t1, hy1, hy2, hy3, hy4, hy5, htN⟩ := row_modn t hN1
      have hN0 : ¬ (N : Int) = 0 := by omega
      have hNp : (0 : Int) < (N : Int) := by omega
      obtain ⟨v, hv⟩ : ∃ v, (prounds (lksL K (isrt T)) N (pstart f1)).2 t1 = v := ⟨_, rfl⟩
      have hpv := path_val Hpl.out HT.out hTl hfN htN
      rw [hv] at hpv
      have HPa := Lib.hid (fun (W : World) (h : SlE linkE 3 W A2 k K) => pas_known N f1 t1 v A2 k c2 K W h Hpl.out hfN htN hpv.2)
      have HPb := Lib.hid (fun (W : World) (h : SlE linkE 3 W A2 k K) => pas_known N t1 f1 v A2 k c2 K W h Hpl.out htN hfN ⟨fun e => ⟨(hpv.2.1 (fun k => e k.symm)).1.symm, (hpv.2.1 (fun k => e k.symm)).2⟩, fun e => hpv.2.2 e.symm⟩)
      have hTm := kruL_nodup K stop0
      rw [HT.out] at hTm
      have HTm := Lib.hid (show ∀ x ∈ isrt T, 0 ≤ x ∧ x < k from fun x hx => by have := hTm.2 x ((List.mergeSort_perm _ _ : (isrt T).Perm T).subset hx); rw [← Hs.out.1] at this; exact this)
      have HPt := Lib.hid (fun (W : World) (B : Option Addr) (d : Nat) (h : SlE linkE 3 W A2 k K) (ht : SlE intE 1 W B T.length (isrt T)) => path_any N f1 t1 A2 B k c2 T.length d K (isrt T) W h ht (by omega) (by omega) (fun l hl => by have := Hpl.out.lk l hl; omega) HTm.out hN64 hfN htN)
      rw [hv, hpv.1] at HPt
      clear hv hpv hTm
      go_upto_region 5 with (first
        | (go_at_call 24; refine (HA.out _ Hs.out).mono ?_; rintro e1 w3 ⟨hb, ⟨h1, -⟩ | ⟨-, A5, c5, rfl, ho⟩⟩; (· (exact absurd h1 hTN)); have HL := Lib.hid (SlE.of_own ho Hil.out); have Hs := Lib.hid (Hs.out.below hb); have Hb := Lib.hid (Hb.out.trans (hb.mono Hb.out.size)); clear hb ho)
        | (go_at_call 27; refine (HP.out _ Hs.out).mono ?_; rintro e1 w4 ⟨rfl, rfl⟩))
      obtain ⟨x0, x1, -⟩ := HX.out _ Hb.out
      go_quiet (fail)
      (try rw [hz5])
      (try rw [hy5])
      have hsW := Hs.out.below (below_drewN (Below.refl _ _) nq)
      have hlW := HL.out.below (below_drewN (Below.refl _ _) nq)
      have hbW := Hb.out.trans (below_drewN (Below.refl w1.heap.size _) nq)
      obtain ⟨W5, hW5⟩ : ∃ W5, w3.drewN nq = W5 := ⟨_, rfl⟩
      rw [hW5] at hsW hlW hbW ⊢
      clear hz1 hz2 hz3 hz4 hz5 hy1 hy2 hy3 hy4 hy5 hN0 hNp hW5 Hs HL Hb x0 x1
      have Hs := Lib.hid hsW
      have HL := Lib.hid hlW
      have Hb := Lib.hid hbW
      clear hsW hlW hbW
      go_wp2_with fail
      go_loopg [12] T.length (fun gk s12 wr => ∃ i : Nat, s12 = .int .i64 (i : Nat) ∧ i + gk = T.length ∧ wr = W5)
      case atStart => exact ⟨0, rfl, by omega, rfl⟩
      case round =>
        obtain ⟨i, rfl, hi, rfl⟩ := hrel
        by_cases hlt : i < T.length
        · have i1 : (i : Int) < (T.length : Int) := by omega
          obtain ⟨b, o, xi, rfl, hbl, hs, t0⟩ := HL.out.at1 hlt
          obtain ⟨xr1, xr2⟩ := HTm.out xi (List.mem_of_getElem? hs)
          have j1 : ¬ xi < 0 := by omega
          have j2 : ¬ (k : Int) ≤ xi := by omega
          clear hs
          go_wp2_with fail
          go_roundg (gk - 1)
          case measure => omega
          case rel => exact ⟨i + 1, by go_num, by omega, by trivial⟩
        · obtain rfl : i = T.length := by omega
          have hv0 : (v == v) = true := by simp
          go_wp2_with (first
            | (go_at_call 29; first
                | ((with_reducible refine (HPa.out _ Hs.out).mono ?_); rintro e1 w6 ⟨rfl, hb⟩; have HL := Lib.hid (HL.out.below hb); have Hs := Lib.hid (Hs.out.below hb); have Hb := Lib.hid (Hb.out.trans (hb.mono Hb.out.size)); clear hb)
                | ((with_reducible refine (HPb.out _ Hs.out).mono ?_); rintro e1 w6 ⟨rfl, hb⟩; have HL := Lib.hid (HL.out.below hb); have Hs := Lib.hid (Hs.out.below hb); have Hb := Lib.hid (Hb.out.trans (hb.mono Hb.out.size)); clear hb))
            | (go_at_call 28; (with_reducible refine (HPt.out _ _ _ Hs.out HL.out).mono ?_); rintro e1 w7 ⟨rfl, hb⟩; have Hb := Lib.hid (Hb.out.trans (hb.mono Hb.out.size)); clear hb)
            | (go_at_call 19; refine (lives_any _).mono ?_; rintro e1 w8 ⟨rfl, hb⟩; have Hb := Lib.hid (Hb.out.trans (hb.mono Hb.out.size)); clear hb))
          exact HY.out _ (HX.out _ Hb.out).2.2
end
section
open Go.ChangeShapes Go.WideShapes Go.ChangeAt Go.RowKit

theorem Try.own : ownKnob Try.prog.godebug = none := by kernel_rfl
theorem Try.laidOut : laidOutB Try.prog = true := by kernel_rfl

set_option maxHeartbeats 800000 in
set_option maxRecDepth 100000 in
theorem temperNarrow_lifted (os : Os) (started : os.Started) (H : Type) (enc : TypeId × Value → H) :
    ReturnsInHanded {} Try.checked os 8 .any (Rows.temperNarrowSpec.pre6 enc Try.prog Try.f8 Rows.temperNarrowRow.domain false) (Rows.temperNarrowSpec.post enc Try.prog Try.f8 false true false false) := by
  refine returnsInHanded_of_change (C := Try.checked) Try.own started (by kernel_rfl) Try.func8
    (ChangeSpec.witness6 (enc := enc) (C := Try.checked) false ⟨#[], #[.int .i64 0, .slice none 0 0, .agg #[.int .i64 0, .int .i64 0]], []⟩ 8 (by kernel_rfl) (by kernel_rfl) (by kernel_rfl) (by kernel_rfl)) ?_
  intro W base args ds gs before hval0 hW _ _
  have hval : ∀ (j : Nat) t v, Try.f8.params[j]? = some t → args[j]? = some v → Value.okWide Try.prog W .any base t v := hval0
  have hW' := hW
  obtain ⟨p, q, hA0, hV, rfl, _, _⟩ := hW
  have hA : DataW.TrodAll enc Try.prog W 0 (fun _ => true) true Try.f8.params.toList args.toList ds p := hA0
  rw [Try.params8] at hA hval
  obtain ⟨v0, v1, v2, d0, d1, d2, p0, p1, p2, rfl, rfl, rfl, h0, h1, h2⟩ := trodAll_three hA
  obtain ⟨rfl, rfl⟩ := trodVars_none hV
  clear hA0 hval0
  simp only [List.append_nil] at hW'
  have hlt : ∀ x ∈ p0 ++ p1 ++ p2, x.block < W.heap.size := fun x hx => hW'.lt x hx
  obtain ⟨x0, rfl, _, _, wf0⟩ := open_int Try.underlying3 (hval 0 3 v0 rfl rfl) h0
  obtain ⟨A1, n1, c1, l1, rfl, hnc1, hc1, hS1⟩ := open_links (hval 1 34 v1 rfl rfl) h1
  obtain ⟨a2, b2, rfl⟩ := open_int2 (hval 2 43 v2 rfl rfl) h2
  refine (narrow_any x0 a2 b2 A1 n1 c1 l1 W hS1 hnc1 hc1).mono fun e W' ⟨he, hb⟩ => ?_
  subst he
  refine ⟨_, rfl, _, _, _, [], _, [], hW', ?_, trodAll_mk3 (Below.trod Try.laidOut (by kernel_rfl) (of_decide_eq_true (by kernel_rfl)) h0 hb (fun x hx => hlt x (by simp [hx]))) (Below.trod Try.laidOut (by kernel_rfl) (of_decide_eq_true (by kernel_rfl)) h1 hb (fun x hx => hlt x (by simp [hx]))) (Below.trod Try.laidOut (by kernel_rfl) (of_decide_eq_true (by kernel_rfl)) h2 hb (fun x hx => hlt x (by simp [hx]))), rfl, hb.frame _, fun h => by cases h⟩
  exact trodAll_mk1 (shut_bool Try.underlying4 _)

theorem temperNarrow_holds : Rows.TemperNarrowSaid :=
  OpenClaim.holds_of_wide 8 Try.f8 rfl rfl rfl rfl rfl rfl rfl ⟨rfl, rfl, rfl, rfl, rfl⟩ rfl rfl rfl rfl rfl (by kernel_rfl) Try.func8 (by kernel_rfl)
    (of_decide_eq_true (by kernel_rfl)) (by unfold Func.isWrapper; rw [if_neg (by decide +kernel)]; exact ⟨rfl, rfl⟩)
    (fun os started H enc _ => temperNarrow_lifted os started H enc)
end
end Go.Proofs.Ytgmphiklkllnlaa
