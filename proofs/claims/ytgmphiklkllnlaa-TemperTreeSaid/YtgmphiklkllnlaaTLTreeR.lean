/-
  The contract of clavecinlaw03.TemperTree: true at every input.
-/
import Derived.Test.YtgmphiklkllnlaaTPsb
import Derived.Test.YtgmphiklkllnlaaTPth
import Derived.Test.YtgmphiklkllnlaaTLk
import Derived.Test.YtgmphiklkllnlaaRows
import Derived.Test.YtgmphiklkllnlaaTOpM
namespace Go.Proofs.Ytgmphiklkllnlaa
section
open Go.RowKit
theorem isrt_rise {T : List Int} {n : Nat} (hT : T.Nodup) (hm : ∀ x ∈ T, 0 ≤ x ∧ x < n) : (isrt T).Pairwise (fun x y => x < y) := by
  rw [isrt_filter hT hm]
  refine List.Pairwise.filter _ ?_
  unfold idxs
  exact List.Pairwise.map Int.ofNat (fun a b h => by simpa using h) List.pairwise_lt_range
theorem rise_get {l : List Int} (h : l.Pairwise (fun x y => x < y)) {i : Nat} {x y : Int} (hx : l[i]? = some x) (hy : l[i + 1]? = some y) : x < y := by
  obtain ⟨h1, rfl⟩ := List.getElem?_eq_some_iff.1 hx
  obtain ⟨h2, rfl⟩ := List.getElem?_eq_some_iff.1 hy
  exact List.pairwise_iff_getElem.1 h i (i + 1) h1 h2 (by omega)
set_option maxRecDepth 8000 in
set_option maxHeartbeats 8000000 in
theorem tree_any (notes : Int) (A : Option Addr) (n c : Nat) (L : List Lk) (w : World) (hS : SlE linkE 3 w A n L) (hnc : n ≤ c) (hc : c ≤ 9223372036854775807) :
    Calls Try.prog 6 #[.int .i64 notes, .slice A n c] w fun en w' => en = .returned (.bool true) ∧ Below w.heap.size w w' := by
  refine calls_cps ?_
  intro R hR
  have Hlk := Lib.hid (links_any A n c L w hS hnc hc)
  obtain ⟨K, hK⟩ : ∃ K, L.take (lkK n) = K := ⟨_, rfl⟩
  obtain ⟨k, hk⟩ : ∃ k, lkK n = k := ⟨_, rfl⟩
  have hk5 : k ≤ 513 := by rw [← hk]; unfold lkK; split <;> first | omega | (split <;> omega)
  rw [hK, hk] at Hlk
  have HY := Lib.hid (show ∀ W, Below w.heap.size w W → R (.returned (.bool true)) W from fun W h => hR.out _ W ⟨rfl, h⟩)
  clear hR hS hK hk
  go_enter Try.func6, Try.ntmps6
  go_upto_region 2 with (go_at_call 23; refine Hlk.out.mono ?_; rintro e1 w2 ⟨A2, c2, rfl, hs, hb⟩; have Hs := Lib.hid hs; have Hb := Lib.hid hb; clear hs hb)
  cases hp : planB notes K
  · have HA := Lib.hid (fun (W : World) (h : SlE linkE 3 W A2 k K) => bear_bad notes A2 k c2 K W h (by omega) hp)
    clear hp
    go_wp2_with (first
      | (go_at_call 24; refine (HA.out _ Hs.out).mono ?_; rintro e1 w3 ⟨rfl, hb⟩; have Hb := Lib.hid (Hb.out.trans (hb.mono Hb.out.size)); clear hb)
      | (go_at_call 19; refine (lives_any _).mono ?_; rintro e1 w6 ⟨rfl, hb⟩; have Hb := Lib.hid (Hb.out.trans (hb.mono Hb.out.size)); clear hb))
    exact HY.out _ Hb.out
  · have hpl := (planB_iff _ _).1 hp
    obtain ⟨N, rfl⟩ : ∃ N : Nat, notes = N := ⟨notes.toNat, by have := hpl.lo; omega⟩
    obtain ⟨T, hT⟩ : ∃ T, (kruL K stop0).1 = T := ⟨_, rfl⟩
    have hT2 : (kruL K (stopB (N : Nat))).1 = T := by rw [← hT]; exact kruL_same (fun l hl => by have := hpl.lk l hl; omega)
    have HA := Lib.hid (fun (W : World) (h : SlE linkE 3 W A2 k K) => bear2_ok (N : Nat) A2 k c2 K W h hpl hpl.len T hT2)
    have HP := Lib.hid (fun (W : World) (h : SlE linkE 3 W A2 k K) => refPlan_any (N : Nat) A2 k c2 K W h (by omega))
    rw [hp] at HP
    have hN1 : 1 ≤ N := by have := hpl.lo; omega
    have hN64 : N ≤ 64 := by have := hpl.hi; omega
    have Hpl := Lib.hid hpl
    have HT := Lib.hid hT
    clear hp hpl hT hT2
    by_cases hTN : (T.length : Int) < (N : Int) - 1
    · go_wp2_with (first
        | (go_at_call 24; refine (HA.out _ Hs.out).mono ?_; rintro e1 w3 ⟨hb, ⟨-, rfl⟩ | ⟨h1, -⟩⟩; rotate_left; (· (exact absurd hTN h1)); have Hb := Lib.hid (Hb.out.trans (hb.mono Hb.out.size)); clear hb)
        | (go_at_call 19; refine (lives_any _).mono ?_; rintro e1 w6 ⟨rfl, hb⟩; have Hb := Lib.hid (Hb.out.trans (hb.mono Hb.out.size)); clear hb))
      exact HY.out _ Hb.out
    · have hTl : T.length + 1 = N := by have h1 := kruL_le Hpl.out; rw [HT.out] at h1; omega
      have b0 : ((T.length : Int) != (N : Int) - 1) = false := by simp; omega
      have Hil := Lib.hid (show T.length = (isrt T).length from (isrt_len T).symm)
      have hTm := kruL_nodup K stop0
      rw [HT.out] at hTm
      have HTm := Lib.hid (show ∀ x ∈ isrt T, 0 ≤ x ∧ x < k from fun x hx => by have := hTm.2 x ((List.mergeSort_perm _ _ : (isrt T).Perm T).subset hx); rw [← Hs.out.1] at this; exact this)
      have Hri := Lib.hid (isrt_rise (n := K.length) hTm.1 hTm.2)
      clear hTm
      go_upto_region 7 with (first
        | (go_at_call 24; refine (HA.out _ Hs.out).mono ?_; rintro e1 w3 ⟨hb, ⟨h1, -⟩ | ⟨-, A5, c5, rfl, ho⟩⟩; (· (exact absurd h1 hTN)); have HL := Lib.hid (SlE.of_own ho Hil.out); have Hs := Lib.hid (Hs.out.below hb); have Hb := Lib.hid (Hb.out.trans (hb.mono Hb.out.size)); clear hb ho)
        | (go_at_call 27; refine (HP.out _ Hs.out).mono ?_; rintro e1 w4 ⟨rfl, rfl⟩)
        | (go_at_call 19; refine (lives_any _).mono ?_; rintro e1 w6 ⟨rfl, hb⟩; have HL := Lib.hid (HL.out.below hb); have Hs := Lib.hid (Hs.out.below hb); have Hb := Lib.hid (Hb.out.trans (hb.mono Hb.out.size)); clear hb))
      go_wp2_with fail
      go_loopg [8] T.length (fun gk s8 wr => ∃ i : Nat, s8 = .int .i64 (i : Nat) ∧ i + gk = T.length ∧ Qt w6 wr)
      case atStart => exact ⟨0, rfl, by omega, Qt.refl _⟩
      case round =>
        obtain ⟨i, rfl, hi, q, rfl⟩ := hrel
        obtain ⟨wq, hwq⟩ : ∃ wq, w6.drewN q = wq := ⟨_, rfl⟩
        rw [hwq]
        have hbq : Below w6.heap.size w6 wq := by rw [← hwq]; exact below_drewN (Below.refl _ _) q
        have HLq := Lib.hid (HL.out.below hbq)
        have Hsq := Lib.hid (Hs.out.below hbq)
        have Hwq := Lib.hid hwq
        clear hbq hwq
        by_cases hlt : i < T.length
        · have i1 : (i : Int) < (T.length : Int) := by omega
          have i0 : (0 : Int) ≤ (i : Int) := by omega
          obtain ⟨b, o, xi, rfl, hbl, hs, t0⟩ := HLq.out.at1 hlt
          obtain ⟨xr1, xr2⟩ := HTm.out xi (List.mem_of_getElem? hs)
          have j1 : ¬ xi < 0 := by omega
          have j2 : ¬ (k : Int) ≤ xi := by omega
          by_cases hi0 : i = 0
          · have j3 : ¬ (0 : Int) < (i : Int) := by omega
            have d1 : decide (xi < 0) = false := by simp; omega
            have d2 : decide ((k : Int) ≤ xi) = false := by simp; omega
            have d3 : decide ((0 : Int) < (i : Int)) = false := by simp; omega
            have d4 : decide (0 < i) = false := by simp; omega
            clear hs hi0
            go_wp2_with fail
            go_quiet (fail)
            go_wp2_with fail
            go_roundg (gk - 1)
            case measure => omega
            case rel => exact ⟨i + 1, by go_num, by omega, q + nq, by rw [← Hwq.out]; exact World.drewN_drewN _ _ _⟩
          · obtain ⟨i', rfl⟩ : ∃ i', i = i' + 1 := ⟨i - 1, by omega⟩
            obtain ⟨b', o', yi, e', hbl', hs', t1⟩ := HLq.out.at1 (k := i') (by omega)
            simp only [Option.some.injEq, Addr.mk.injEq, and_true] at e'
            obtain ⟨e1, e2⟩ := e'
            have t1' : wq.cell? ⟨b, o + i', none⟩ = some (.int .i64 yi) := by rw [e1, e2]; exact t1
            have hyx := rise_get Hri.out hs' hs
            have j3 : (0 : Int) < (i' : Int) + 1 := by omega
            have j4 : ¬ xi ≤ yi := by omega
            have j5 : (0 : Int) ≤ (i' : Int) := by omega
            have j6 : (i' : Int) < (T.length : Int) := by omega
            have hu1 : IntKind.i64.wrap ((i' : Int) + 1 - 1) = (i' : Int) := by rw [show (i' : Int) + 1 - 1 = (i' : Int) by omega]; exact IntWalk.i64_in _ (by omega)
            have hu2 : (i' : Int) + 1 - 1 = (i' : Int) := by omega
            have d1 : decide (xi < 0) = false := by simp; omega
            have d2 : decide ((k : Int) ≤ xi) = false := by simp; omega
            have d3 : decide ((0 : Int) < (i' : Int) + 1) = true := decide_eq_true (by omega)
            have d4 : decide (0 < i' + 1) = true := by simp
            have d5 : decide (xi ≤ yi) = false := by simp; omega
            clear hs hs' t1 e1 e2
            go_wp2_with fail
            go_quiet (fail)
            go_wp2_with fail
            go_roundg (gk - 1)
            case measure => omega
            case rel => exact ⟨i' + 1 + 1, by go_num, by omega, q + nq, by rw [← Hwq.out]; exact World.drewN_drewN _ _ _⟩
        · obtain rfl : i = T.length := by omega
          have hbw : Below w.heap.size w wq := by rw [← Hwq.out]; exact Hb.out.trans (below_drewN (Below.refl _ _) q)
          have HBq := Lib.hid hbw
          clear hbw
          go_wp2_with fail
          go_loopg [9, 10, 11] k (fun gk s9 _ _ wr => ∃ j : Nat, s9 = .int .i64 (j : Nat) ∧ j + gk = k ∧ Below wq.heap.size wq wr)
          case atStart => exact ⟨0, rfl, by omega, Below.refl _ _⟩
          case round =>
            obtain ⟨j, rfl, hj, hbr⟩ := hrel
            obtain ⟨wj, rfl⟩ : ∃ wj : World, wj = wr := ⟨_, rfl⟩
            have Hbr := Lib.hid hbr
            have hbj := HBq.out.trans (hbr.mono HBq.out.size)
            by_cases hjk : j < k
            · have i1 : (j : Int) < (k : Int) := by omega
              have i0 : (0 : Int) ≤ (j : Int) := by omega
              have HLj := HLq.out.below hbr
              have Hsj := Hsq.out.below hbr
              obtain ⟨bb, oo, l, rfl, hbl, hs, p0, p1, p2⟩ := Hsj.at3 hjk
              have hlv := Hpl.out.lk l (List.mem_of_getElem? hs)
              obtain ⟨na, hna⟩ : ∃ na : Nat, l.a = na := ⟨l.a.toNat, by omega⟩
              obtain ⟨nb, hnb⟩ : ∃ nb : Nat, l.b = nb := ⟨l.b.toNat, by omega⟩
              have hnaN : na < N := by omega
              have hnbN : nb < N := by omega
              obtain ⟨v, hv⟩ : ∃ v, (prounds (lksL K (isrt T)) N (pstart na)).2 nb = v := ⟨_, rfl⟩
              have hpv := path_val Hpl.out HT.out hTl hnaN hnbN
              rw [hv] at hpv
              have hvl : v ≤ l.w := by
                by_cases e : na = nb
                · rw [hpv.2.2 e]; exact hlv.2.2.1
                · rcases (hpv.2.1 e).1 with ⟨k1, -⟩ | ⟨-, -, -, k4⟩
                  · have := (hpv.2.1 e).2; omega
                  · have hcl := Conn.link (L := K) (List.mem_of_getElem? hs) (Int.le_refl l.w)
                    rw [hna, hnb, Int.toNat_natCast, Int.toNat_natCast] at hcl
                    exact k4 l (List.mem_of_getElem? hs) hcl
              have hpt := fun W (h1 : SlE linkE 3 W (some ⟨bb, oo, none⟩) k K) (h2 : SlE intE 1 W A5 T.length (isrt T)) => path_any N na nb (some ⟨bb, oo, none⟩) A5 k c2 T.length c5 K (isrt T) W h1 h2 (by omega) (by omega) (fun l hl => by have := Hpl.out.lk l hl; omega) HTm.out hN64 hnaN hnbN
              rw [hv, hpv.1] at hpt
              have Hpt := Lib.hid (hpt wj.drew (Hsj.below (Below.refl _ _).drew) (HLj.below (Below.refl _ _).drew))
              have Hbd := Lib.hid (show Below wq.heap.size wq wj.drew from hbr.drew)
              have HP2 := Lib.hid (show ∀ W, Below wj.heap.size wj W → W.cell? ⟨bb, oo + j * 3 + 2, none⟩ = some (.int .i64 l.w) from fun W h => by
                obtain ⟨b3, o3, l3, e3, _, hs3, _, _, r2⟩ := (Hsj.below h).at3 hjk
                simp only [Option.some.injEq, Addr.mk.injEq, and_true] at e3
                obtain ⟨f1, f2⟩ := e3
                rw [hs] at hs3; injection hs3 with hs3; subst hs3
                rw [f1, f2]; exact r2)
              rw [hna] at p0
              rw [hnb] at p1
              obtain ⟨wl, hwl⟩ : ∃ wl, l.w = wl := ⟨_, rfl⟩
              rw [hwl] at hvl HP2
              have jv : ¬ wl < v := by omega
              clear hbr hbj HLj Hsj hs hlv hna hnb hv hpv hpt hwl p2
              go_wp2_with fail
              go_region_with (go_at_call 28; (with_reducible refine Hpt.out.mono ?_); rintro e1 w7 ⟨rfl, hb⟩; have HBw := Lib.hid (Hbd.out.trans (hb.mono Hbd.out.size)); have hw2 := HP2.out _ (Below.trans (Below.refl _ _).drew hb); clear hb)
              all_goals (try go_wp2_with fail)
              all_goals (go_roundg (gk - 1))
              all_goals (first | (exact ⟨j + 1, by go_num, by omega, HBw.out⟩) | omega)
            · obtain rfl : j = k := by omega
              go_wp2_with fail
              exact HY.out _ hbj
end
section
open Go.ChangeShapes Go.WideShapes Go.ChangeAt Go.RowKit

theorem Try.own : ownKnob Try.prog.godebug = none := by kernel_rfl
theorem Try.laidOut : laidOutB Try.prog = true := by kernel_rfl

set_option maxHeartbeats 800000 in
set_option maxRecDepth 100000 in
theorem temperTree_lifted (os : Os) (started : os.Started) (H : Type) (enc : TypeId × Value → H) :
    ReturnsInHanded {} Try.checked os 6 .any (Rows.temperTreeSpec.pre6 enc Try.prog Try.f6 Rows.temperTreeRow.domain false) (Rows.temperTreeSpec.post enc Try.prog Try.f6 false true false false) := by
  refine returnsInHanded_of_change (C := Try.checked) Try.own started (by kernel_rfl) Try.func6
    (ChangeSpec.witness6 (enc := enc) (C := Try.checked) false ⟨#[], #[.int .i64 0, .slice none 0 0], []⟩ 8 (by kernel_rfl) (by kernel_rfl) (by kernel_rfl) (by kernel_rfl)) ?_
  intro W base args ds gs before hval0 hW _ _
  have hval : ∀ (j : Nat) t v, Try.f6.params[j]? = some t → args[j]? = some v → Value.okWide Try.prog W .any base t v := hval0
  have hW' := hW
  obtain ⟨p, q, hA0, hV, rfl, _, _⟩ := hW
  have hA : DataW.TrodAll enc Try.prog W 0 (fun _ => true) true Try.f6.params.toList args.toList ds p := hA0
  rw [Try.params6] at hA hval
  obtain ⟨v0, v1, d0, d1, p0, p1, rfl, rfl, rfl, h0, h1⟩ := trodAll_two hA
  obtain ⟨rfl, rfl⟩ := trodVars_none hV
  clear hA0 hval0
  simp only [List.append_nil] at hW'
  have hlt : ∀ x ∈ p0 ++ p1, x.block < W.heap.size := fun x hx => hW'.lt x hx
  obtain ⟨x0, rfl, _, _, wf0⟩ := open_int Try.underlying3 (hval 0 3 v0 rfl rfl) h0
  obtain ⟨A1, n1, c1, l1, rfl, hnc1, hc1, hS1⟩ := open_links (hval 1 34 v1 rfl rfl) h1
  refine (tree_any x0 A1 n1 c1 l1 W hS1 hnc1 hc1).mono fun e W' ⟨he, hb⟩ => ?_
  subst he
  refine ⟨_, rfl, _, _, _, [], _, [], hW', ?_, trodAll_mk2 (Below.trod Try.laidOut (by kernel_rfl) (of_decide_eq_true (by kernel_rfl)) h0 hb (fun x hx => hlt x (by simp [hx]))) (Below.trod Try.laidOut (by kernel_rfl) (of_decide_eq_true (by kernel_rfl)) h1 hb (fun x hx => hlt x (by simp [hx]))), rfl, hb.frame _, fun h => by cases h⟩
  exact trodAll_mk1 (shut_bool Try.underlying4 _)

theorem temperTree_holds : Rows.TemperTreeSaid :=
  OpenClaim.holds_of_wide 6 Try.f6 rfl rfl rfl rfl rfl rfl rfl ⟨rfl, rfl, rfl, rfl, rfl⟩ rfl rfl rfl rfl rfl (by kernel_rfl) Try.func6 (by kernel_rfl)
    (of_decide_eq_true (by kernel_rfl)) (by unfold Func.isWrapper; rw [if_neg (by decide +kernel)]; exact ⟨rfl, rfl⟩)
    (fun os started H enc _ => temperTree_lifted os started H enc)
end
end Go.Proofs.Ytgmphiklkllnlaa
