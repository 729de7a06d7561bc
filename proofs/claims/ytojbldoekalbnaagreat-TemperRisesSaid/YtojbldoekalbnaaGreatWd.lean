/-
  The contract of clavecinlaw03.TemperRises: true at every input.
-/
import Derived.Test.YtojbldoekalbnaaGreatWSa
import Derived.Test.YtojbldoekalbnaaGreatTCut
namespace Go.Proofs.YtojbldoekalbnaaGreat
section
open Go.RowKit
theorem tn0_in : tn0.In := ⟨by decide, by decide⟩
theorem stepT_in {x y : Tn} {s u : Int} (h : stepT x s u = some y) : ∃ j, joinT x (fifT s u) 1 = some j ∧ j.Ok ∧ j.rest = some y ∧ y.In ∧ y.Ok := by
  unfold stepT at h
  split at h
  · rename_i j hj
    have ho := join_ok hj
    have h2 := rest_in (by have := ho.lo; omega) h
    exact ⟨j, hj, ho, h, h2.1, h2.2⟩
  · cases h
theorem tones_in {u : Int} {l : List Int} : ∀ {x : Tn} {L : List Tn}, tonesF u x l = some L → x.In → x.Ok → ∀ t ∈ x :: L, t.In ∧ t.Ok := by
  induction l with
  | nil =>
    intro x L h h1 h2 t ht
    simp only [tonesF, Option.some.injEq] at h
    subst h
    simp only [List.mem_cons, List.not_mem_nil, or_false] at ht
    subst ht
    exact ⟨h1, h2⟩
  | cons s l ih =>
    intro x L h h1 h2 t ht
    simp only [tonesF] at h
    split at h
    · rename_i y hy
      cases e : tonesF u y l with
      | none => rw [e] at h; cases h
      | some M =>
        rw [e] at h
        simp only [Option.map_some, Option.some.injEq] at h
        subst h
        obtain ⟨j, _, _, _, h5, h6⟩ := stepT_in hy
        rcases List.mem_cons.1 ht with rfl | ht
        · exact ⟨h1, h2⟩
        · exact ih e h5 h6 t ht
    · cases h
theorem open_u64 {v : Value} {Q R : Int → Prop} (h : ∃ n, v = .int .u64 n ∧ Q n ∧ R n ∧ (Lit.int .u64 n).wf = true) : ∃ x : Nat, v = .int .u64 (x : Nat) ∧ x < 18446744073709551616 := by
  obtain ⟨n, e, -, -, hw⟩ := h
  simp [Lit.wf, IntKind.min, IntKind.max, IntKind.signed, IntKind.bits] at hw
  exact ⟨n.toNat, by rw [e, Int.toNat_of_nonneg hw.1], by omega⟩
theorem sortL_spec (M : List Nat) : (sortL M).Pairwise (· ≤ ·) ∧ (sortL M).Perm M := by
  have e : (fun x y : Nat => !ltN y x) = fun x y => decide (x ≤ y) := by
    funext x y
    unfold ltN
    by_cases h : y < x
    · have : ¬ x ≤ y := by omega
      simp [h, this]
    · have : x ≤ y := by omega
      simp [h, this]
  unfold sortL
  rw [e]
  refine ⟨(List.pairwise_mergeSort (le := fun a b => decide (a ≤ b)) ?_ ?_ M).imp fun h => by simpa using h, List.mergeSort_perm _ _⟩
  · intro a b c h1 h2; simp at h1 h2 ⊢; omega
  · intro a b; simp; omega
/-- The frequencies of a scale: they rise, the first one is the base, all lie below its double. -/
theorem rises {base : Nat} {L : List Tn} (hb : 0 < base) (hb2 : base < 1152921504606846976) (hL : ∀ t ∈ tn0 :: L, t.In ∧ t.Ok) :
    (sortL ((tn0 :: L).map (fqV base))).length = L.length + 1 ∧ (sortL ((tn0 :: L).map (fqV base)))[0]? = some base ∧ (∀ (i x : Nat), (sortL ((tn0 :: L).map (fqV base)))[i]? = some x → base ≤ x ∧ x < 2 * base) ∧
    ∀ (i x y : Nat), (sortL ((tn0 :: L).map (fqV base)))[i]? = some x → (sortL ((tn0 :: L).map (fqV base)))[i + 1]? = some y → x ≤ y := by
  have hf : ∀ t ∈ tn0 :: L, base ≤ fqV base t ∧ fqV base t < 2 * base := fun t ht => by
    have h := freq_in (base := base) (t := t) (by have := (hL t ht).2.lo; omega) (hL t ht).1 hb
    unfold fqV
    rw [if_pos (by omega)]
    exact h
  have h0 : fqV base tn0 = base := by
    have h := freq_one base
    unfold fqV tn0
    rw [h, if_pos (by omega)]
  obtain ⟨M, hM⟩ : ∃ M, (tn0 :: L).map (fqV base) = M := ⟨_, rfl⟩
  obtain ⟨hs, hp⟩ := sortL_spec M
  rw [hM]
  have hin : ∀ x ∈ sortL M, base ≤ x ∧ x < 2 * base := fun x hx => by
    have hx := hp.subset hx
    rw [← hM] at hx
    obtain ⟨t, ht, rfl⟩ := List.mem_map.1 hx
    exact hf t ht
  have hlen : (sortL M).length = L.length + 1 := by rw [hp.length_eq, ← hM]; simp
  have hbm : base ∈ sortL M := hp.symm.subset (by rw [← hM, List.map_cons, h0]; simp)
  refine ⟨hlen, ?_, fun i x hx => hin x (List.mem_of_getElem? hx), fun i x y hx hy => ?_⟩
  · cases hc : sortL M with
    | nil => rw [hc] at hlen; simp at hlen
    | cons z r =>
      rw [hc] at hs hbm hin
      have h1 : z ≤ base := by
        rcases List.mem_cons.1 hbm with h | h
        · omega
        · exact (List.pairwise_cons.1 hs).1 base h
      have h2 := (hin z (by simp)).1
      have : z = base := by omega
      subst this
      rfl
  · obtain ⟨h1, e1⟩ := List.getElem?_eq_some_iff.1 hx
    obtain ⟨h2, e2⟩ := List.getElem?_eq_some_iff.1 hy
    have := (List.pairwise_iff_getElem.1 hs) i (i + 1) h1 h2 (by omega)
    rw [e1, e2] at this
    exact this
set_option maxRecDepth 16000 in
set_option maxHeartbeats 4000000 in
theorem risesLaw_any (base : Nat) (A : Option Addr) (n c : Nat) (l : List Int) (u : Int) (w : World) (hbase : base < 18446744073709551616) (hS : SlE intE 1 w A n l) (hnc : n ≤ c) (hc : c ≤ 9223372036854775807) :
    Calls Tryz.prog 6 #[.int .u64 (base : Nat), .slice A n c, .int .i64 u] w fun e w' => e = .returned (.bool true) ∧ Below w.heap.size w w' := by
  refine calls_cps ?_
  intro R hR
  have HR := Lib.hid (show ∀ W, Below w.heap.size w W → R (.returned (.bool true)) W from fun W h => hR.out _ _ ⟨rfl, h⟩)
  have Hcut := Lib.hid (cut_own A n c l 24 24 rfl (by omega) w hS hnc hc)
  obtain ⟨q, hq⟩ : ∃ q, l.take 24 = q := ⟨_, rfl⟩
  rw [hq] at Hcut
  have hk0 : q.length ≤ 24 := by rw [← hq, List.length_take]; omega
  obtain ⟨k, hk⟩ : ∃ k, q.length = k := ⟨_, rfl⟩
  rw [hk] at Hcut hk0
  have Hk := Lib.hid hk
  obtain ⟨b20, hb20⟩ : ∃ x, base / 1048576 = x := ⟨_, rfl⟩
  have bi : (base : Int) / 1048576 = (b20 : Int) := by omega
  obtain ⟨B, hB⟩ : ∃ x, b20 + 1 = x := ⟨_, rfl⟩
  have Bi : (b20 : Int) + 1 = (B : Int) := by omega
  have hB1 : 1 ≤ B ∧ B ≤ 17592186044417 := by omega
  obtain ⟨hB1, hB2⟩ := hB1
  clear hR hq hk hb20 hB
  go_enter Tryz.func6, Tryz.ntmps6
  go_upto_region 2 with ((with_reducible refine Hcut.out.mono ?_); rintro e w1 ⟨A1, c1, rfl, ho1, hb1⟩)
  obtain ⟨of2, of3⟩ := own_caps ho1
  have Hs1 := Lib.hid (SlE.of_own ho1 Hk.out.symm)
  have Hb1 := Lib.hid hb1
  clear ho1 hb1
  have Hsc := Lib.hid (scale_any B A1 k c1 q u w1 Hs1.out of2 of3 (by omega))
  go_wp2_with fail
  refine Hsc.out.mono ?_
  rintro e w2 (⟨-, rfl, hb2⟩ | ⟨hr, hb2, hO⟩)
  · have Hb2 := Lib.hid (Hb1.out.trans (hb2.mono Hb1.out.size))
    clear hb2
    go_wp2_with (go_at_call 10; (with_reducible refine (lives_any _).mono ?_); rintro e w3 ⟨rfl, hb3⟩; have Hb3 := Lib.hid (Hb2.out.trans (hb3.mono Hb2.out.size)); clear hb3)
    exact HR.out _ Hb3.out
  · have Hb2 := Lib.hid (Hb1.out.trans (hb2.mono Hb1.out.size))
    clear hb2
    unfold toldO at hO
    cases hT : tonesF u tn0 q.dropLast with
    | none =>
      rw [hT] at hO
      dsimp only at hO
      subst hO
      clear hT hr
      go_wp2_with (go_at_call 10; (with_reducible refine (lives_any _).mono ?_); rintro e w3 ⟨rfl, hb3⟩; have Hb3 := Lib.hid (Hb2.out.trans (hb3.mono Hb2.out.size)); clear hb3)
      exact HR.out _ Hb3.out
    | some L =>
      rw [hT] at hO
      dsimp only at hO
      rw [if_neg (by omega)] at hO
      obtain ⟨A2, n2, c2, hn2, hn3, hn4, rfl, hs2⟩ := hO
      have Hri := Lib.hid (rises (base := B) (by omega) (by omega) (tones_in hT tn0_in tn0_ok))
      have hlen := tonesF_len hT
      rw [List.length_dropLast, Hk.out] at hlen
      have hq1 := (right_spec hr).2.1
      rw [Hk.out] at hq1
      obtain ⟨M, hM⟩ : ∃ M, sortL ((tn0 :: L).map (fqV B)) = M := ⟨_, rfl⟩
      rw [hM] at Hri hn2 hs2
      obtain rfl : n2 = k := by rw [hn2, Hri.out.1]; omega
      have Hs2 := Lib.hid hs2
      clear hT hr hM hn2 hs2 hlen Hsc
      obtain ⟨b, o, x0, rfl, hbl, hx0, p0⟩ := Hs2.out.atU (k := 0) (by omega)
      rw [Hri.out.2.1] at hx0
      obtain rfl := Option.some.inj hx0
      rw [Nat.add_zero] at p0
      have t0 : (0 : Int) < (n2 : Int) := by omega
      have t1 : ((n2 : Int) != (n2 : Int)) = false := by simp
      clear hx0
      go_upto_region 8 with (go_at_call 10; (with_reducible refine (lives_any _).mono ?_); rintro e w3 ⟨rfl, hb3⟩; have Hb3 := Lib.hid (Hb2.out.trans (hb3.mono Hb2.out.size)); have Hs3 := Lib.hid (Hs2.out.below hb3); clear hb3)
      clear p0 hbl t1
      go_wp2_with fail
      go_loopw [10] (fun s10 wr => ∃ i : Nat, s10 = .int .i64 (i : Nat) ∧ i ≤ n2 ∧ Hid (Below w3.heap.size w3 wr)) (fun s10 _ => n2 - (intOf s10).toNat)
      case atStart => exact ⟨0, rfl, Nat.zero_le _, Lib.hid (Below.refl _ _)⟩
      case round =>
        obtain ⟨i, rfl, hi, HW⟩ := hrel
        by_cases hlt : i < n2
        · have j1 : (i : Int) < (n2 : Int) := by omega
          have j0 : (0 : Int) ≤ (i : Int) := by omega
          obtain ⟨b', o', x, e', hbx, hx, q0⟩ := (Hs3.out.below HW.out).atU (k := i) hlt
          simp only [Option.some.injEq, Addr.mk.injEq, and_true] at e'
          obtain ⟨rfl, rfl⟩ := e'
          have hxb := Hri.out.2.2.1 i x hx
          have r1 : decide ((x : Int) < (B : Int)) = false := decide_eq_false (by omega)
          have r2 : decide (x < B) = false := decide_eq_false (by omega)
          have r3 : decide (2 * (B : Int) ≤ (x : Int)) = false := decide_eq_false (by omega)
          have r4 : decide (2 * B ≤ x) = false := decide_eq_false (by omega)
          have r5 : IntKind.u64.wrap (2 * (B : Int)) = 2 * (B : Int) := IntWalk.u64_in _ (by omega)
          by_cases hi0 : i = 0
          · have r6 : decide ((0 : Int) < (i : Int)) = false := decide_eq_false (by omega)
            have r7 : decide (0 < i) = false := decide_eq_false (by omega)
            have Hi0 := Lib.hid hi0
            clear hi0 hx hxb
            go_upto_region 11 with fail
            go_quiet (fail)
            go_wp2_with fail
            exact ⟨⟨i + 1, by go_num, by omega, Lib.hid (below_drewN HW.out _)⟩, by simp [intOf]; omega⟩
          · obtain ⟨j, hj⟩ : ∃ j, i = j + 1 := ⟨i - 1, by omega⟩
            obtain ⟨b'', o'', y, e'', hby, hy, q1⟩ := (Hs3.out.below HW.out).atU (k := j) (by omega)
            simp only [Option.some.injEq, Addr.mk.injEq, and_true] at e''
            obtain ⟨rfl, rfl⟩ := e''
            have hxy := Hri.out.2.2.2 j y x hy (by rw [← hj]; exact hx)
            have r6 : decide ((0 : Int) < (i : Int)) = true := decide_eq_true (by omega)
            have r7 : decide (0 < i) = true := decide_eq_true (by omega)
            have r8 : decide ((x : Int) < (y : Int)) = false := decide_eq_false (by omega)
            have r9 : decide (x < y) = false := decide_eq_false (by omega)
            have ji : (i : Int) - 1 = (j : Int) := by omega
            have ji2 : IntKind.i64.wrap (j : Int) = (j : Int) := wr64 (by omega)
            have ji3 : (j : Int) < (n2 : Int) := by omega
            have ji4 : (0 : Int) ≤ (j : Int) := by omega
            clear hi0 hx hxb hj hy hxy
            go_upto_region 11 with fail
            go_quiet (fail)
            go_wp2_with fail
            exact ⟨⟨i + 1, by go_num, by omega, Lib.hid (below_drewN HW.out _)⟩, by simp [intOf]; omega⟩
        · obtain rfl : i = n2 := by omega
          have Hf := Lib.hid (HR.out wr (Hb3.out.trans (HW.out.mono Hb3.out.size)))
          go_wp2_with fail
          exact Hf.out
end
end Go.Proofs.YtojbldoekalbnaaGreat
