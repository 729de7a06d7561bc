/-
  The contract of clavecinlaw03.TemperFolded: true at every input.
-/
import Derived.Test.YtojbldoekalbnaaGreatNQy
import Derived.Test.YtojbldoekalbnaaGreatTCut
namespace Go.Proofs.YtojbldoekalbnaaGreat
open Go.RowKit
theorem own_cap {W : World} {base e sz n c : Nat} {A : Option Addr} {xs : List Value} (h : W.ownsRow base e sz (.slice A n c) n xs) : n ≤ c ∧ c ≤ 9223372036854775807 := by
  obtain ⟨A2, c2, e, h1, h2, _⟩ := own_slice h
  injection e with _ _ e3
  unfold maxLen at h2
  omega
theorem tn0_in : tn0.In := ⟨by decide, by decide⟩
theorem tones_len {u : Int} {l : List Int} : ∀ {x : Tn} {L : List Tn}, tonesF u x l = some L → L.length = l.length := by
  induction l with
  | nil => intro x L h; simp only [tonesF, Option.some.injEq] at h; subst h; rfl
  | cons s l ih =>
    intro x L h
    simp only [tonesF] at h
    split at h
    · rename_i y hy
      cases e : tonesF u y l with
      | none => rw [e] at h; cases h
      | some M =>
        rw [e] at h
        simp only [Option.map_some, Option.some.injEq] at h
        subst h
        simp [ih e]
    · cases h
theorem tones_rel {u : Int} {l : List Int} : ∀ {x : Tn} {L : List Tn}, tonesF u x l = some L → ∀ i s, l[i]? = some s → ∃ a b, (x :: L)[i]? = some a ∧ (x :: L)[i + 1]? = some b ∧ stepT a s u = some b := by
  induction l with
  | nil => intro x L _ i s hs; simp at hs
  | cons s0 l ih =>
    intro x L h i s hs
    simp only [tonesF] at h
    split at h
    · rename_i y hy
      cases e : tonesF u y l with
      | none => rw [e] at h; cases h
      | some M =>
        rw [e] at h
        simp only [Option.map_some, Option.some.injEq] at h
        subst h
        cases i with
        | zero =>
          simp only [List.getElem?_cons_zero, Option.some.injEq] at hs
          subst hs
          exact ⟨x, y, rfl, rfl, hy⟩
        | succ i =>
          obtain ⟨a, b, h1, h2, h3⟩ := ih e i s (by simpa using hs)
          exact ⟨a, b, by simpa using h1, by simpa using h2, h3⟩
    · cases h
theorem stepT_in {x y : Tn} {s u : Int} (h : stepT x s u = some y) : ∃ j, joinT x (fifT s u) 1 = some j ∧ j.Ok ∧ j.rest = some y ∧ y.In ∧ y.Ok := by
  unfold stepT at h
  split at h
  · rename_i j hj
    have ho := join_ok hj
    have h2 := rest_in (by have := ho.lo; omega) h
    exact ⟨j, hj, ho, h, h2.1, h2.2⟩
  · cases h
theorem tones_in {u : Int} {l : List Int} : ∀ {x : Tn} {L : List Tn}, tonesF u x l = some L → x.In → x.Ok → ∀ t ∈ x :: L, t.In ∧ t.Ok := by
  induction l with
  | nil =>
    intro x L h h1 h2 t ht
    simp only [tonesF, Option.some.injEq] at h
    subst h
    simp only [List.mem_cons, List.not_mem_nil, or_false] at ht
    subst ht
    exact ⟨h1, h2⟩
  | cons s l ih =>
    intro x L h h1 h2 t ht
    simp only [tonesF] at h
    split at h
    · rename_i y hy
      cases e : tonesF u y l with
      | none => rw [e] at h; cases h
      | some M =>
        rw [e] at h
        simp only [Option.map_some, Option.some.injEq] at h
        subst h
        obtain ⟨j, _, _, _, h5, h6⟩ := stepT_in hy
        rcases List.mem_cons.1 ht with rfl | ht
        · exact ⟨h1, h2⟩
        · exact ih e h5 h6 t ht
    · cases h
theorem oct_self {t : Tn} (h : t.In) (ho : t.Ok) : octRet t = .tuple #[.int .i64 0, t.val, .int .i64 0] := by
  have h0 := oct_in (by have := ho.lo; omega) h
  have hr : t.rest = some t := by
    unfold Tn.rest
    rw [h0, Int.zero_mul, Int.sub_zero]
    exact redT_self ho
  unfold octRet
  rw [hr, h0]
theorem oct_to {t x : Tn} (h : t.rest = some x) : octRet t = .tuple #[.int .i64 t.oct, x.val, .int .i64 0] := by
  unfold octRet
  rw [h]
theorem SlE.at4 {w : World} {A : Option Addr} {n k : Nat} {L : List Tn} (h : SlE tnE 4 w A n L) (hk : k < n) :
    ∃ b o l, A = some ⟨b, o, none⟩ ∧ b < w.heap.size ∧ L[k]? = some l ∧ w.cell? ⟨b, o + k * 4, none⟩ = some (.int .i64 l.two) ∧ w.cell? ⟨b, o + k * 4 + 1, none⟩ = some (.int .i64 l.three) ∧ w.cell? ⟨b, o + k * 4 + 2, none⟩ = some (.int .i64 l.five) ∧ w.cell? ⟨b, o + k * 4 + 3, none⟩ = some (.int .i64 l.den) := by
  obtain ⟨b, o, x, hA, hb, hx, hc⟩ := h.at_ tnE_len hk
  exact ⟨b, o, x, hA, hb, hx, by simpa using hc 0 _ rfl, by simpa [Nat.add_assoc] using hc 1 _ rfl, by simpa [Nat.add_assoc] using hc 2 _ rfl, by simpa [Nat.add_assoc] using hc 3 _ rfl⟩
set_option maxRecDepth 16000 in
set_option maxHeartbeats 4000000 in
theorem folded_any (A : Option Addr) (n c : Nat) (l : List Int) (u : Int) (w : World) (hS : SlE intE 1 w A n l) (hnc : n ≤ c) (hc : c ≤ 9223372036854775807) :
    Calls Tryz.prog 3 #[.slice A n c, .int .i64 u] w fun e w' => e = .returned (.bool true) ∧ Below w.heap.size w w' := by
  refine calls_cps ?_
  intro R hR
  have HR := Lib.hid (show ∀ W, Below w.heap.size w W → R (.returned (.bool true)) W from fun W h => hR.out _ _ ⟨rfl, h⟩)
  have Hcut := Lib.hid (cut_own A n c l 14 14 rfl (by omega) w hS hnc hc)
  obtain ⟨q, hq⟩ : ∃ q, l.take 14 = q := ⟨_, rfl⟩
  rw [hq] at Hcut
  have hk0 : q.length ≤ 14 := by rw [← hq, List.length_take]; omega
  obtain ⟨k, hk⟩ : ∃ k, q.length = k := ⟨_, rfl⟩
  rw [hk] at Hcut hk0
  have Hk := Lib.hid hk
  clear hR hq hk
  go_enter Tryz.func3, Tryz.ntmps3
  go_upto_region 2 with ((with_reducible refine Hcut.out.mono ?_); rintro e w1 ⟨A1, c1, rfl, ho1, hb1⟩)
  obtain ⟨of2, of3⟩ := own_cap ho1
  have Hs1 := Lib.hid (SlE.of_own ho1 Hk.out.symm)
  have Hb1 := Lib.hid hb1
  clear ho1 hb1
  go_wp2_with fail
  refine (tones_any A1 k c1 q u w1 Hs1.out of2 of3).mono ?_
  rintro e w2 ⟨hb2, ⟨-, rfl⟩ | ⟨-, -, rfl⟩ | ⟨L, A2, n2, c2, hr, hL, hn2, rfl, ho2⟩⟩
  · have Hb2 := Lib.hid (Hb1.out.trans (hb2.mono Hb1.out.size))
    clear hb2
    go_wp2_with (go_at_call 10; (with_reducible refine (lives_any _).mono ?_); rintro e w3 ⟨rfl, hb3⟩; have Hb3 := Lib.hid (Hb2.out.trans (hb3.mono Hb2.out.size)); clear hb3)
    exact HR.out _ Hb3.out
  · have Hb2 := Lib.hid (Hb1.out.trans (hb2.mono Hb1.out.size))
    clear hb2
    go_wp2_with (go_at_call 10; (with_reducible refine (lives_any _).mono ?_); rintro e w3 ⟨rfl, hb3⟩; have Hb3 := Lib.hid (Hb2.out.trans (hb3.mono Hb2.out.size)); clear hb3)
    exact HR.out _ Hb3.out
  · obtain ⟨hst, hq1, -, hu1, hu2⟩ := right_spec hr
    have hlen := tones_len hL
    rw [List.length_dropLast, Hk.out] at hlen
    rw [Hk.out] at hq1
    obtain rfl : n2 = k := by omega
    obtain ⟨of4, of5⟩ := own_cap ho2
    have Hs2 := Lib.hid (SlE.of_own (enc := tnE) ho2 (by rw [List.length_cons]; exact hn2))
    have Hs1' := Lib.hid (Hs1.out.below hb2)
    have Hb2 := Lib.hid (Hb1.out.trans (hb2.mono Hb1.out.size))
    have Hst := Lib.hid hst
    have HL := Lib.hid hL
    have Hin := Lib.hid (tones_in hL tn0_in tn0_ok)
    clear hb2 ho2 hst hL hr hlen hn2 Hs1 Hb1
    have t1 : ((n2 : Nat) : Int) = (n2 : Int) := rfl
    obtain ⟨b, o, t, rfl, hbl, ht, p0, p1, p2, p3⟩ := Hs2.out.at4 (k := 0) (by omega)
    simp only [List.getElem?_cons_zero, Option.some.injEq] at ht
    subst ht
    unfold tn0 at p0 p1 p2 p3
    dsimp only at p0 p1 p2 p3
    simp only [Nat.zero_mul, Nat.add_zero] at p0 p1 p2 p3
    go_upto_block 0 with (go_at_call 10; (with_reducible refine (lives_any _).mono ?_); rintro e w3 ⟨rfl, hb3⟩)
    have Hb3 := Lib.hid (Hb2.out.trans (hb3.mono Hb2.out.size))
    have HT := Lib.hid (Hs2.out.below hb3)
    have HQ := Lib.hid (Hs1'.out.below hb3)
    clear hb3 hbl p0 p1 p2 p3 Hs2 Hs1' Hb2 Hcut t1
    go_wp2_with fail
    go_loopw [8, 9, 10, 11, 12, 13] (fun s8 _ _ _ _ _ wr => ∃ i : Nat, s8 = .int .i64 (i : Nat) ∧ i ≤ n2 ∧ Hid (Below w3.heap.size w3 wr)) (fun s8 _ _ _ _ _ _ => n2 - (intOf s8).toNat)
    case atStart => exact ⟨0, rfl, Nat.zero_le _, Lib.hid (Below.refl _ _)⟩
    case round =>
      obtain ⟨i, rfl, hi, HW⟩ := hrel
      by_cases hlt : i < n2
      · have j1 : (i : Int) < (n2 : Int) := by omega
        have j0 : (0 : Int) ≤ (i : Int) := by omega
        obtain ⟨b', o', t, e', hbl, ht, p0, p1, p2, p3⟩ := (HT.out.below HW.out).at4 (k := i) hlt
        simp only [Option.some.injEq, Addr.mk.injEq, and_true] at e'
        obtain ⟨rfl, rfl⟩ := e'
        have hio := Hin.out t (List.mem_of_getElem? ht)
        have hoct := fun W => octave_any t W hio.2
        rw [oct_self hio.1 hio.2] at hoct
        have Ht := Lib.hid ht
        obtain ⟨t1, t2, t3, t4⟩ := t
        unfold Tn.val at hoct
        dsimp only at hoct p0 p1 p2 p3
        have Hoct := Lib.hid hoct
        clear hoct hio ht
        have Hp := Lib.hid (show ∀ W', Below wr.heap.size wr W' → W'.cell? ⟨b, o + i * 4, none⟩ = some (.int .i64 t1) ∧ W'.cell? ⟨b, o + i * 4 + 1, none⟩ = some (.int .i64 t2) ∧ W'.cell? ⟨b, o + i * 4 + 2, none⟩ = some (.int .i64 t3) ∧ W'.cell? ⟨b, o + i * 4 + 3, none⟩ = some (.int .i64 t4) from fun W' hb =>
          ⟨(hb.cell (p := ⟨b, o + i * 4, none⟩) hbl).trans p0, (hb.cell (p := ⟨b, o + i * 4 + 1, none⟩) hbl).trans p1, (hb.cell (p := ⟨b, o + i * 4 + 2, none⟩) hbl).trans p2, (hb.cell (p := ⟨b, o + i * 4 + 3, none⟩) hbl).trans p3⟩)
        go_upto_region 11 with (go_at_call 11; (with_reducible refine (Hoct.out _).mono ?_); rintro e w4 ⟨rfl, hb4⟩)
        have hA := heap_alloc_new w4 (.cells #[Value.int .i64 t1, .int .i64 t2, .int .i64 t3, .int .i64 t4] 30)
        have hb5 := hb4.trans ((below_new w4 (.cells #[Value.int .i64 t1, .int .i64 t2, .int .i64 t3, .int .i64 t4] 30)).mono hb4.size)
        have Hz4 := Lib.hid (show wr.heap.size ≤ w4.heap.size from hb4.size)
        have Hz5 := Lib.hid (show w4.heap.size < (w4.alloc (.cells #[Value.int .i64 t1, .int .i64 t2, .int .i64 t3, .int .i64 t4] 30)).heap.size by simp)
        obtain ⟨W5, hW5⟩ : ∃ W, w4.alloc (.cells #[Value.int .i64 t1, .int .i64 t2, .int .i64 t3, .int .i64 t4] 30) = W := ⟨_, rfl⟩
        obtain ⟨z, hz⟩ : ∃ z, w4.heap.size = z := ⟨_, rfl⟩
        rw [hW5] at hA hb5 Hz5 ⊢
        rw [hz] at hA Hz4 Hz5 ⊢
        clear hW5 hz hb4 p0 p1 p2 p3
        obtain ⟨r0, r1, r2, r3, -⟩ := cells4 hA
        obtain ⟨p0, p1, p2, p3⟩ := Hp.out _ hb5
        have HA := Lib.hid hA
        have Hb5 := Lib.hid hb5
        clear hA hb5
        go_upto_region 11 with fail
        go_quiet (fail)
        go_upto_region 13 with fail
        have Hb6 := Lib.hid (below_drewN Hb5.out nq)
        have HA6 := Lib.hid (show (W5.drewN nq).heap[z]? = _ from HA.out)
        have Hz6 := Lib.hid (show z < (W5.drewN nq).heap.size from Hz5.out)
        clear r0 r1 r2 r3 p0 p1 p2 p3 HA Hb5 Hz5
        obtain ⟨W6, hW6⟩ : ∃ W, W5.drewN nq = W := ⟨_, rfl⟩
        rw [hW6] at Hb6 HA6 Hz6 ⊢
        clear hW6
        by_cases hi0 : i = 0
        · subst hi0
          go_wp2_with fail
          exact ⟨⟨1, rfl, by omega, Lib.hid (HW.out.trans (Hb6.out.mono HW.out.size))⟩, by simp [intOf]; omega⟩
        · obtain ⟨j, hj⟩ : ∃ j, i = j + 1 := ⟨i - 1, by omega⟩
          have hjn : j < n2 := by omega
          have hji : (i : Int) - 1 = (j : Int) := by omega
          have hi1 : (i : Int) ≠ 0 := by omega
          have hwj : IntKind.i64.wrap (j : Int) = (j : Int) := IntWalk.i64_in _ (by omega)
          have hi2 : decide (i = 0) = false := decide_eq_false hi0
          obtain ⟨bq, oq, s, rfl, hbq, hs, c0⟩ := (HQ.out.below HW.out).at1 (k := j) hjn
          have hsd : q.dropLast[j]? = some s := by
            rw [List.getElem?_dropLast, if_pos (by have := Hk.out; omega)]; exact hs
          obtain ⟨a, t', ha, ht', hstep⟩ := tones_rel HL.out j s hsd
          rw [← hj, Ht.out] at ht'
          obtain rfl := Option.some.inj ht'
          obtain ⟨y, hy, hyo, hyr, -, -⟩ := stepT_in hstep
          have hs2 := Hst.out s (List.mem_of_getElem? hs)
          have hao := (Hin.out a (List.mem_of_getElem? ha)).2
          obtain ⟨b', o', a', e', hba, ha', p0, p1, p2, p3⟩ := (HT.out.below HW.out).at4 (k := j) hjn
          rw [ha] at ha'
          obtain rfl := Option.some.inj ha'
          simp only [Option.some.injEq, Addr.mk.injEq, and_true] at e'
          obtain ⟨rfl, rfl⟩ := e'
          have hfif := fun W => rfifth_any s u W hs2.1 hs2.2 hu1 hu2
          have hmul := fun W => tone_mul_any a (fifT s u) W hao (fifT_ok hs2.1 hs2.2 hu1 hu2).2
          rw [hy] at hmul
          have hoct := fun W => octave_any y W hyo
          rw [oct_to hyr] at hoct
          obtain ⟨F, hF⟩ : ∃ F, fifT s u = F := ⟨_, rfl⟩
          rw [hF] at hfif hmul
          obtain ⟨ko, hko⟩ : ∃ k, y.oct = k := ⟨_, rfl⟩
          rw [hko] at hoct
          obtain ⟨a1, a2, a3, a4⟩ := a
          obtain ⟨f1, f2, f3, f4⟩ := F
          obtain ⟨y1, y2, y3, y4⟩ := y
          unfold redRet at hmul
          unfold Tn.val at hfif hmul hoct
          dsimp only at hfif hmul hoct p0 p1 p2 p3
          have Hfif := Lib.hid hfif
          have Hmul := Lib.hid hmul
          have Hoy := Lib.hid hoct
          clear hfif hmul hoct hF hko hyr hyo hy hstep hsd hs hs2 hao Hoct
          have Hc := Lib.hid (show ∀ W', Below W6.heap.size W6 W' → Below W6.heap.size W6 W' ∧ W'.cell? ⟨b, o + j * 4, none⟩ = some (.int .i64 a1) ∧ W'.cell? ⟨b, o + j * 4 + 1, none⟩ = some (.int .i64 a2) ∧ W'.cell? ⟨b, o + j * 4 + 2, none⟩ = some (.int .i64 a3) ∧ W'.cell? ⟨b, o + j * 4 + 3, none⟩ = some (.int .i64 a4) ∧ W'.cell? ⟨bq, oq + j, none⟩ = some (.int .i64 s) from fun W' hb' => by
            have hb := Hb6.out.trans (hb'.mono Hb6.out.size)
            exact ⟨hb', (hb.cell (p := ⟨b, o + j * 4, none⟩) hbl).trans p0, (hb.cell (p := ⟨b, o + j * 4 + 1, none⟩) hbl).trans p1, (hb.cell (p := ⟨b, o + j * 4 + 2, none⟩) hbl).trans p2, (hb.cell (p := ⟨b, o + j * 4 + 3, none⟩) hbl).trans p3, (hb.cell (p := ⟨bq, oq + j, none⟩) hbq).trans c0⟩)
          clear p0 p1 p2 p3 c0 hba hj hi0
          have i1 : (j : Int) < (n2 : Int) := by omega
          have i0 : (0 : Int) ≤ (j : Int) := by omega
          go_upto_region 14 with fail
          go_cut [12, 13] (fun s12 s13 wx => ∃ zb : Nat, s12 = .pointer (some ⟨zb, 0, none⟩) ∧ s13 = .int .i64 0 ∧ Hid (wx.heap[zb]? = some (.cells #[Value.int .i64 y1, .int .i64 y2, .int .i64 y3, .int .i64 y4] 30 (0, 0))) ∧ Hid (Below W6.heap.size W6 wx))
          case first =>
            have hbz : Below W6.heap.size W6 W6.drew := (Below.refl _ W6).drew
            obtain ⟨-, p0, p1, p2, p3, c0⟩ := Hc.out _ (Below.refl _ W6)
            have hl0 : W6.heap.size ≤ W6.drew.heap.size := Nat.le_refl _
            go_region_held3 (fun W' => Below W6.heap.size W6 W' ∧ W'.cell? ⟨b, o + j * 4, none⟩ = some (.int .i64 a1) ∧ W'.cell? ⟨b, o + j * 4 + 1, none⟩ = some (.int .i64 a2) ∧ W'.cell? ⟨b, o + j * 4 + 2, none⟩ = some (.int .i64 a3) ∧ W'.cell? ⟨b, o + j * 4 + 3, none⟩ = some (.int .i64 a4) ∧ W'.cell? ⟨bq, oq + j, none⟩ = some (.int .i64 s))
              (first
                | (refine Hc.out _ ?_; repeat (first | with_reducible exact hbz | with_reducible exact hk2 | with_reducible exact hk1 | with_reducible refine Below.drew ?_ | with_reducible refine below_al1 ?_ _ | with_reducible exact Below.refl _ _ | (with_reducible refine Below.setCell ?_ (by first | exact hk1.size | exact hk2.size | exact Nat.le_refl _) _)))
                | go_keep)
              (first
              | (go_at_call 13; have hcur := (‹Below W6.heap.size W6 _ ∧ _›).1; (with_reducible refine (Hfif.out _).mono ?_); rintro e w7 ⟨rfl, hb7⟩; have hk1 := hcur.trans (hb7.mono hcur.size); (try (have hzA := (hb7.block W6.heap.size (by simp)).trans (heap_alloc_new W6 (.cells #[Value.int .i64 0, .int .i64 0, .int .i64 0, .int .i64 0] 30)); obtain ⟨x0, x1, x2, x3, x4⟩ := cells4 hzA)); clear hb7 hcur)
              | (go_at_call 12; have hcur := (‹Below W6.heap.size W6 _ ∧ _›).1; (with_reducible refine (Hmul.out _).mono ?_); rintro e w8 ⟨rfl, hb8⟩; have hk2 := hcur.trans (hb8.mono hcur.size); (try (have hzB := (hb8.block W6.heap.size (Array.getElem?_eq_some_iff.1 hzA).1).trans hzA; obtain ⟨x0, x1, x2, x3, x4⟩ := cells4 hzB)); (try (have hzB := (hb8.block w7.heap.size (by simp)).trans (heap_alloc_new w7 (.cells #[Value.int .i64 0, .int .i64 0, .int .i64 0, .int .i64 0] 30)); obtain ⟨x0, x1, x2, x3, x4⟩ := cells4 hzB)); clear hb8 hcur))
            all_goals
              go_wp2_with fail
              go_meet
              first
                | exact ⟨_, rfl, rfl, Lib.hid (heap_alloc_new w8 _), Lib.hid (below_al1 hk2 _)⟩
                | exact ⟨_, rfl, rfl, Lib.hid (set4_heap hzB _ _ _ _), Lib.hid (set4_below hk2 hk1.size _ _ _ _)⟩
                | exact ⟨_, rfl, rfl, Lib.hid (set4_heap hzB _ _ _ _), Lib.hid (set4_below hk2 (Nat.le_refl _) _ _ _ _)⟩
          case rest =>
            obtain ⟨zb, rfl, rfl, HY, HB⟩ := hcut
            obtain ⟨x0, x1, x2, x3, -⟩ := cells4 HY.out
            have Hzc := Lib.hid ((HB.out.block z Hz6.out).trans HA6.out)
            have Hzl := Lib.hid (Nat.lt_of_lt_of_le Hz6.out HB.out.size)
            have Hbc := Lib.hid (Hb6.out.trans (HB.out.mono Hb6.out.size))
            clear HY HB HA6 Hz6 Hb6 Hc Hfif Hmul
            go_wp2_with fail
            refine (Hoy.out _).mono ?_
            rintro e w9 ⟨rfl, hb9⟩
            have HZ9 := Lib.hid ((hb9.block z Hzl.out).trans Hzc.out)
            have Hb9 := Lib.hid (Hbc.out.trans (hb9.mono Hbc.out.size))
            obtain ⟨z0, z1, z2, z3, z4⟩ := cells4 HZ9.out
            clear hb9 x0 x1 x2 x3
            go_upto_region 16 with fail
            have hs4 := set4_heap HZ9.out (.int .i64 t1) (.int .i64 t2) (.int .i64 t3) (.int .i64 t4)
            have hb10 := set4_below Hb9.out Hz4.out (.int .i64 t1) (.int .i64 t2) (.int .i64 t3) (.int .i64 t4)
            unfold set4 at hs4 hb10
            obtain ⟨r0, r1, r2, r3, -⟩ := cells4 hs4
            obtain ⟨p0, p1, p2, p3⟩ := Hp.out _ hb10
            have Hb10 := Lib.hid hb10
            clear hs4 hb10
            obtain ⟨W10, hW10⟩ : ∃ W, (((w9.setCell ⟨z, 0, none⟩ (.int .i64 t1)).setCell ⟨z, 1, none⟩ (.int .i64 t2)).setCell ⟨z, 2, none⟩ (.int .i64 t3)).setCell ⟨z, 3, none⟩ (.int .i64 t4) = W := ⟨_, rfl⟩
            rw [hW10] at r0 r1 r2 r3 p0 p1 p2 p3 Hb10 ⊢
            clear hW10
            go_quiet (fail)
            go_wp2_with fail
            exact ⟨⟨i + 1, by go_num, by omega, Lib.hid (HW.out.trans ((below_drewN Hb10.out nq).mono HW.out.size))⟩, by simp [intOf]; omega⟩
      · have j1 : decide ((i : Int) < (n2 : Int)) = false := decide_eq_false (by omega)
        have Hf := Lib.hid (HR.out wr (Hb3.out.trans (HW.out.mono Hb3.out.size)))
        obtain rfl : i = n2 := by omega
        go_wp2_with fail
        exact Hf.out
end Go.Proofs.YtojbldoekalbnaaGreat
