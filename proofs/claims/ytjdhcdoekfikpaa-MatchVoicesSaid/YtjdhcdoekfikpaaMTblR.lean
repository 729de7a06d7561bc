/-
  The contract of the document's Table: the cost table of jacks and quills, or the error; condition: both lists read.
-/
import Derived.Test.YtjdhcdoekfikpaaMTblW
namespace Go.Proofs.Ytjdhcdoekfikpaa
open Go.RowKit

def entI (be tr jx jy qx qy : Int) : Int := ent be tr (jx, jy) (qx, qy)
theorem prOkB_iff {x y : Int} : prOkB (x, y) = true ↔ (0 ≤ x ∧ x ≤ 10000) ∧ (0 ≤ y ∧ y ≤ 10000) := by
  unfold prOkB
  rw [Bool.and_eq_true, inR_iff, inR_iff]
theorem all_no {α : Type} {P : α → Bool} {l : List α} {k : Nat} {x : α} (hx : l[k]? = some x) (h : ¬ P x = true) : l.all P = false := by
  rw [List.all_eq_false]
  exact ⟨x, List.mem_of_getElem? hx, by simpa using h⟩
theorem mul_le {x y : Int} (h1 : 0 ≤ x) (h2 : x ≤ 10000) (h3 : 0 ≤ y) (h4 : y ≤ 100) : 0 ≤ x * y ∧ x * y ≤ 1000000 := ⟨Int.mul_nonneg h1 h3, by have := Int.mul_le_mul h2 h4 h3 (by omega : (0 : Int) ≤ 10000); omega⟩
theorem mul_in {x y : Int} (h1 : 0 ≤ x) (h2 : x ≤ 10000) (h3 : 0 ≤ y) (h4 : y ≤ 100) : -9223372036854775808 ≤ x * y ∧ x * y ≤ 9223372036854775807 := by
  have := mul_le h1 h2 h3 h4
  omega
set_option maxRecDepth 100000 in
set_option maxHeartbeats 8000000 in
theorem refTable_any (A1 A2 : Option Addr) (n1 n2 c1 c2 : Nat) (js qs : List (Int × Int)) (be tr : Int) (w : World) (h1 : SlE prE 2 w A1 n1 js) (h2 : SlE prE 2 w A2 n2 qs) (hn1 : n1 ≤ 9223372036854775807) (hn2 : n2 ≤ 9223372036854775807) :
    Calls Try.prog 39 #[.slice A1 n1 c1, .slice A2 n2 c2, .int .i64 be, .int .i64 tr] w fun e w' => (tbOkB js qs be tr = false ∧ e = .returned (.tuple #[.slice none 0 0, .int .i64 1]) ∨ tbOkB js qs be tr = true ∧ ∃ A c, e = .returned (.tuple #[.slice A n1 c, .int .i64 0]) ∧ SlR w' A n1 (tbl be tr js qs)) ∧ Below w.heap.size w w' := by
  refine calls_cps ?_
  intro R hR
  have Hl1 := Lib.hid h1.1
  have Hl2 := Lib.hid h2.1
  obtain ⟨b0, hb0⟩ : ∃ b0, (lenOkB n1 n2 && (inR 100 be && inR 100 tr)) = b0 := ⟨_, rfl⟩
  have Hno := Lib.hid (show (b0 && js.all prOkB && qs.all prOkB) = false → R (.returned (.tuple #[.slice none 0 0, .int .i64 1])) w from fun h => hR.out _ _ ⟨.inl ⟨by unfold tbOkB; rw [← h1.1, ← h2.1, hb0]; exact h, rfl⟩, Below.refl _ _⟩)
  have Hyes := Lib.hid (show ∀ W A c, (b0 && js.all prOkB && qs.all prOkB) = true → SlR W A n1 (tbl be tr js qs) → Below w.heap.size w W → R (.returned (.tuple #[.slice A n1 c, .int .i64 0])) W from fun W A c h hs hb => hR.out _ _ ⟨.inr ⟨by unfold tbOkB; rw [← h1.1, ← h2.1, hb0]; exact h, A, c, rfl, hs⟩, hb⟩)
  have Hb0 := Lib.hid hb0
  have H1 := Lib.hid h1
  have H2 := Lib.hid h2
  have Hno0 := Lib.hid (show (lenOkB n1 n2 && (inR 100 be && inR 100 tr)) = false → R (.returned (.tuple #[.slice none 0 0, .int .i64 1])) w from fun h => Hno.out (by rw [← hb0, h]; rfl))
  clear hR hb0 h1 h2
  go_enter Try.func39, Try.ntmps39
  by_cases g1 : 1 ≤ n1 ∧ n1 ≤ 64
  rotate_left
  · have Hf := Lib.hid (Hno0.out (by
      have : lenOkB n1 n2 = false := by
        unfold lenOkB
        by_cases a : 1 ≤ n1
        · by_cases b : n1 ≤ n2
          · rw [decide_eq_false (show ¬ n2 ≤ 64 by omega)]; simp
          · rw [decide_eq_false b]; simp
        · rw [decide_eq_false a]; rfl
      rw [this]; rfl))
    go_wp2_with fail
    refine (refIn_no _ _ _ _ (by omega)).mono ?_
    rintro e w3 ⟨rfl, rfl⟩
    go_wp2
    exact Hf.out
  go_wp2_with fail
  refine (refIn_yes _ _ _ _ (by omega)).mono ?_
  rintro e w3 ⟨rfl, rfl⟩
  by_cases g2 : n1 ≤ n2 ∧ n2 ≤ 64
  rotate_left
  · have Hf := Lib.hid (Hno0.out (by
      have : lenOkB n1 n2 = false := by
        unfold lenOkB
        by_cases b : n1 ≤ n2
        · rw [decide_eq_false (show ¬ n2 ≤ 64 by omega)]; simp
        · rw [decide_eq_false b]; simp
      rw [this]; rfl))
    go_wp2_with fail
    refine (refIn_no _ _ _ _ (by omega)).mono ?_
    rintro e w3 ⟨rfl, rfl⟩
    go_wp2
    exact Hf.out
  have Hlen := Lib.hid (show lenOkB n1 n2 = true by unfold lenOkB; rw [decide_eq_true g1.1, decide_eq_true g2.1, decide_eq_true g2.2]; rfl)
  go_wp2_with fail
  refine (refIn_yes _ _ _ _ (by omega)).mono ?_
  rintro e w3 ⟨rfl, rfl⟩
  by_cases g3 : 0 ≤ be ∧ be ≤ 100
  rotate_left
  · have Hf := Lib.hid (Hno0.out (by rw [show inR 100 be = false by simpa [inR] using g3]; simp))
    go_wp2_with fail
    refine (refIn_no _ _ _ _ (by omega)).mono ?_
    rintro e w3 ⟨rfl, rfl⟩
    go_wp2
    exact Hf.out
  go_wp2_with fail
  refine (refIn_yes _ _ _ _ (by omega)).mono ?_
  rintro e w3 ⟨rfl, rfl⟩
  by_cases g4 : 0 ≤ tr ∧ tr ≤ 100
  rotate_left
  · have Hf := Lib.hid (Hno0.out (by rw [show inR 100 tr = false by simpa [inR] using g4]; simp))
    go_wp2_with fail
    refine (refIn_no _ _ _ _ (by omega)).mono ?_
    rintro e w3 ⟨rfl, rfl⟩
    go_wp2
    exact Hf.out
  have Hbt := Lib.hid (show b0 = true by rw [← Hb0.out, Hlen.out, inR_iff.2 g3, inR_iff.2 g4]; rfl)
  have l1 := g2.1
  have l2 := g2.2
  have u1 := g3.1
  have u2 := g3.2
  have u3 := g4.1
  have u4 := g4.2
  have Hbe := Lib.hid (inR_iff.2 g3)
  have Htr := Lib.hid (inR_iff.2 g4)
  clear g1 g2 g3 g4 Hno0
  go_wp2_with fail
  refine (refIn_yes _ _ _ _ (by omega)).mono ?_
  rintro e w3 ⟨rfl, rfl⟩
  go_wp2_with fail
  go_loop [10] (fun s10 => ∃ k : Nat, k ≤ n1 ∧ s10 = .int .i64 ((k : Nat) : Int) ∧ Hid ((js.take k).all prOkB = true)) (fun s10 => n1 - (intOf s10).toNat)
  case atStart => exact ⟨0, by omega, rfl, Lib.hid (by simp)⟩
  case round =>
    obtain ⟨k, hk, rfl, He⟩ := hrel
    by_cases hlt : k < n1
    · obtain ⟨b, o, x, y, rfl, hbl, hx, q0, q1⟩ := H1.out.at2 hlt
      have i1 : (k : Int) < (n1 : Int) := by omega
      by_cases hok : (0 ≤ x ∧ x ≤ 10000) ∧ (0 ≤ y ∧ y ≤ 10000)
      · have HS := Lib.hid (all_snoc He.out hx (prOkB_iff.2 hok))
        have m1 := hok.1
        have m2 := hok.2
        clear hx hok
        go_wp2_with fail
        refine (refIn_yes _ _ _ _ (by omega)).mono ?_
        rintro e w3 ⟨rfl, rfl⟩
        go_wp2_with fail
        refine (refIn_yes _ _ _ _ (by omega)).mono ?_
        rintro e w3 ⟨rfl, rfl⟩
        go_wp2
        exact ⟨⟨k + 1, by omega, by go_num, Lib.hid HS.out⟩, by simp [intOf]; omega⟩
      · have Hf := Lib.hid (Hno.out (by rw [all_no hx (fun h => hok (prOkB_iff.1 h))]; simp))
        by_cases h0 : 0 ≤ x ∧ x ≤ 10000
        · have h3 : ¬ (0 ≤ y ∧ y ≤ 10000) := fun h => hok ⟨h0, h⟩
          clear hx hok
          go_wp2_with fail
          refine (refIn_yes _ _ _ _ (by omega)).mono ?_
          rintro e w3 ⟨rfl, rfl⟩
          go_wp2_with fail
          refine (refIn_no _ _ _ _ (by omega)).mono ?_
          rintro e w3 ⟨rfl, rfl⟩
          go_wp2
          exact Hf.out
        · clear hx hok
          go_wp2_with fail
          refine (refIn_no _ _ _ _ (by omega)).mono ?_
          rintro e w3 ⟨rfl, rfl⟩
          go_wp2
          exact Hf.out
    · obtain rfl : k = n1 := by omega
      have hjs := He.out
      rw [List.take_of_length_le (by rw [Hl1.out]; exact Nat.le_refl _)] at hjs
      have Hjs := Lib.hid hjs
      clear hjs He hlt hk
      go_wp2_with fail
      go_loop [11] (fun s11 => ∃ p : Nat, p ≤ n2 ∧ s11 = .int .i64 ((p : Nat) : Int) ∧ Hid ((qs.take p).all prOkB = true)) (fun s11 => n2 - (intOf s11).toNat)
      case atStart => exact ⟨0, by omega, rfl, Lib.hid (by simp)⟩
      case round =>
        obtain ⟨p, hp, rfl, He⟩ := hrel
        by_cases hlt : p < n2
        · obtain ⟨b, o, x, y, rfl, hbl, hx, q0, q1⟩ := H2.out.at2 hlt
          have i1 : (p : Int) < (n2 : Int) := by omega
          by_cases hok : (0 ≤ x ∧ x ≤ 10000) ∧ (0 ≤ y ∧ y ≤ 10000)
          · have HS := Lib.hid (all_snoc He.out hx (prOkB_iff.2 hok))
            have m1 := hok.1
            have m2 := hok.2
            clear hx hok
            go_wp2_with fail
            refine (refIn_yes _ _ _ _ (by omega)).mono ?_
            rintro e w3 ⟨rfl, rfl⟩
            go_wp2_with fail
            refine (refIn_yes _ _ _ _ (by omega)).mono ?_
            rintro e w3 ⟨rfl, rfl⟩
            go_wp2
            exact ⟨⟨p + 1, by omega, by go_num, Lib.hid HS.out⟩, by simp [intOf]; omega⟩
          · have Hf := Lib.hid (Hno.out (by rw [all_no hx (fun h => hok (prOkB_iff.1 h))]; simp))
            by_cases h0 : 0 ≤ x ∧ x ≤ 10000
            · have h3 : ¬ (0 ≤ y ∧ y ≤ 10000) := fun h => hok ⟨h0, h⟩
              clear hx hok
              go_wp2_with fail
              refine (refIn_yes _ _ _ _ (by omega)).mono ?_
              rintro e w3 ⟨rfl, rfl⟩
              go_wp2_with fail
              refine (refIn_no _ _ _ _ (by omega)).mono ?_
              rintro e w3 ⟨rfl, rfl⟩
              go_wp2
              exact Hf.out
            · clear hx hok
              go_wp2_with fail
              refine (refIn_no _ _ _ _ (by omega)).mono ?_
              rintro e w3 ⟨rfl, rfl⟩
              go_wp2
              exact Hf.out
        · obtain rfl : p = n2 := by omega
          have hqs := He.out
          rw [List.take_of_length_le (by rw [Hl2.out]; exact Nat.le_refl _)] at hqs
          have Hqs := Lib.hid hqs
          clear hqs He hlt hp
          have Hjm := Lib.hid (List.all_eq_true.1 Hjs.out)
          have Hqm := Lib.hid (List.all_eq_true.1 Hqs.out)
          have HY := Lib.hid (show (b0 && js.all prOkB && qs.all prOkB) = true by rw [Hbt.out, Hjs.out, Hqs.out]; rfl)
          go_wp2_with fail
          go_loopg [12, 13] k (fun gk s12 s13 wr => ∃ (i : Nat) (A : Option Addr) (c : Nat), i + gk = k ∧ s13 = .int .i64 ((i : Nat) : Int) ∧ s12 = .slice A i c ∧ TblR wr w.heap.size 26 3 (.slice A i c) i (tbl be tr (js.take i) qs) ∧ Below w.heap.size w wr)
          case atStart => exact ⟨0, _, _, by omega, rfl, rfl, ⟨[], by simp [tbl]; exact TblO.start (own_new w #[] 26 1 0 w.heap.size rfl (Nat.le_refl _) (by unfold maxLen; omega))⟩, below_new w _⟩
          case round =>
            obtain ⟨i, A, c, hgi, rfl, rfl, ht, hb⟩ := hrel
            obtain ⟨wi, rfl⟩ : ∃ wi : World, wi = wr := ⟨_, rfl⟩
            have Hba := Lib.hid hb
            have hsz := hb.size
            by_cases hli : i < k
            · obtain ⟨gg, rfl⟩ : ∃ gg, gk = gg + 1 := ⟨gk - 1, by omega⟩
              obtain ⟨b, o, jx, jy, rfl, hbl, hx, _, _⟩ := H1.out.at2 hli
              have i1 : (i : Int) < (k : Int) := by omega
              have hjok := prOkB_iff.1 (Hjm.out _ (List.mem_of_getElem? hx))
              have HT := Lib.hid (tbl_take (be := be) (tr := tr) (qs := qs) hx)
              have Hx := Lib.hid hx
              obtain ⟨outer, ht⟩ := ht
              have Ht := Lib.hid ht
              have m5 := hjok.1.1
              have m6 := hjok.1.2
              have m7 := hjok.2.1
              have m8 := hjok.2.2
              clear hx hjok ht hb
              go_wp2_with fail
              go_loopg [14, 15] p (fun gk s14 s15 wx => ∃ (q : Nat) (A6 : Option Addr) (c6 : Nat), q + gk = p ∧ s15 = .int .i64 ((q : Nat) : Int) ∧ s14 = .slice A6 q c6 ∧ wx.ownsRow wi.heap.size 3 1 (.slice A6 q c6) q (((qs.take q).map (ent be tr (jx, jy))).flatMap intE) ∧ Below wi.heap.size wi wx)
              case atStart => exact ⟨0, _, _, by omega, rfl, rfl, by simp; exact own_new wi #[] 3 1 0 wi.heap.size rfl (Nat.le_refl _) (by unfold maxLen; omega), below_new wi _⟩
              case round =>
                obtain ⟨q, A6, c6, hgq, rfl, rfl, ho, hb⟩ := hrel
                obtain ⟨wx, rfl⟩ : ∃ wx : World, wx = wr := ⟨_, rfl⟩
                have hsx := hb.size
                by_cases hlq : q < p
                · have hbw : Below w.heap.size w wx := Hba.out.trans (hb.mono hsz)
                  obtain ⟨b', o', jx', jy', e5, _, hx', q0, q1⟩ := (H1.out.below hbw).at2 hli
                  simp only [Option.some.injEq, Addr.mk.injEq, and_true] at e5
                  obtain ⟨rfl, rfl⟩ := e5
                  rw [Hx.out] at hx'
                  simp only [Option.some.injEq, Prod.mk.injEq] at hx'
                  obtain ⟨rfl, rfl⟩ := hx'
                  obtain ⟨b2, o2, qx, qy, rfl, _, hq, t0, t1⟩ := (H2.out.below hbw).at2 hlq
                  have i2 : (q : Int) < (p : Int) := by omega
                  have hqok := prOkB_iff.1 (Hqm.out _ (List.mem_of_getElem? hq))
                  have m1 := hqok.1.1
                  have m2 := hqok.1.2
                  have m3 := hqok.2.1
                  have m4 := hqok.2.2
                  obtain ⟨en, hen⟩ : ∃ en, ent be tr (jx, jy) (qx, qy) = en := ⟨_, rfl⟩
                  have HS := Lib.hid (show (qs.take (q + 1)).map (ent be tr (jx, jy)) = (qs.take q).map (ent be tr (jx, jy)) ++ [en] by
                    obtain ⟨hq1, e⟩ := List.getElem?_eq_some_iff.1 hq
                    rw [List.take_succ_eq_append_getElem hq1, List.map_append, e]
                    simp [hen])
                  have Hen := Lib.hid hen
                  have Ho := Lib.hid ho
                  have Hb3 := Lib.hid hb
                  have z1 : IntKind.i64.wrap (qx - jx) = qx - jx := IntWalk.i64_in _ (by omega)
                  have z2 : IntKind.i64.wrap (qy - jy) = qy - jy := IntWalk.i64_in _ (by omega)
                  clear hbw hq hqok hen ho hb
                  go_wp2_with fail
                  go_quiet (fail)
                  rename_i nq
                  go_upto_if 108 with fail
                  go_cut [16] (fun s16 w' => s16 = .int .i64 en ∧ Qt wx w')
                  case first =>
                    by_cases hle : jy ≤ qy
                    · by_cases hd : qx - jx < 0
                      · have z6 : IntKind.i64.wrap (-(qx - jx)) = -(qx - jx) := IntWalk.i64_in _ (by omega)
                        have z3 : IntKind.i64.wrap (-(qx - jx) * be) = -(qx - jx) * be := IntWalk.i64_in _ (mul_in (by omega) (by omega) u1 u2)
                        have z4 : IntKind.i64.wrap ((qy - jy) * tr) = (qy - jy) * tr := IntWalk.i64_in _ (mul_in (by omega) (by omega) u3 u4)
                        have z5 : IntKind.i64.wrap (-(qx - jx) * be + (qy - jy) * tr) = en := by
                          rw [show en = -(qx - jx) * be + (qy - jy) * tr by rw [← Hen.out]; unfold ent; rw [if_pos hle, if_pos hd]]
                          have n1 := mul_le (x := -(qx - jx)) (y := be) (by omega) (by omega) u1 u2
                          have n2 := mul_le (x := qy - jy) (y := tr) (by omega) (by omega) u3 u4
                          exact IntWalk.i64_in _ (by omega)
                        go_wp2_with fail
                        go_quiet (fail)
                        go_wp2_with fail
                        go_quiet (fail)
                        go_wp2_with fail
                        go_meet
                        first | exact ⟨rfl, (((Qt.refl _).step _).step _).step _⟩ | exact ⟨rfl, ((Qt.refl _).step _).step _⟩ | exact ⟨rfl, (Qt.refl _).step _⟩
                      · have hd' : 0 ≤ qx - jx := by omega
                        have z3 : IntKind.i64.wrap ((qx - jx) * be) = (qx - jx) * be := IntWalk.i64_in _ (mul_in (by omega) (by omega) u1 u2)
                        have z4 : IntKind.i64.wrap ((qy - jy) * tr) = (qy - jy) * tr := IntWalk.i64_in _ (mul_in (by omega) (by omega) u3 u4)
                        have z5 : IntKind.i64.wrap ((qx - jx) * be + (qy - jy) * tr) = en := by
                          rw [show en = (qx - jx) * be + (qy - jy) * tr by rw [← Hen.out]; unfold ent; rw [if_pos hle, if_neg hd]]
                          have n1 := mul_le (x := (qx - jx)) (y := be) (by omega) (by omega) u1 u2
                          have n2 := mul_le (x := qy - jy) (y := tr) (by omega) (by omega) u3 u4
                          exact IntWalk.i64_in _ (by omega)
                        go_wp2_with fail
                        go_quiet (fail)
                        go_wp2_with fail
                        go_quiet (fail)
                        go_wp2_with fail
                        go_meet
                        first | exact ⟨rfl, (((Qt.refl _).step _).step _).step _⟩ | exact ⟨rfl, ((Qt.refl _).step _).step _⟩ | exact ⟨rfl, (Qt.refl _).step _⟩
                    · have hlt : qy < jy := by omega
                      have he : en = -1 := by rw [← Hen.out]; unfold ent; rw [if_neg (by show ¬ jy ≤ qy; omega)]
                      subst he
                      clear hle
                      go_wp2_with fail
                      go_meet
                      first | exact ⟨rfl, (((Qt.refl _).step _).step _).step _⟩ | exact ⟨rfl, ((Qt.refl _).step _).step _⟩ | exact ⟨rfl, (Qt.refl _).step _⟩
                  case rest =>
                    obtain ⟨e16, hq⟩ := hcut
                    subst e16
                    obtain ⟨w9, rfl⟩ : ∃ w9 : World, w9 = wc := ⟨_, rfl⟩
                    have Ho9 := Lib.hid (show w9.ownsRow wi.heap.size 3 1 (.slice A6 q c6) q (((qs.take q).map (ent be tr (jx, jy))).flatMap intE) from by obtain ⟨a, rfl⟩ := hq; exact Ho.out)
                    have Hb9 := Lib.hid (show Below wi.heap.size wi w9 from Hb3.out.trans (hq.below.mono hsx))
                    have hs9 := Hb9.out.size
                    clear hq
                    go_wp2_with (at_builtin; refine wpList_app rfl (.tmp 141) (.tmp 143) _ rfl elemInt wi.heap.size _ _ _ rfl (Ho9.out.kept (World.grownBy_alloc w9 _ none) (by cases (Value.slice A6 q c6).ownBlock <;> simp)) _ _ _ _ rfl (Sl.new _ _ _ 1 1 rfl) (by simp [Value.oneCell']) (by unfold maxLen; omega) (by omega) (by simp; omega) ?_; intro A7 c7 w7 ho7 hg7 _; have HB := Lib.hid (below_own (Hb9.out.alloc hs9 _) (Ho9.out.kept (World.grownBy_alloc w9 _ none) (by cases (Value.slice A6 q c6).ownBlock <;> simp)) (Nat.le_refl _) (by simp; omega) hg7); have HO := Lib.hid (show w7.ownsRow wi.heap.size 3 1 (.slice A7 (q + 1) c7) (q + 1) (((qs.take (q + 1)).map (ent be tr (jx, jy))).flatMap intE) from by rw [HS.out, List.flatMap_append]; exact ho7); clear ho7 hg7)
                    go_roundg (gk - 1)
                    case measure => omega
                    case rel => exact ⟨q + 1, A7, c7, by omega, by go_num, rfl, HO.out, HB.out⟩
                · obtain rfl : q = p := by omega
                  have hrow : (qs.take q).map (ent be tr (jx, jy)) = tbRow be tr qs (jx, jy) := by rw [List.take_of_length_le (by rw [Hl2.out]; exact Nat.le_refl _)]; rfl
                  rw [hrow] at ho
                  have Ho := Lib.hid ho
                  have Hb3 := Lib.hid hb
                  have Hrl := Lib.hid (show (tbRow be tr qs (jx, jy)).length = q by simp [tbRow]; exact Hl2.out.symm)
                  clear hrow ho hb
                  go_wp2_with (at_builtin; refine wpList_app rfl (.tmp 145) (.tmp 147) _ rfl elemRow w.heap.size _ _ _ rfl ((Ht.out.below Hb3.out).own.kept (World.grownBy_alloc wx _ none) (by cases (Value.slice A i c).ownBlock <;> simp)) _ _ _ _ rfl (Sl.new _ _ _ 1 1 rfl) (one1s _ _ _) (by unfold maxLen; omega) (by omega) (by simp; omega) ?_; intro A8 c8 w8 ho8 hg8 _)
                  have ht2 := (Ht.out.below (Hb3.out.trans ((below_new wx (.cells #[.slice A6 q c6] 26)).mono hsx))).snoc (by decide) Hrl.out ((own_base' Ho.out hsz).kept (World.grownBy_alloc wx _ none) (by cases (Value.slice A6 q c6).ownBlock <;> simp)) (own_lo Ho.out).2.1 ho8 hg8
                  have hb2 : Below w.heap.size w w8 := below_own ((Hba.out.trans (Hb3.out.mono hsz)).alloc (Nat.le_trans hsz hsx) (.cells #[.slice A6 q c6] 26)) ((Ht.out.below Hb3.out).own.kept (World.grownBy_alloc wx _ none) (by cases (Value.slice A i c).ownBlock <;> simp)) (Nat.le_refl _) (by simp; omega) hg8
                  rw [← HT.out] at ht2
                  have HT3 := Lib.hid ht2
                  have HB3 := Lib.hid hb2
                  clear ho8 hg8 ht2 hb2
                  go_roundg gg
                  case measure => omega
                  case rel => exact ⟨i + 1, A8, c8, by omega, by go_num, rfl, ⟨_, HT3.out⟩, HB3.out⟩
            · obtain rfl : i = k := by omega
              have hs := ht.slr
              rw [List.take_of_length_le (by rw [Hl1.out]; exact Nat.le_refl _)] at hs
              have Hf := Lib.hid (Hyes.out wi A c HY.out hs hb)
              clear hs ht hb
              go_wp2
              exact Hf.out
end Go.Proofs.Ytjdhcdoekfikpaa
