/-
  The contracts of the document's Total and of match.total: the cost of an assignment; condition: the table is valid.
-/
import Derived.Test.YtjdhcdoekfikpaaMLawB
namespace Go.Proofs.Ytjdhcdoekfikpaa
open Go.RowKit

/-- The first k numbers are an assignment of the first rows. -/
def okP (T : List (List Int)) (m : Nat) (l : List Int) (k : Nat) : Prop := ∀ i, i < k → 0 ≤ l.getD i 0 ∧ l.getD i 0 < (m : Int) ∧ 0 ≤ ct T i (l.getD i 0).toNat ∧ ∀ j, j < i → l.getD j 0 ≠ l.getD i 0
def TotOk (T : List (List Int)) (m : Nat) (l : List Int) : Prop := l.length = T.length ∧ okP T m l T.length
def totS (T : List (List Int)) (l : List Int) (k : Nat) : Int := sumN (fun i => ct T i (l.getD i 0).toNat) k
theorem okP_zero (T : List (List Int)) (m : Nat) (l : List Int) : okP T m l 0 := fun i hi => by omega
theorem okP_succ {T : List (List Int)} {m k : Nat} {l : List Int} (h : okP T m l k) (h1 : 0 ≤ l.getD k 0) (h2 : l.getD k 0 < (m : Int)) (h3 : 0 ≤ ct T k (l.getD k 0).toNat) (h4 : ∀ j, j < k → l.getD j 0 ≠ l.getD k 0) : okP T m l (k + 1) := fun i hi => by
  by_cases e : i = k
  · subst e; exact ⟨h1, h2, h3, h4⟩
  · exact h i (by omega)
theorem totS_bd {T : List (List Int)} {m k : Nat} {l : List Int} (hok : TOk T m) (hk : k ≤ T.length) (h : okP T m l k) : 0 ≤ totS T l k ∧ totS T l k ≤ 1000000000 * (k : Int) :=
  sumN_bd k (fun i hi => by
    obtain ⟨h1, h2, h3, _⟩ := h i hi
    exact ⟨h3, (hok.costOk i (l.getD i 0).toNat (by omega) (by omega)).2⟩)
theorem getD_cast (l : List Nat) (i : Nat) : (castL l).getD i 0 = ((l.getD i 0 : Nat) : Int) := castL_getD l i
theorem totOk_asg {T : List (List Int)} {m : Nat} {f : List Nat} (h : Asg T m f) : TotOk T m (castL f) := by
  refine ⟨by rw [castL_len, h.len], fun i hi => ?_⟩
  obtain ⟨h1, h2⟩ := h.ok i hi
  rw [getD_cast]
  refine ⟨by omega, by omega, by simpa using h2, fun j hj e => ?_⟩
  rw [getD_cast] at e
  have hl := h.len
  have e' : f.getD j 0 = f.getD i 0 := by omega
  rw [getD_get _ _ _ (by omega), getD_get _ _ _ (by omega)] at e'
  have := nodup_inj h.nd (by omega) (by omega) e'
  omega
theorem totS_asg {T : List (List Int)} {m : Nat} {f : List Nat} (_h : Asg T m f) : totS T (castL f) T.length = costA T f := by
  unfold totS costA
  exact sumN_congr _ (fun i _ => by rw [getD_cast]; simp)
theorem asg_of_tot {T : List (List Int)} {m : Nat} {l : List Int} (h : TotOk T m l) : ∃ f, l = castL f ∧ Asg T m f := by
  obtain ⟨hl, ho⟩ := h
  have hf : l = castL (l.map Int.toNat) := by
    have h1 : l.map ((fun (i : Nat) => (i : Int)) ∘ Int.toNat) = l.map id := List.map_congr_left fun x hx => by
      obtain ⟨i, hi, rfl⟩ := List.getElem_of_mem hx
      have := (ho i (by omega)).1
      rw [getD_get _ _ _ hi] at this
      simp only [Function.comp_apply, id]
      omega
    unfold castL
    rw [List.map_map, h1, List.map_id]
  refine ⟨l.map Int.toNat, hf, ?_⟩
  have hg : ∀ i, (l.map Int.toNat).getD i 0 = (l.getD i 0).toNat := fun i => by
    have := congrArg (fun x => x.getD i 0) hf
    simp only [getD_cast] at this
    rw [this]; simp
  refine ⟨by simpa using hl, ?_, fun i hi => ?_⟩
  · rw [List.nodup_iff_pairwise_ne, List.pairwise_iff_getElem]
    intro i j hi hj hij e
    simp only [List.length_map] at hi hj
    simp only [List.getElem_map] at e
    obtain ⟨h1, _, _, h4⟩ := ho j (by omega)
    have h5 := h4 i hij
    have h6 := (ho i (by omega)).1
    rw [getD_get _ _ _ hi, getD_get _ _ _ hj] at h5
    rw [getD_get _ _ _ hj] at h1
    rw [getD_get _ _ _ hi] at h6
    omega
  · obtain ⟨h1, h2, h3, _⟩ := ho i hi
    rw [hg]
    exact ⟨by omega, h3⟩
set_option maxRecDepth 100000 in
set_option maxHeartbeats 8000000 in
theorem refTotal_any (A : Option Addr) (n c m : Nat) (T : List (List Int)) (A2 : Option Addr) (L c2 : Nat) (l : List Int) (w : World) (hT : SlR w A n T) (hok : TOk T m) (hA : SlE intE 1 w A2 L l) (hL : L ≤ 9223372036854775807) :
    Calls Try.prog 33 #[.slice A n c, .slice A2 L c2] w fun e w' => (TotOk T m l ∧ e = .returned (.tuple #[.int .i64 (totS T l n), .bool true]) ∨ ¬ TotOk T m l ∧ e = .returned (.tuple #[.int .i64 0, .bool false])) ∧ Qt w w' := by
  refine calls_cps ?_
  intro R hR
  have hn1 : 1 ≤ n := by rw [hT.1]; exact hok.n1
  obtain ⟨b, o, A0, c0, rfl, hh⟩ := hT.head (by omega)
  rw [hok.wid] at hh
  have hm64 := hok.m64
  have hnm : n ≤ m := by rw [hT.1]; exact hok.nm
  have hm1 : 1 ≤ m := by omega
  have Hno := Lib.hid (show ∀ W, Qt w W → ¬ TotOk T m l → R (.returned (.tuple #[.int .i64 0, .bool false])) W from fun W hq h => hR.out _ _ ⟨.inr ⟨h, rfl⟩, hq⟩)
  have Hyes := Lib.hid (show ∀ W s, Qt w W → TotOk T m l → s = totS T l n → R (.returned (.tuple #[.int .i64 s, .bool true])) W from fun W s hq h e => hR.out _ _ ⟨.inl ⟨h, by rw [e]⟩, hq⟩)
  have Hn := Lib.hid hT.1
  have Hl := Lib.hid hA.1
  have HT := Lib.hid hT
  have HA := Lib.hid hA
  have Hok := Lib.hid hok
  have Hhh := Lib.hid hh
  have i0 : 0 < n := by omega
  clear hR hT hA hok hh
  by_cases hLn : L = n
  · subst hLn
    have g0 : ((L : Int) != (L : Int)) = false := by simp
    go_enter Try.func33, Try.ntmps33
    go_wp2_with fail
    go_loopg [6, 7] L (fun gk s6 s7 wr => ∃ k : Nat, k + gk = L ∧ s7 = .int .i64 ((k : Nat) : Int) ∧ s6 = .int .i64 (totS T l k) ∧ Hid (okP T m l k) ∧ Qt w wr)
    case atStart => exact ⟨0, by omega, rfl, rfl, Lib.hid (okP_zero T m l), Qt.refl _⟩
    case round =>
      obtain ⟨k, hgk, rfl, rfl, Ho, hq⟩ := hrel
      obtain ⟨wi, rfl⟩ : ∃ wi : World, wi = wr := ⟨_, rfl⟩
      by_cases hlt : k < L
      · obtain ⟨g1, rfl⟩ : ∃ g1, gk = g1 + 1 := ⟨gk - 1, by omega⟩
        obtain ⟨b2, o2, x, rfl, _, hx, q0⟩ := (hq.sl HA.out).at1 hlt
        have hh : wi.cell? ⟨b, o, none⟩ = some (.slice A0 m c0) := by obtain ⟨q, rfl⟩ := hq; exact Hhh.out
        have i1 : (k : Int) < (L : Int) := by omega
        have hgx : l.getD k 0 = x := by rw [List.getD_eq_getElem?_getD, hx]; rfl
        have hsb := totS_bd Hok.out (k := k) (by rw [← Hn.out]; omega) Ho.out
        obtain ⟨s, hs⟩ : ∃ s, totS T l k = s := ⟨_, rfl⟩
        rw [hs] at hsb ⊢
        have Hs := Lib.hid hs
        have Hgx := Lib.hid hgx
        have Hq := Lib.hid hq
        have z0 : IntKind.i64.wrap ((m : Int) - 1) = (m : Int) - 1 := IntWalk.i64_in _ (by omega)
        clear hx hgx hs hq
        by_cases hxr : 0 ≤ x ∧ x ≤ (m : Int) - 1
        · obtain ⟨j, rfl⟩ : ∃ j : Nat, x = j := ⟨x.toNat, by omega⟩
          have hjm : j < m := by omega
          obtain ⟨b', o', Ai, ci, bi, oi, e, _, _, t1, rfl, t2⟩ := table_at HT.out Hok.out.rect (Hq.out.below) hlt hjm
          simp only [Option.some.injEq, Addr.mk.injEq, and_true] at e
          obtain ⟨rfl, rfl⟩ := e
          have hcb := Hok.out.costOk k j (by rw [← Hn.out]; exact hlt) hjm
          obtain ⟨y, hy⟩ : ∃ y, ct T k j = y := ⟨_, rfl⟩
          rw [hy] at t2 hcb
          have Hy := Lib.hid hy
          have i2 : (j : Int) < (m : Int) := by omega
          clear hy hxr
          by_cases hy0 : y < 0
          · have Hf := Lib.hid (show ∀ W, Qt w W → R (.returned (.tuple #[.int .i64 0, .bool false])) W from fun W hq => Hno.out W hq (fun ht => by
              have h3 := (ht.2 k (by rw [← Hn.out]; exact hlt)).2.2.1
              rw [Hgx.out] at h3
              simp only [Int.toNat_natCast] at h3
              rw [Hy.out] at h3
              omega))
            go_wp2_with fail
            go_quiet ((go_at_call 46; exact Calls.quiet_of_same ((refIn_yes _ _ _ _ (by omega)).mono fun _ _ h => ⟨h.1, h.2.symm⟩)))
            go_wp2
            exact Hf.out _ (Hq.out.step _)
          · have hy1 : 0 ≤ y := by omega
            have g3 : decide (y < 0) = false := decide_eq_false hy0
            go_wp2_with fail
            go_quiet ((go_at_call 46; exact Calls.quiet_of_same ((refIn_yes _ _ _ _ (by omega)).mono fun _ _ h => ⟨h.1, h.2.symm⟩)))
            rename_i nq
            have Hqd := Lib.hid (Hq.out.step nq)
            clear Hq q0 t1 t2 hh
            generalize wi.drewN nq = wd at *
            go_wp2_with fail
            go_loopg [8] k (fun g2 s8 wr => ∃ p : Nat, p + g2 = k ∧ s8 = .int .i64 ((p : Nat) : Int) ∧ Hid (∀ i, i < p → l.getD i 0 ≠ (j : Int)) ∧ Qt w wr)
            case atStart => exact ⟨0, by omega, rfl, Lib.hid (fun i hi => by omega), Hqd.out⟩
            case round =>
              obtain ⟨p, hgp, rfl, Hp, hqp⟩ := hrel
              obtain ⟨wj, rfl⟩ : ∃ wj : World, wj = wr := ⟨_, rfl⟩
              have Hqp := Lib.hid hqp
              by_cases hltp : p < k
              · obtain ⟨b3, o3, u, e3, _, hu, r0⟩ := (hqp.sl HA.out).at1 (k := p) (by omega)
                obtain ⟨b4, o4, u', e4, _, hu', r1⟩ := (hqp.sl HA.out).at1 hlt
                simp only [Option.some.injEq, Addr.mk.injEq, and_true] at e3 e4
                obtain ⟨rfl, rfl⟩ := e3
                obtain ⟨rfl, rfl⟩ := e4
                have hu2 : u' = (j : Int) := by rw [← Hgx.out, List.getD_eq_getElem?_getD, hu']; rfl
                subst hu2
                have hgu : l.getD p 0 = u := by rw [List.getD_eq_getElem?_getD, hu]; rfl
                have Hgu := Lib.hid hgu
                have i3 : (p : Int) < (k : Int) := by omega
                have i4 : (p : Int) < (L : Int) := by omega
                clear hu hu' hgu hqp
                by_cases hue : u = (j : Int)
                · have g5 : (u == (j : Int)) = true := by simp [hue]
                  have Hf := Lib.hid (show ∀ W, Qt w W → R (.returned (.tuple #[.int .i64 0, .bool false])) W from fun W hq => Hno.out W hq (fun ht => by
                    have h4 := (ht.2 k (by rw [← Hn.out]; exact hlt)).2.2.2 p hltp
                    rw [Hgx.out, Hgu.out] at h4
                    exact h4 hue))
                  clear hue
                  go_wp2_with fail
                  go_quiet (fail)
                  go_wp2
                  exact Hf.out _ (Hqp.out.step _)
                · have g5 : (u == (j : Int)) = false := by simpa using hue
                  have HP := Lib.hid (show ∀ i, i < p + 1 → l.getD i 0 ≠ (j : Int) from fun i hi => by
                    by_cases e : i = p
                    · subst e; rw [Hgu.out]; exact hue
                    · exact Hp.out i (by omega))
                  clear hue
                  go_wp2_with fail
                  go_quiet (fail)
                  go_wp2_with fail
                  go_roundg (gk - 1)
                  case measure => omega
                  case rel => exact ⟨p + 1, by omega, by go_num, HP, Hqp.out.step _⟩
              · obtain rfl : p = k := by omega
                obtain ⟨b3, o3, u, e3, _, hu, r0⟩ := (hqp.sl HA.out).at1 hlt
                simp only [Option.some.injEq, Addr.mk.injEq, and_true] at e3
                obtain ⟨rfl, rfl⟩ := e3
                have hu2 : u = (j : Int) := by rw [← Hgx.out, List.getD_eq_getElem?_getD, hu]; rfl
                subst hu2
                obtain ⟨b', o', Ai, ci, bi, oi, e, _, _, t1, e5, t2⟩ := table_at HT.out Hok.out.rect (hqp.below) hlt hjm
                simp only [Option.some.injEq, Addr.mk.injEq, and_true] at e
                obtain ⟨rfl, rfl⟩ := e
                rw [Hy.out] at t2
                have z1 : IntKind.i64.wrap (s + y) = s + y := IntWalk.i64_in _ (by omega)
                have HO := Lib.hid (okP_succ Ho.out (by rw [Hgx.out]; omega) (by rw [Hgx.out]; omega) (by rw [Hgx.out]; simp only [Int.toNat_natCast]; rw [Hy.out]; omega) (fun i hi => by rw [Hgx.out]; exact Hp.out i hi))
                have Hst := Lib.hid (show totS T l (p + 1) = s + y by
                  have h := Hs.out
                  unfold totS at h ⊢
                  rw [sumN, h, Hgx.out]
                  simp only [Int.toNat_natCast]
                  rw [Hy.out])
                clear hu hqp
                go_wp2_with fail
                go_quiet (fail)
                go_wp2_with fail
                go_roundg g1
                case measure => omega
                case rel => exact ⟨p + 1, by omega, by go_num, by rw [Hst.out], HO, Hqp.out.step _⟩
        · have Hf := Lib.hid (show ∀ W, Qt w W → R (.returned (.tuple #[.int .i64 0, .bool false])) W from fun W hq => Hno.out W hq (fun ht => by
            have h1 := ht.2 k (by rw [← Hn.out]; exact hlt)
            rw [Hgx.out] at h1
            omega))
          go_wp2_with fail
          go_quiet ((go_at_call 46; exact Calls.quiet_of_same ((refIn_no _ _ _ _ (by omega)).mono fun _ _ h => ⟨h.1, h.2.symm⟩)))
          go_wp2
          exact Hf.out _ (Hq.out.step _)
      · obtain rfl : L = k := by omega
        have Hf := Lib.hid (Hyes.out wi _ hq ⟨by rw [← Hl.out, ← Hn.out], by rw [← Hn.out]; exact Ho.out⟩ rfl)
        go_wp2
        exact Hf.out
  · have g0 : ((L : Int) != (n : Int)) = true := by simp; omega
    have Hf := Lib.hid (Hno.out w (Qt.refl _) (fun ht => hLn (by rw [Hl.out, ht.1, ← Hn.out])))
    go_enter Try.func33, Try.ntmps33
    go_wp2
    exact Hf.out
end Go.Proofs.Ytjdhcdoekfikpaa
