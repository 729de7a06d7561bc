/-
  Contracts of the document's Total and Best, of the law's cut, of match.total and of Grow, Concat and Contains; each states its condition.
-/
import Derived.Test.YtjdhcdoekfikpaaMFe
import Derived.Lib.AppendZerosOnto
namespace Go.Proofs.Ytjdhcdoekfikpaa
section
open Go.RowKit

/-- The first k numbers are an assignment of the first rows. -/
def okP (T : List (List Int)) (m : Nat) (l : List Int) (k : Nat) : Prop := ∀ i, i < k → 0 ≤ l.getD i 0 ∧ l.getD i 0 < (m : Int) ∧ 0 ≤ ct T i (l.getD i 0).toNat ∧ ∀ j, j < i → l.getD j 0 ≠ l.getD i 0
def TotOk (T : List (List Int)) (m : Nat) (l : List Int) : Prop := l.length = T.length ∧ okP T m l T.length
def totS (T : List (List Int)) (l : List Int) (k : Nat) : Int := sumN (fun i => ct T i (l.getD i 0).toNat) k
theorem okP_zero (T : List (List Int)) (m : Nat) (l : List Int) : okP T m l 0 := fun i hi => by omega
theorem okP_succ {T : List (List Int)} {m k : Nat} {l : List Int} (h : okP T m l k) (h1 : 0 ≤ l.getD k 0) (h2 : l.getD k 0 < (m : Int)) (h3 : 0 ≤ ct T k (l.getD k 0).toNat) (h4 : ∀ j, j < k → l.getD j 0 ≠ l.getD k 0) : okP T m l (k + 1) := fun i hi => by
  by_cases e : i = k
  · subst e; exact ⟨h1, h2, h3, h4⟩
  · exact h i (by omega)
theorem totS_bd {T : List (List Int)} {m k : Nat} {l : List Int} (hok : TOk T m) (hk : k ≤ T.length) (h : okP T m l k) : 0 ≤ totS T l k ∧ totS T l k ≤ 1000000000 * (k : Int) :=
  sumN_bd k (fun i hi => by
    obtain ⟨h1, h2, h3, _⟩ := h i hi
    exact ⟨h3, (hok.costOk i (l.getD i 0).toNat (by omega) (by omega)).2⟩)
theorem getD_cast (l : List Nat) (i : Nat) : (castL l).getD i 0 = ((l.getD i 0 : Nat) : Int) := castL_getD l i
theorem totOk_asg {T : List (List Int)} {m : Nat} {f : List Nat} (h : Asg T m f) : TotOk T m (castL f) := by
  refine ⟨by rw [castL_len, h.len], fun i hi => ?_⟩
  obtain ⟨h1, h2⟩ := h.ok i hi
  rw [getD_cast]
  refine ⟨by omega, by omega, by simpa using h2, fun j hj e => ?_⟩
  rw [getD_cast] at e
  have hl := h.len
  have e' : f.getD j 0 = f.getD i 0 := by omega
  rw [getD_get _ _ _ (by omega), getD_get _ _ _ (by omega)] at e'
  have := nodup_inj h.nd (by omega) (by omega) e'
  omega
theorem totS_asg {T : List (List Int)} {m : Nat} {f : List Nat} (_h : Asg T m f) : totS T (castL f) T.length = costA T f := by
  unfold totS costA
  exact sumN_congr _ (fun i _ => by rw [getD_cast]; simp)
theorem asg_of_tot {T : List (List Int)} {m : Nat} {l : List Int} (h : TotOk T m l) : ∃ f, l = castL f ∧ Asg T m f := by
  obtain ⟨hl, ho⟩ := h
  have hf : l = castL (l.map Int.toNat) := by
    have h1 : l.map ((fun (i : Nat) => (i : Int)) ∘ Int.toNat) = l.map id := List.map_congr_left fun x hx => by
      obtain ⟨i, hi, rfl⟩ := List.getElem_of_mem hx
      have := (ho i (by omega)).1
      rw [getD_get _ _ _ hi] at this
      simp only [Function.comp_apply, id]
      omega
    unfold castL
    rw [List.map_map, h1, List.map_id]
  refine ⟨l.map Int.toNat, hf, ?_⟩
  have hg : ∀ i, (l.map Int.toNat).getD i 0 = (l.getD i 0).toNat := fun i => by
    have := congrArg (fun x => x.getD i 0) hf
    simp only [getD_cast] at this
    rw [this]; simp
  refine ⟨by simpa using hl, ?_, fun i hi => ?_⟩
  · rw [List.nodup_iff_pairwise_ne, List.pairwise_iff_getElem]
    intro i j hi hj hij e
    simp only [List.length_map] at hi hj
    simp only [List.getElem_map] at e
    obtain ⟨h1, _, _, h4⟩ := ho j (by omega)
    have h5 := h4 i hij
    have h6 := (ho i (by omega)).1
    rw [getD_get _ _ _ hi, getD_get _ _ _ hj] at h5
    rw [getD_get _ _ _ hj] at h1
    rw [getD_get _ _ _ hi] at h6
    omega
  · obtain ⟨h1, h2, h3, _⟩ := ho i hi
    rw [hg]
    exact ⟨by omega, h3⟩
set_option maxRecDepth 100000 in
set_option maxHeartbeats 8000000 in
theorem refTotal_any (A : Option Addr) (n c m : Nat) (T : List (List Int)) (A2 : Option Addr) (L c2 : Nat) (l : List Int) (w : World) (hT : SlR w A n T) (hok : TOk T m) (hA : SlE intE 1 w A2 L l) (hL : L ≤ 9223372036854775807) :
    Calls Try.prog 33 #[.slice A n c, .slice A2 L c2] w fun e w' => (TotOk T m l ∧ e = .returned (.tuple #[.int .i64 (totS T l n), .bool true]) ∨ ¬ TotOk T m l ∧ e = .returned (.tuple #[.int .i64 0, .bool false])) ∧ Qt w w' := by
  refine calls_cps ?_
  intro R hR
  have hn1 : 1 ≤ n := by rw [hT.1]; exact hok.n1
  obtain ⟨b, o, A0, c0, rfl, hh⟩ := hT.head (by omega)
  rw [hok.wid] at hh
  have hm64 := hok.m64
  have hnm : n ≤ m := by rw [hT.1]; exact hok.nm
  have hm1 : 1 ≤ m := by omega
  have Hno := Lib.hid (show ∀ W, Qt w W → ¬ TotOk T m l → R (.returned (.tuple #[.int .i64 0, .bool false])) W from fun W hq h => hR.out _ _ ⟨.inr ⟨h, rfl⟩, hq⟩)
  have Hyes := Lib.hid (show ∀ W s, Qt w W → TotOk T m l → s = totS T l n → R (.returned (.tuple #[.int .i64 s, .bool true])) W from fun W s hq h e => hR.out _ _ ⟨.inl ⟨h, by rw [e]⟩, hq⟩)
  have Hn := Lib.hid hT.1
  have Hl := Lib.hid hA.1
  have HT := Lib.hid hT
  have HA := Lib.hid hA
  have Hok := Lib.hid hok
  have Hhh := Lib.hid hh
  have i0 : 0 < n := by omega
  clear hR hT hA hok hh
  by_cases hLn : L = n
  · subst hLn
    have g0 : ((L : Int) != (L : Int)) = false := by simp
    go_enter Try.func33, Try.ntmps33
    go_wp2_with fail
    go_loopg [6, 7] L (fun gk s6 s7 wr => ∃ k : Nat, k + gk = L ∧ s7 = .int .i64 ((k : Nat) : Int) ∧ s6 = .int .i64 (totS T l k) ∧ Hid (okP T m l k) ∧ Qt w wr)
    case atStart => exact ⟨0, by omega, rfl, rfl, Lib.hid (okP_zero T m l), Qt.refl _⟩
    case round =>
      obtain ⟨k, hgk, rfl, rfl, Ho, hq⟩ := hrel
      obtain ⟨wi, rfl⟩ : ∃ wi : World, wi = wr := ⟨_, rfl⟩
      by_cases hlt : k < L
      · obtain ⟨g1, rfl⟩ : ∃ g1, gk = g1 + 1 := ⟨gk - 1, by omega⟩
        obtain ⟨b2, o2, x, rfl, _, hx, q0⟩ := (hq.sl HA.out).at1 hlt
        have hh : wi.cell? ⟨b, o, none⟩ = some (.slice A0 m c0) := by obtain ⟨q, rfl⟩ := hq; exact Hhh.out
        have i1 : (k : Int) < (L : Int) := by omega
        have hgx : l.getD k 0 = x := by rw [List.getD_eq_getElem?_getD, hx]; rfl
        have hsb := totS_bd Hok.out (k := k) (by rw [← Hn.out]; omega) Ho.out
        obtain ⟨s, hs⟩ : ∃ s, totS T l k = s := ⟨_, rfl⟩
        rw [hs] at hsb ⊢
        have Hs := Lib.hid hs
        have Hgx := Lib.hid hgx
        have Hq := Lib.hid hq
        have z0 : IntKind.i64.wrap ((m : Int) - 1) = (m : Int) - 1 := IntWalk.i64_in _ (by omega)
        clear hx hgx hs hq
        by_cases hxr : 0 ≤ x ∧ x ≤ (m : Int) - 1
        · obtain ⟨j, rfl⟩ : ∃ j : Nat, x = j := ⟨x.toNat, by omega⟩
          have hjm : j < m := by omega
          obtain ⟨b', o', Ai, ci, bi, oi, e, _, _, t1, rfl, t2⟩ := table_at HT.out Hok.out.rect (Hq.out.below) hlt hjm
          simp only [Option.some.injEq, Addr.mk.injEq, and_true] at e
          obtain ⟨rfl, rfl⟩ := e
          have hcb := Hok.out.costOk k j (by rw [← Hn.out]; exact hlt) hjm
          obtain ⟨y, hy⟩ : ∃ y, ct T k j = y := ⟨_, rfl⟩
          rw [hy] at t2 hcb
          have Hy := Lib.hid hy
          have i2 : (j : Int) < (m : Int) := by omega
          clear hy hxr
          by_cases hy0 : y < 0
          · have Hf := Lib.hid (show ∀ W, Qt w W → R (.returned (.tuple #[.int .i64 0, .bool false])) W from fun W hq => Hno.out W hq (fun ht => by
              have h3 := (ht.2 k (by rw [← Hn.out]; exact hlt)).2.2.1
              rw [Hgx.out] at h3
              simp only [Int.toNat_natCast] at h3
              rw [Hy.out] at h3
              omega))
            go_wp2_with fail
            go_quiet ((go_at_call 46; exact Calls.quiet_of_same ((refIn_yes _ _ _ _ (by omega)).mono fun _ _ h => ⟨h.1, h.2.symm⟩)))
            go_wp2
            exact Hf.out _ (Hq.out.step _)
          · have hy1 : 0 ≤ y := by omega
            have g3 : decide (y < 0) = false := decide_eq_false hy0
            go_wp2_with fail
            go_quiet ((go_at_call 46; exact Calls.quiet_of_same ((refIn_yes _ _ _ _ (by omega)).mono fun _ _ h => ⟨h.1, h.2.symm⟩)))
            rename_i nq
            have Hqd := Lib.hid (Hq.out.step nq)
            clear Hq q0 t1 t2 hh
            generalize wi.drewN nq = wd at *
            go_wp2_with fail
            go_loopg [8] k (fun g2 s8 wr => ∃ p : Nat, p + g2 = k ∧ s8 = .int .i64 ((p : Nat) : Int) ∧ Hid (∀ i, i < p → l.getD i 0 ≠ (j : Int)) ∧ Qt w wr)
            case atStart => exact ⟨0, by omega, rfl, Lib.hid (fun i hi => by omega), Hqd.out⟩
            case round =>
              obtain ⟨p, hgp, rfl, Hp, hqp⟩ := hrel
              obtain ⟨wj, rfl⟩ : ∃ wj : World, wj = wr := ⟨_, rfl⟩
              have Hqp := Lib.hid hqp
              by_cases hltp : p < k
              · obtain ⟨b3, o3, u, e3, _, hu, r0⟩ := (hqp.sl HA.out).at1 (k := p) (by omega)
                obtain ⟨b4, o4, u', e4, _, hu', r1⟩ := (hqp.sl HA.out).at1 hlt
                simp only [Option.some.injEq, Addr.mk.injEq, and_true] at e3 e4
                obtain ⟨rfl, rfl⟩ := e3
                obtain ⟨rfl, rfl⟩ := e4
                have hu2 : u' = (j : Int) := by rw [← Hgx.out, List.getD_eq_getElem?_getD, hu']; rfl
                subst hu2
                have hgu : l.getD p 0 = u := by rw [List.getD_eq_getElem?_getD, hu]; rfl
                have Hgu := Lib.hid hgu
                have i3 : (p : Int) < (k : Int) := by omega
                have i4 : (p : Int) < (L : Int) := by omega
                clear hu hu' hgu hqp
                by_cases hue : u = (j : Int)
                · have g5 : (u == (j : Int)) = true := by simp [hue]
                  have Hf := Lib.hid (show ∀ W, Qt w W → R (.returned (.tuple #[.int .i64 0, .bool false])) W from fun W hq => Hno.out W hq (fun ht => by
                    have h4 := (ht.2 k (by rw [← Hn.out]; exact hlt)).2.2.2 p hltp
                    rw [Hgx.out, Hgu.out] at h4
                    exact h4 hue))
                  clear hue
                  go_wp2_with fail
                  go_quiet (fail)
                  go_wp2
                  exact Hf.out _ (Hqp.out.step _)
                · have g5 : (u == (j : Int)) = false := by simpa using hue
                  have HP := Lib.hid (show ∀ i, i < p + 1 → l.getD i 0 ≠ (j : Int) from fun i hi => by
                    by_cases e : i = p
                    · subst e; rw [Hgu.out]; exact hue
                    · exact Hp.out i (by omega))
                  clear hue
                  go_wp2_with fail
                  go_quiet (fail)
                  go_wp2_with fail
                  go_roundg (gk - 1)
                  case measure => omega
                  case rel => exact ⟨p + 1, by omega, by go_num, HP, Hqp.out.step _⟩
              · obtain rfl : p = k := by omega
                obtain ⟨b3, o3, u, e3, _, hu, r0⟩ := (hqp.sl HA.out).at1 hlt
                simp only [Option.some.injEq, Addr.mk.injEq, and_true] at e3
                obtain ⟨rfl, rfl⟩ := e3
                have hu2 : u = (j : Int) := by rw [← Hgx.out, List.getD_eq_getElem?_getD, hu]; rfl
                subst hu2
                obtain ⟨b', o', Ai, ci, bi, oi, e, _, _, t1, e5, t2⟩ := table_at HT.out Hok.out.rect (hqp.below) hlt hjm
                simp only [Option.some.injEq, Addr.mk.injEq, and_true] at e
                obtain ⟨rfl, rfl⟩ := e
                rw [Hy.out] at t2
                have z1 : IntKind.i64.wrap (s + y) = s + y := IntWalk.i64_in _ (by omega)
                have HO := Lib.hid (okP_succ Ho.out (by rw [Hgx.out]; omega) (by rw [Hgx.out]; omega) (by rw [Hgx.out]; simp only [Int.toNat_natCast]; rw [Hy.out]; omega) (fun i hi => by rw [Hgx.out]; exact Hp.out i hi))
                have Hst := Lib.hid (show totS T l (p + 1) = s + y by
                  have h := Hs.out
                  unfold totS at h ⊢
                  rw [sumN, h, Hgx.out]
                  simp only [Int.toNat_natCast]
                  rw [Hy.out])
                clear hu hqp
                go_wp2_with fail
                go_quiet (fail)
                go_wp2_with fail
                go_roundg g1
                case measure => omega
                case rel => exact ⟨p + 1, by omega, by go_num, by rw [Hst.out], HO, Hqp.out.step _⟩
        · have Hf := Lib.hid (show ∀ W, Qt w W → R (.returned (.tuple #[.int .i64 0, .bool false])) W from fun W hq => Hno.out W hq (fun ht => by
            have h1 := ht.2 k (by rw [← Hn.out]; exact hlt)
            rw [Hgx.out] at h1
            omega))
          go_wp2_with fail
          go_quiet ((go_at_call 46; exact Calls.quiet_of_same ((refIn_no _ _ _ _ (by omega)).mono fun _ _ h => ⟨h.1, h.2.symm⟩)))
          go_wp2
          exact Hf.out _ (Hq.out.step _)
      · obtain rfl : L = k := by omega
        have Hf := Lib.hid (Hyes.out wi _ hq ⟨by rw [← Hl.out, ← Hn.out], by rw [← Hn.out]; exact Ho.out⟩ rfl)
        go_wp2
        exact Hf.out
  · have g0 : ((L : Int) != (n : Int)) = true := by simp; omega
    have Hf := Lib.hid (Hno.out w (Qt.refl _) (fun ht => hLn (by rw [Hl.out, ht.1, ← Hn.out])))
    go_enter Try.func33, Try.ntmps33
    go_wp2
    exact Hf.out
end
section
open Go.RowKit

/-- The first columns are an assignment of the first rows. -/
structure FstOk (T : List (List Int)) (m : Nat) (l : List Nat) : Prop where
  nd : l.Nodup
  ok : ∀ i, i < l.length → l.getD i 0 < m ∧ 0 ≤ ct T i (l.getD i 0)
theorem FstOk.snoc {T : List (List Int)} {m k : Nat} {l : List Nat} (h : FstOk T m l) (hk : k < m) (h0 : 0 ≤ ct T l.length k) (hn : k ∉ l) : FstOk T m (l ++ [k]) := by
  refine ⟨List.nodup_append.2 ⟨h.nd, by simp, fun a ha b hb e => ?_⟩, fun i hi => ?_⟩
  · simp at hb; subst hb; subst e; exact hn ha
  · rw [List.length_append] at hi
    simp at hi
    by_cases e : i < l.length
    · rw [List.getD_eq_getElem?_getD, List.getElem?_append_left e, ← List.getD_eq_getElem?_getD]; exact h.ok i e
    · have e' : i = l.length := by omega
      subst e'
      rw [List.getD_eq_getElem?_getD, List.getElem?_append_right (Nat.le_refl _)]
      simp
      exact ⟨hk, h0⟩
theorem FstOk.asg {T : List (List Int)} {m : Nat} {l : List Nat} (h : FstOk T m l) (hl : l.length = T.length) : Asg T m l := ⟨hl, h.nd, fun i hi => h.ok i (by omega)⟩
theorem bruteL_skip {rec : List Nat → Acc → Acc} {T : List (List Int)} {l : List Nat} {m k : Nat} {a : Acc} (hk : k < m) (h : ¬ (0 ≤ ct T l.length k ∧ k ∉ l)) : bruteL rec T l ((List.range m).drop k) a = bruteL rec T l ((List.range m).drop (k + 1)) a := by
  rw [drop_range_cons hk, bruteL, if_neg h]
theorem bruteL_take {rec : List Nat → Acc → Acc} {T : List (List Int)} {l : List Nat} {m k : Nat} {a : Acc} (hk : k < m) (h : 0 ≤ ct T l.length k ∧ k ∉ l) : bruteL rec T l ((List.range m).drop k) a = bruteL rec T l ((List.range m).drop (k + 1)) (rec (l ++ [k]) a) := by
  rw [drop_range_cons hk, bruteL, if_pos h]
theorem mem_take_succ {l : List Nat} {i x k : Nat} (h : l[i]? = some x) : k ∈ l.take (i + 1) ↔ k ∈ l.take i ∨ k = x := by
  obtain ⟨hi, rfl⟩ := List.getElem?_eq_some_iff.1 h
  rw [List.take_succ_eq_append_getElem hi, List.mem_append, List.mem_singleton]
set_option maxRecDepth 100000 in
set_option maxHeartbeats 16000000 in
theorem refbest_any (w0 : World) (A : Option Addr) (n c m : Nat) (T : List (List Int)) (hT : SlR w0 A n T) (hok : TOk T m) :
    ∀ (f : Nat) (l : List Nat) (a : Acc) (Af At : Option Addr) (Lf cf Lt ct' : Nat) (W : World), l.length + f = n → FstOk T m l → Below w0.heap.size w0 W → SlE intE 1 W Af Lf (castL l) → SlE intE 1 W At Lt (castL a.1) → Lt ≤ ct' → ct' ≤ 9223372036854775807 → Lt ≤ 64 →
    Calls Try.prog 50 #[.slice A n c, .slice Af Lf cf, .slice At Lt ct', .int .i64 a.2.1, .bool a.2.2] W fun e W' => ∃ A' L' c', e = .returned (.tuple #[.slice A' L' c', .int .i64 (bruteF T m f l a).2.1, .bool (bruteF T m f l a).2.2]) ∧
      SlE intE 1 W' A' L' (castL (bruteF T m f l a).1) ∧ L' ≤ c' ∧ c' ≤ 9223372036854775807 ∧ L' ≤ 64 ∧ Below W.heap.size W W' := by
  intro f
  induction f with
  | zero =>
    intro l a Af At Lf cf Lt ct' W hlf hF hb hsf hst hc1 hc2 hL64
    refine calls_cps ?_
    intro R hR
    have hTW := hT.below hb
    have hln : l.length = n := by omega
    have hn := hT.1
    have hasg := hF.asg (by rw [hln, hn])
    have htot := totOk_asg hasg
    have hcost : totS T (castL l) n = costA T l := by rw [hn]; exact totS_asg hasg
    have hn64 : n ≤ 64 := by rw [hn]; exact Nat.le_trans hok.nm hok.m64
    have hLf : Lf = n := by rw [hsf.1, castL_len, hln]
    obtain ⟨s, hs⟩ : ∃ s, costA T l = s := ⟨_, rfl⟩
    obtain ⟨lt, sa, isa⟩ := a
    have hbr : bruteF T m 0 l (lt, sa, isa) = if isa = false ∨ s < sa then (l, s, true) else (lt, sa, isa) := by rw [bruteF, hs]
    rw [hbr] at hR
    rw [hs] at hcost
    have Htot := Lib.hid htot
    have Hcost := Lib.hid hcost
    have HTW := Lib.hid hTW
    have Hsf := Lib.hid hsf
    have Hst := Lib.hid hst
    have Hok := Lib.hid hok
    subst hLf
    clear htot hcost hTW hsf hst hok hbr hs hasg hT hb hF hn hln hlf
    have g0 : ((Lf : Int) == (Lf : Int)) = true := by simp
    dsimp only
    go_enter Try.func50, Try.ntmps50
    go_wp2_with fail
    refine (refTotal_any A Lf c m T Af Lf cf (castL l) W HTW.out Hok.out Hsf.out (by omega)).mono ?_
    rw [Hcost.out]
    rintro e w1 ⟨⟨_, rfl⟩ | ⟨h, _⟩, hq⟩
    · have hb1 := hq.below
      have Hb1 := Lib.hid hb1
      have Hsf1 := Lib.hid (Hsf.out.below hb1)
      have Hst1 := Lib.hid (Hst.out.below hb1)
      have h64 := own_new w1 #[] 3 1 0 w1.heap.size rfl (Nat.le_refl _) (by unfold maxLen; omega)
      have HO := Lib.hid h64
      clear hb1 hq h64
      cases isa with
      | false =>
        rw [if_pos (.inl rfl)] at hR
        go_wp2_with (at_builtin; refine wpList_app rfl (.tmp 40) (.tmp 41) _ rfl elemInt w1.heap.size _ _ _ rfl HO.out _ _ _ _ rfl (Hsf1.out.2.alloc _) (int_one _) (by unfold maxLen; omega) (by omega) (by simp) ?_; intro A3 c3 w3 ho3 hg3 _; rw [Nat.zero_add, List.nil_append] at ho3; have hb3 := app_below1 rfl hg3; clear hg3)
        go_ret3
        exact hR.out _ _ ⟨A3, Lf, c3, rfl, SlE.of_own ho3 Hsf1.out.1, (own_lo ho3).2.1, (own_lo ho3).2.2, hn64, Hb1.out.trans (hb3.mono Hb1.out.size)⟩
      | true =>
        by_cases hlt : s < sa
        · rw [if_pos (.inr hlt)] at hR
          go_wp2_with (at_builtin; refine wpList_app rfl (.tmp 40) (.tmp 41) _ rfl elemInt w1.heap.size _ _ _ rfl HO.out _ _ _ _ rfl (Hsf1.out.2.alloc _) (int_one _) (by unfold maxLen; omega) (by omega) (by simp) ?_; intro A3 c3 w3 ho3 hg3 _; rw [Nat.zero_add, List.nil_append] at ho3; have hb3 := app_below1 rfl hg3; clear hg3)
          go_ret3
          exact hR.out _ _ ⟨A3, Lf, c3, rfl, SlE.of_own ho3 Hsf1.out.1, (own_lo ho3).2.1, (own_lo ho3).2.2, hn64, Hb1.out.trans (hb3.mono Hb1.out.size)⟩
        · rw [if_neg (by simp; omega)] at hR
          have Hf := Lib.hid (hR.out (.returned (.tuple #[.slice At Lt ct', .int .i64 sa, .bool true])) w1 ⟨At, Lt, ct', rfl, Hst1.out, hc1, hc2, hL64, Hb1.out⟩)
          go_wp2
          go_ret3
          exact Hf.out
    · exact absurd Htot.out h
  | succ f ih =>
    intro l a Af At Lf cf Lt ct' W hlf hF hb hsf hst hc1 hc2 hL64
    refine calls_cps ?_
    intro R hR
    have hn := hT.1
    have hn64 : n ≤ 64 := by rw [hn]; exact Nat.le_trans hok.nm hok.m64
    have hm64 := hok.m64
    have hnm : n ≤ m := by rw [hn]; exact hok.nm
    have hLf : Lf = l.length := by rw [hsf.1, castL_len]
    obtain ⟨b, o, A0, c0, rfl, hh⟩ := hT.head (by omega)
    rw [hok.wid] at hh
    obtain ⟨b', o', hAb, hbl, _⟩ := hT.2 (by omega)
    simp only [Option.some.injEq, Addr.mk.injEq, and_true] at hAb
    obtain ⟨rfl, rfl⟩ := hAb
    have hlt0 : Lf < n := by omega
    have g0 : ((Lf : Int) == (n : Int)) = false := by simp; omega
    have i0 : 0 < n := by omega
    have i9 : (Lf : Int) < (n : Int) := by omega
    have Hst0 := Lib.hid (show bruteF T m (f + 1) l a = bruteL (bruteF T m f) T l ((List.range m).drop 0) a by rw [bruteF, List.drop_zero])
    have Hih := Lib.hid ih
    have Hhh := Lib.hid hh
    have HT := Lib.hid hT
    have Hb := Lib.hid hb
    have Hok := Lib.hid hok
    have HF := Lib.hid hF
    have Hsf := Lib.hid hsf
    have Hst := Lib.hid hst
    have HLf := Lib.hid hLf
    clear ih hh hT hb hok hF hsf hst hLf hn
    go_enter Try.func50, Try.ntmps50
    go_wp2_with fail
    go_loopg [2, 3, 4, 15] m (fun gk s2 s3 s4 s15 wr => ∃ (k : Nat) (ac : Acc) (A' : Option Addr) (L' c' : Nat), k + gk = m ∧ s15 = .int .i64 ((k : Nat) : Int) ∧ s2 = .slice A' L' c' ∧ s3 = .int .i64 ac.2.1 ∧ s4 = .bool ac.2.2 ∧ SlE intE 1 wr A' L' (castL ac.1) ∧ L' ≤ c' ∧ c' ≤ 9223372036854775807 ∧ L' ≤ 64 ∧ Below W.heap.size W wr ∧
      Hid (bruteF T m (f + 1) l a = bruteL (bruteF T m f) T l ((List.range m).drop k) ac))
    case atStart => exact ⟨0, a, At, Lt, ct', by omega, rfl, rfl, rfl, rfl, Hst.out, hc1, hc2, hL64, Below.refl _ _, Hst0⟩
    case round =>
      obtain ⟨k, ac, A', L', c', hgk, rfl, rfl, rfl, rfl, hs, hd1, hd2, hd3, hbw, He⟩ := hrel
      obtain ⟨wi, rfl⟩ : ∃ wi : World, wi = wr := ⟨_, rfl⟩
      have hb0 := Hb.out.trans (hbw.mono Hb.out.size)
      have hh : wi.cell? ⟨b, o, none⟩ = some (.slice A0 m c0) := (hb0.cell (p := ⟨b, o, none⟩) hbl).trans Hhh.out
      by_cases hlt : k < m
      · obtain ⟨g1, rfl⟩ : ∃ g1, gk = g1 + 1 := ⟨gk - 1, by omega⟩
        obtain ⟨b', o', Ai, ci, bi, oi, e, _, _, t1, rfl, t2⟩ := table_at HT.out Hok.out.rect hb0 hlt0 hlt
        simp only [Option.some.injEq, Addr.mk.injEq, and_true] at e
        obtain ⟨rfl, rfl⟩ := e
        obtain ⟨y, hy⟩ : ∃ y, ct T Lf k = y := ⟨_, rfl⟩
        rw [hy] at t2
        have Hy := Lib.hid hy
        have i1 : (k : Int) < (m : Int) := by omega
        have Hs := Lib.hid hs
        have Hbw := Lib.hid hbw
        have Hb0 := Lib.hid hb0
        clear hy hs hbw hb0
        go_wp2_with fail
        go_loopg [16, 17] Lf (fun g2 s16 s17 wr => ∃ i : Nat, i + g2 = Lf ∧ s17 = .int .i64 ((i : Nat) : Int) ∧ s16 = .bool (decide (0 ≤ y ∧ k ∉ l.take i)) ∧ wr = wi)
        case atStart => exact ⟨0, by omega, rfl, by simp, rfl⟩
        case round =>
          clear t1 t2 hh
          obtain ⟨i, hgi, rfl, rfl, rfl⟩ := hrel
          by_cases hli : i < Lf
          · obtain ⟨b2, o2, x, rfl, _, hx, q0⟩ := (Hsf.out.below Hbw.out).at1 hli
            have hil : i < l.length := by rw [← HLf.out]; exact hli
            obtain ⟨r, hr⟩ : ∃ r, l[i]? = some r := ⟨_, List.getElem?_eq_getElem hil⟩
            obtain rfl : x = (r : Int) := by
              unfold castL at hx
              rw [List.getElem?_map, hr] at hx
              simpa using hx.symm
            have Hmt := Lib.hid (mem_take_succ (k := k) hr)
            have i2 : (i : Int) < (Lf : Int) := by omega
            clear hx hr hil
            by_cases hc : 0 ≤ y ∧ k ∉ l.take i
            · rw [decide_eq_true hc]
              by_cases hrk : r = k
              · have g1 : ((r : Int) != (k : Int)) = false := by simp [hrk]
                have HD := Lib.hid (show decide (0 ≤ y ∧ k ∉ l.take (i + 1)) = false from decide_eq_false (fun h => h.2 (Hmt.out.2 (.inr hrk.symm))))
                clear hc hrk
                go_wp2_with fail
                go_roundg (gk - 1)
                case measure => omega
                case rel => exact ⟨i + 1, by omega, by go_num, by rw [HD.out], rfl⟩
              · have g1 : ((r : Int) != (k : Int)) = true := by simp; omega
                have HD := Lib.hid (show decide (0 ≤ y ∧ k ∉ l.take (i + 1)) = true from decide_eq_true ⟨hc.1, fun h => by
                  rcases Hmt.out.1 h with h | h
                  · exact hc.2 h
                  · exact hrk h.symm⟩)
                clear hc hrk
                go_wp2_with fail
                go_roundg (gk - 1)
                case measure => omega
                case rel => exact ⟨i + 1, by omega, by go_num, by rw [HD.out], rfl⟩
            · rw [decide_eq_false hc]
              have HD := Lib.hid (show decide (0 ≤ y ∧ k ∉ l.take (i + 1)) = false from decide_eq_false (fun h => hc ⟨h.1, fun h' => h.2 (Hmt.out.2 (.inl h'))⟩))
              clear hc
              go_wp2_with fail
              go_roundg (gk - 1)
              case measure => omega
              case rel => exact ⟨i + 1, by omega, by go_num, by rw [HD.out], rfl⟩
          · obtain rfl : i = Lf := by omega
            have htk : l.take i = l := List.take_of_length_le (by rw [← HLf.out]; exact Nat.le_refl _)
            rw [htk]
            clear htk
            by_cases hc : 0 ≤ y ∧ k ∉ l
            · rw [decide_eq_true hc]
              have hcl : 0 ≤ ct T l.length k ∧ k ∉ l := by rw [← HLf.out, Hy.out]; exact hc
              have HE := Lib.hid (show bruteF T m (f + 1) l a = bruteL (bruteF T m f) T l ((List.range m).drop (k + 1)) (bruteF T m f (l ++ [k]) ac) by rw [He.out, bruteL_take hlt hcl])
              have HFs := Lib.hid (HF.out.snoc hlt hcl.1 hcl.2)
              have Hlen := Lib.hid (show (l ++ [k]).length + f = n by simp; omega)
              have hown := own_new wr #[] 3 1 0 wr.heap.size rfl (Nat.le_refl _) (by unfold maxLen; omega)
              have HO := Lib.hid hown
              have Hsw := Lib.hid ((Hsf.out.below Hbw.out).alloc (.cells #[] 3))
              obtain ⟨nx, hnx⟩ : ∃ nx, bruteF T m f (l ++ [k]) ac = nx := ⟨_, rfl⟩
              have Hnx := Lib.hid hnx
              clear hc hcl hown hnx
              go_wp2_with (first
                | (at_builtin; refine wpList_app rfl (.tmp 80) (.tmp 81) _ rfl elemInt wr.heap.size _ _ _ rfl HO.out _ _ _ _ rfl Hsw.out.2 (int_one _) (by unfold maxLen; omega) (by omega) (by simp) ?_; intro A3 c3 w3 ho3 hg3 _; rw [Nat.zero_add, List.nil_append] at ho3; have hb3 := app_below1 rfl hg3)
                | (at_builtin; refine wpList_app rfl (.tmp 82) (.tmp 84) _ rfl elemInt wr.heap.size _ _ _ rfl (ho3.kept (World.grownBy_alloc w3 _ none) (by cases (Value.slice A3 i c3).ownBlock <;> simp)) _ _ _ _ rfl (Sl.new _ _ _ 1 1 rfl) (by simp [Value.oneCell']) (by unfold maxLen; omega) (by omega) (by have := hb3.size; simp; omega) ?_; intro A4 c4 w4 ho4 hg4 _; have hb4 : Below wr.heap.size wr w4 := below_own (hb3.alloc hb3.size _) (ho3.kept (World.grownBy_alloc w3 _ none) (by cases (Value.slice A3 i c3).ownBlock <;> simp)) (Nat.le_refl _) (by have := hb3.size; simp; omega) hg4))
              have hsn : SlE intE 1 w4 A4 (i + 1) (castL (l ++ [k])) := by
                refine SlE.of_own (base := wr.heap.size) (e := 3) (c := c4) (by rw [castL_snoc, List.flatMap_append]; exact ho4) (by rw [castL_len, List.length_append, ← HLf.out]; rfl)
              have Hsn := Lib.hid hsn
              have Hst4 := Lib.hid (Hs.out.below hb4)
              have Hb4 := Lib.hid hb4
              have Hbb4 := Lib.hid (Hb0.out.trans (hb4.mono Hb0.out.size))
              clear hsn ho3 hg3 hb3 ho4 hg4 hb4
              go_wp2_with fail
              refine (Hih.out (l ++ [k]) ac A4 A' (i + 1) c4 L' c' w4 Hlen.out HFs.out Hbb4.out Hsn.out Hst4.out hd1 hd2 hd3).mono ?_
              rw [Hnx.out]
              rintro e w5 ⟨A5, L5, c5, rfl, hs5, hd4, hd5, hd6, hb5⟩
              have HE2 := Lib.hid (show bruteF T m (f + 1) l a = bruteL (bruteF T m f) T l ((List.range m).drop (k + 1)) nx by rw [HE.out, Hnx.out])
              have Hs5 := Lib.hid hs5
              have Hb5 := Lib.hid ((Hbw.out.trans (Hb4.out.mono Hbw.out.size)).trans (hb5.mono (Nat.le_trans Hbw.out.size Hb4.out.size)))
              clear hs5 hb5
              go_wp2_with fail
              go_roundg g1
              case measure => omega
              case rel => exact ⟨k + 1, nx, A5, L5, c5, by omega, by go_num, rfl, rfl, rfl, Hs5.out, hd4, hd5, hd6, Hb5.out, HE2⟩
            · rw [decide_eq_false hc]
              have hcl : ¬ (0 ≤ ct T l.length k ∧ k ∉ l) := by rw [← HLf.out, Hy.out]; exact hc
              have HE := Lib.hid (show bruteF T m (f + 1) l a = bruteL (bruteF T m f) T l ((List.range m).drop (k + 1)) ac by rw [He.out, bruteL_skip hlt hcl])
              clear hc hcl
              go_wp2_with fail
              go_roundg g1
              case measure => omega
              case rel => exact ⟨k + 1, ac, A', L', c', by omega, by go_num, rfl, rfl, rfl, Hs.out, hd1, hd2, hd3, Hbw.out, HE⟩
      · obtain rfl : k = m := by omega
        have he := He.out
        rw [List.drop_of_length_le (by simp), bruteL] at he
        rw [he] at hR
        have Hf := Lib.hid (hR.out (.returned (.tuple #[.slice A' L' c', .int .i64 ac.2.1, .bool ac.2.2])) wi ⟨A', L', c', rfl, hs, hd1, hd2, hd3, hbw⟩)
        clear he hs hbw
        go_wp2
        go_ret3
        exact Hf.out
set_option maxRecDepth 100000 in
set_option maxHeartbeats 4000000 in
theorem refBest_any (w : World) (A : Option Addr) (n c m : Nat) (T : List (List Int)) (hT : SlR w A n T) (hok : TOk T m) :
    Calls Try.prog 25 #[.slice A n c] w fun e w' => ∃ A' L' c', e = .returned (.tuple #[.slice A' L' c', .int .i64 (bruteF T m n [] ([], 0, false)).2.1, .bool (bruteF T m n [] ([], 0, false)).2.2]) ∧
      SlE intE 1 w' A' L' (castL (bruteF T m n [] ([], 0, false)).1) ∧ L' ≤ c' ∧ c' ≤ 9223372036854775807 ∧ L' ≤ 64 ∧ Below w.heap.size w w' := by
  refine calls_cps ?_
  intro R hR
  have hn1 : 1 ≤ n := by rw [hT.1]; exact hok.n1
  have hb := below_two w (.cells #[] 3) (.cells #[] 3)
  have hB := Lib.hid (refbest_any w A n c m T hT hok n [] ([], 0, false) (some ⟨w.heap.size, 0, none⟩) (some ⟨w.heap.size + 1, 0, none⟩) 0 0 0 0 ((w.alloc (.cells #[] 3)).alloc (.cells #[] 3)) (by simp) ⟨List.nodup_nil, fun i hi => absurd hi (by simp)⟩ hb (SlE.nil _ _) (SlE.nil _ _) (Nat.le_refl _) (by omega) (by omega))
  have g0 : ((n : Int) == 0) = false := by simp; omega
  obtain ⟨X, hX⟩ : ∃ X, bruteF T m n [] ([], 0, false) = X := ⟨_, rfl⟩
  rw [hX] at hR hB
  clear hX hT hok
  go_enter Try.func25, Try.ntmps25
  go_wp2_with fail
  refine hB.out.mono ?_
  rintro e w1 ⟨A', L', c', rfl, hs, h1, h2, h3, hb1⟩
  have Hf := Lib.hid (hR.out (.returned (.tuple #[.slice A' L' c', .int .i64 X.2.1, .bool X.2.2])) w1 ⟨A', L', c', rfl, hs, h1, h2, h3, hb.trans (hb1.mono hb.size)⟩)
  clear hs hb1 hb hB
  go_wp2
  go_ret3
  exact Hf.out
theorem refBest_some (w : World) (A : Option Addr) (n c m : Nat) (T : List (List Int)) (hT : SlR w A n T) (hok : TOk T m) (l : List Nat) (s : Int) (h : bestO T m = some (l, s)) :
    Calls Try.prog 25 #[.slice A n c] w fun e w' => ∃ A' c', e = .returned (.tuple #[.slice A' n c', .int .i64 s, .bool true]) ∧ SlE intE 1 w' A' n (castL l) ∧ n ≤ c' ∧ c' ≤ 9223372036854775807 ∧ Below w.heap.size w w' := by
  have hn := hT.1
  have hl := (bestO_some h).asg.len
  unfold bestO at h
  rw [← hn] at h
  have h2 : (bruteF T m n [] ([], 0, false)).2.2 = true ∧ (bruteF T m n [] ([], 0, false)).1 = l ∧ (bruteF T m n [] ([], 0, false)).2.1 = s := by
    split at h
    · rename_i ht
      simp only [Option.some.injEq, Prod.mk.injEq] at h
      exact ⟨ht, h.1, h.2⟩
    · cases h
  refine (refBest_any w A n c m T hT hok).mono ?_
  rw [h2.1, h2.2.1, h2.2.2]
  rintro e w' ⟨A', L', c', rfl, hs, h3, h4, _, hb⟩
  have hL : L' = n := by rw [hs.1, castL_len, hl, hn]
  subst hL
  exact ⟨A', c', rfl, hs, h3, h4, hb⟩
theorem refBest_none (w : World) (A : Option Addr) (n c m : Nat) (T : List (List Int)) (hT : SlR w A n T) (hok : TOk T m) (h : bestO T m = none) :
    Calls Try.prog 25 #[.slice A n c] w fun e w' => ∃ v s, e = .returned (.tuple #[v, .int .i64 s, .bool false]) ∧ Below w.heap.size w w' := by
  unfold bestO at h
  rw [← hT.1] at h
  have h2 : (bruteF T m n [] ([], 0, false)).2.2 = false := by
    split at h
    · cases h
    · rename_i ht; simpa using ht
  refine (refBest_any w A n c m T hT hok).mono ?_
  rw [h2]
  rintro e w' ⟨A', L', c', rfl, _, _, _, _, hb⟩
  exact ⟨_, _, rfl, hb⟩
end
section
open Go.RowKit

set_option maxRecDepth 100000 in
set_option maxHeartbeats 4000000 in
theorem cut_any (A : Option Addr) (n c : Nat) (l : List Int) (x : Int) (N : Nat) (hx : x = (N : Int)) (hN : N ≤ 66) (w : World) (hA : SlE intE 1 w A n l) (hnc : n ≤ c) (_hc : c ≤ 9223372036854775807) :
    Calls Try.prog 32 #[.slice A n c, .int .i64 x] w fun e w' => ∃ A' c', e = .returned (.slice A' (l.take N).length c') ∧ SlE intE 1 w' A' (l.take N).length (l.take N) ∧ (l.take N).length ≤ c' ∧ c' ≤ 9223372036854775807 ∧ Below w.heap.size w w' := by
  subst hx
  refine calls_cps ?_
  intro R hR
  have hl := hA.1
  have HO := Lib.hid (own_new w #[] 3 1 0 w.heap.size rfl (Nat.le_refl _) (by unfold maxLen; omega))
  by_cases h : N < n
  · have hlen : (l.take N).length = N := by rw [List.length_take, ← hl]; omega
    have HC := Lib.hid (slE_cut hA (k := N) (by omega))
    rw [hlen] at hR
    have i1 : (N : Int) < (n : Int) := by omega
    have i2 : (N : Int) ≤ (c : Int) := by omega
    have Hlen := Lib.hid hlen
    clear hA hl hlen
    go_enter Try.func32, Try.ntmps32
    go_wp2_with (at_builtin; refine wpList_app rfl (.tmp 12) (.tmp 13) _ rfl elemInt w.heap.size _ _ _ rfl HO.out _ _ _ _ rfl (HC.out.2.alloc _) (int_one _) (by unfold maxLen; omega) (by omega) (by simp) ?_; intro A3 c3 w3 ho3 hg3 _; rw [Nat.zero_add, List.nil_append] at ho3; have hb3 := app_below1 rfl hg3; clear hg3)
    exact hR.out _ _ ⟨A3, c3, rfl, SlE.of_own ho3 Hlen.out.symm, (own_lo ho3).2.1, (own_lo ho3).2.2, hb3⟩
  · have htk : l.take N = l := List.take_of_length_le (by rw [← hl]; omega)
    rw [htk, ← hl] at hR
    have HC := Lib.hid hA
    have Hl := Lib.hid hl
    have hn66 : n ≤ 66 := by omega
    have i1 : (n : Int) ≤ (N : Int) := by omega
    clear hA hl htk
    go_enter Try.func32, Try.ntmps32
    go_wp2_with (at_builtin; refine wpList_app rfl (.tmp 12) (.tmp 13) _ rfl elemInt w.heap.size _ _ _ rfl HO.out _ _ _ _ rfl (HC.out.2.alloc _) (int_one _) (by unfold maxLen; omega) (by omega) (by simp) ?_; intro A3 c3 w3 ho3 hg3 _; rw [Nat.zero_add, List.nil_append] at ho3; have hb3 := app_below1 rfl hg3; clear hg3)
    exact hR.out _ _ ⟨A3, c3, rfl, SlE.of_own ho3 Hl.out, (own_lo ho3).2.1, (own_lo ho3).2.2, hb3⟩
end
section
open Go.RowKit

theorem taken_set {l : List Int} {taken : List Bool} {m k j : Nat} (hl : taken.length = m) (h : ∀ j, j < m → (taken.getD j false = true ↔ ∃ i, i < k ∧ l.getD i 0 = (j : Int))) (hj : l.getD k 0 = (j : Int)) :
    ∀ a, a < m → ((taken.set j true).getD a false = true ↔ ∃ i, i < k + 1 ∧ l.getD i 0 = (a : Int)) := fun a ha => by
  by_cases e : j = a
  · subst e
    rw [List.getD_eq_getElem?_getD, List.getElem?_set_self (by omega)]
    exact ⟨fun _ => ⟨k, by omega, hj⟩, fun _ => rfl⟩
  · have h1 : (taken.set j true).getD a false = taken.getD a false := by rw [List.getD_eq_getElem?_getD, List.getElem?_set_ne e, List.getD_eq_getElem?_getD]
    rw [h1, h a ha]
    constructor
    · rintro ⟨i, hi, hv⟩; exact ⟨i, by omega, hv⟩
    · rintro ⟨i, hi, hv⟩
      by_cases e2 : i = k
      · subst e2; rw [hj] at hv; omega
      · exact ⟨i, by omega, hv⟩
set_option maxRecDepth 100000 in
set_option maxHeartbeats 4000000 in
theorem total_any (A : Option Addr) (n c m : Nat) (T : List (List Int)) (A2 : Option Addr) (L c2 : Nat) (l : List Int) (w : World) (hT : SlR w A n T) (hok : TOk T m) (hA : SlE intE 1 w A2 L l) (hL : L ≤ 9223372036854775807) :
    Calls Try.prog 57 #[.slice A n c, .slice A2 L c2] w fun e w' => (TotOk T m l ∧ e = .returned (.tuple #[.int .i64 (totS T l n), .bool true]) ∨ ¬ TotOk T m l ∧ e = .returned (.tuple #[.int .i64 0, .bool false])) ∧ Below w.heap.size w w' := by
  refine calls_cps ?_
  intro R hR
  have hn1 : 1 ≤ n := by rw [hT.1]; exact hok.n1
  obtain ⟨b, o, A0, c0, rfl, hh⟩ := hT.head (by omega)
  rw [hok.wid] at hh
  have hm64 := hok.m64
  have hnm : n ≤ m := by rw [hT.1]; exact hok.nm
  have hm1 : 1 ≤ m := by omega
  have Hno := Lib.hid (show ∀ W, Below w.heap.size w W → ¬ TotOk T m l → R (.returned (.tuple #[.int .i64 0, .bool false])) W from fun W hq h => hR.out _ _ ⟨.inr ⟨h, rfl⟩, hq⟩)
  have Hyes := Lib.hid (show ∀ W s, Below w.heap.size w W → TotOk T m l → s = totS T l n → R (.returned (.tuple #[.int .i64 s, .bool true])) W from fun W s hq h e => hR.out _ _ ⟨.inl ⟨h, by rw [e]⟩, hq⟩)
  have Hn := Lib.hid hT.1
  have Hl := Lib.hid hA.1
  have HT := Lib.hid hT
  have HA := Lib.hid hA
  have Hok := Lib.hid hok
  have i0 : 0 < n := by omega
  clear hR hT hA hok
  by_cases hLn : L = n
  · subst hLn
    have g0 : ((L : Int) != (L : Int)) = false := by simp
    go_enter Try.func57, Try.ntmps57
    go_wp2_with (at_make; refine wpList_mkZ rfl (.tmp 18) (.tmp 18) _ rfl 4 Try.underlying91 infoBool rfl (by omega) _ m rfl rfl rfl (by omega) ?_; intro w2 hw2 hg2)
    have hB : BlkB w2 w.heap.size (List.replicate m false) := by unfold BlkB; rw [List.map_replicate]; exact hw2
    have hb : Below w.heap.size w w2 := (Below.refl w.heap.size w).grown hg2 (Nat.le_refl _) (fun k hk => by cases hk)
    have HB := Lib.hid hB
    have Hb := Lib.hid hb
    obtain ⟨bk, hbk⟩ : ∃ bk, w.heap.size = bk := ⟨_, rfl⟩
    have hbk' : w.heap.size ≤ bk := Nat.le_of_eq hbk
    rw [hbk] at HB
    generalize hsl : (Value.slice (some ⟨w.heap.size, 0, none⟩) m m) = vs
    rw [hbk] at hsl
    subst hsl
    clear hw2 hg2 hB hb hbk hh
    go_wp2_with fail
    go_loopg [7, 8, 9, 22] L (fun gk s7 s8 s9 s22 wr => ∃ (k : Nat) (taken : List Bool), k + gk = L ∧ s22 = .int .i64 ((k : Nat) : Int) ∧ s7 = .int .i64 (totS T l k) ∧ Hid (okP T m l k) ∧ taken.length = m ∧ Hid (∀ j, j < m → (taken.getD j false = true ↔ ∃ i, i < k ∧ l.getD i 0 = (j : Int))) ∧ BlkB wr bk taken ∧ Below w.heap.size w wr)
    case atStart => exact ⟨0, _, by omega, rfl, rfl, Lib.hid (okP_zero T m l), by simp, Lib.hid (fun j hj => by simp [List.getD_eq_getElem?_getD, hj]), HB.out, Hb.out⟩
    case round =>
      obtain ⟨k, taken, hgk, rfl, rfl, Ho, htl, Htk, hB, hb⟩ := hrel
      obtain ⟨wi, rfl⟩ : ∃ wi : World, wi = wr := ⟨_, rfl⟩
      by_cases hlt : k < L
      · obtain ⟨b2, o2, x, rfl, _, hx, q0⟩ := (HA.out.below hb).at1 hlt
        have i1 : (k : Int) < (L : Int) := by omega
        have hgx : l.getD k 0 = x := by rw [List.getD_eq_getElem?_getD, hx]; rfl
        have hsb := totS_bd Hok.out (k := k) (by rw [← Hn.out]; omega) Ho.out
        obtain ⟨s, hs⟩ : ∃ s, totS T l k = s := ⟨_, rfl⟩
        rw [hs] at hsb ⊢
        have Hs := Lib.hid hs
        have Hgx := Lib.hid hgx
        have Hb2 := Lib.hid hb
        have HB2 := Lib.hid hB
        have Htl := Lib.hid htl
        clear hx hgx hs hb hB htl
        by_cases hxr : 0 ≤ x ∧ x < (m : Int)
        · obtain ⟨j, rfl⟩ : ∃ j : Nat, x = j := ⟨x.toNat, by omega⟩
          have hjm : j < m := by omega
          obtain ⟨d1, d2⟩ := HB2.out.at_ (k := j) (by rw [Htl.out]; exact hjm)
          have i2 : (j : Int) < (m : Int) := by omega
          have k1 : decide ((j : Int) < 0) = false := decide_eq_false (by omega)
          have k2 : decide ((m : Int) ≤ (j : Int)) = false := decide_eq_false (by omega)
          have k3 : decide (m ≤ j) = false := decide_eq_false (by omega)
          clear hxr
          cases htj : taken.getD j false with
          | true =>
            rw [htj] at d1
            have Hf := Lib.hid (Hno.out wi Hb2.out (fun ht => by
              obtain ⟨i, hi, hv⟩ := (Htk.out j hjm).1 htj
              have h4 := (ht.2 k (by rw [← Hn.out]; exact hlt)).2.2.2 i hi
              rw [Hgx.out] at h4
              exact h4 hv))
            clear htj
            go_wp2
            exact Hf.out
          | false =>
            rw [htj] at d1
            have Htj := Lib.hid htj
            clear htj
            obtain ⟨b', o', Ai, ci, bi, oi, e, _, _, t1, rfl, t2⟩ := table_at HT.out Hok.out.rect Hb2.out hlt hjm
            simp only [Option.some.injEq, Addr.mk.injEq, and_true] at e
            obtain ⟨rfl, rfl⟩ := e
            have hcb := Hok.out.costOk k j (by rw [← Hn.out]; exact hlt) hjm
            obtain ⟨y, hy⟩ : ∃ y, ct T k j = y := ⟨_, rfl⟩
            rw [hy] at t2 hcb
            have Hy := Lib.hid hy
            clear hy
            by_cases hy0 : y = -1
            · have g3 : (y == -1) = true := by simp [hy0]
              have Hf := Lib.hid (Hno.out wi Hb2.out (fun ht => by
                have h3 := (ht.2 k (by rw [← Hn.out]; exact hlt)).2.2.1
                rw [Hgx.out] at h3
                simp only [Int.toNat_natCast] at h3
                rw [Hy.out] at h3
                omega))
              clear hy0
              go_wp2
              exact Hf.out
            · have g3 : (y == -1) = false := by simpa using hy0
              have hy1 : 0 ≤ y := by omega
              have hb3 := Hb2.out.setCell (p := ⟨bk, j, none⟩) hbk' (.bool true)
              have hB3 := HB2.out.set j true
              obtain ⟨b', o', Ai', ci', bi', oi', e, _, _, t3, e5, t4⟩ := table_at HT.out Hok.out.rect hb3 hlt hjm
              simp only [Option.some.injEq, Addr.mk.injEq, and_true] at e
              obtain ⟨rfl, rfl⟩ := e
              rw [Hy.out] at t4
              have z1 : IntKind.i64.wrap (s + y) = s + y := IntWalk.i64_in _ (by omega)
              have HO := Lib.hid (okP_succ Ho.out (by rw [Hgx.out]; omega) (by rw [Hgx.out]; omega) (by rw [Hgx.out]; simp only [Int.toNat_natCast]; rw [Hy.out]; omega) (fun i hi => by
                rw [Hgx.out]
                intro hv
                have := (Htk.out j hjm).2 ⟨i, hi, hv⟩
                rw [Htj.out] at this
                exact absurd this (by simp)))
              have Hst := Lib.hid (show totS T l (k + 1) = s + y by
                have h := Hs.out
                unfold totS at h ⊢
                rw [sumN, h, Hgx.out]
                simp only [Int.toNat_natCast]
                rw [Hy.out])
              have HTk := Lib.hid (taken_set Htl.out Htk.out Hgx.out)
              have HB3 := Lib.hid hB3
              have Hb3 := Lib.hid hb3
              clear hb3 hB3
              go_wp2_with fail
              go_roundg (gk - 1)
              case measure => omega
              case rel => exact ⟨k + 1, _, by omega, by go_num, by rw [Hst.out], HO, by rw [List.length_set]; exact Htl.out, HTk, HB3.out, Hb3.out⟩
        · have Hf := Lib.hid (Hno.out wi Hb2.out (fun ht => by
            have h1 := ht.2 k (by rw [← Hn.out]; exact hlt)
            rw [Hgx.out] at h1
            omega))
          by_cases hx0 : x < 0
          · have k1 : decide (x < 0) = true := decide_eq_true hx0
            clear hxr
            go_wp2
            exact Hf.out
          · have k1 : decide (x < 0) = false := decide_eq_false hx0
            have hx1 : (m : Int) ≤ x := by omega
            have k2 : decide ((m : Int) ≤ x) = true := decide_eq_true hx1
            clear hxr
            go_wp2
            exact Hf.out
      · obtain rfl : L = k := by omega
        have Hf := Lib.hid (Hyes.out wi _ hb ⟨by rw [← Hl.out, ← Hn.out], by rw [← Hn.out]; exact Ho.out⟩ rfl)
        go_wp2
        exact Hf.out
  · have g0 : ((L : Int) != (n : Int)) = true := by simp; omega
    have Hf := Lib.hid (Hno.out w (Below.refl _ _) (fun ht => hLn (by rw [Hl.out, ht.1, ← Hn.out])))
    go_enter Try.func57, Try.ntmps57
    go_wp2
    exact Hf.out
end
section
open Go.RowKit

theorem infoGrI : (Try.prog.info? 3).map (fun i => (i.zero, i.size, i.bytes)) = some (some (Value.int .i64 0), 1, 8) := by kernel_rfl
theorem elemGrI : ElemOk Try.prog 26 3 1 8 := ElemOk.of (z := Value.int .i64 0) Try.underlying26 infoGrI rfl (by omega)
set_option maxRecDepth 100000 in
set_option maxHeartbeats 2000000 in
theorem growI_any (n : Nat) (hn : n ≤ 1000) (w : World) : Calls Try.prog 69 #[.slice none 0 0, .int .i64 (n : Int)] w fun e w' => ∃ A c, e = .returned (.slice A 0 c) ∧ w'.ownsRow w.heap.size 3 1 (.slice A 0 c) 0 [] ∧ Below w.heap.size w w' := by
  refine calls_cps ?_
  intro R hR
  by_cases h0 : n = 0
  · subst h0
    have Hf := Lib.hid (hR.out (.returned (.slice none 0 0)) w ⟨none, 0, rfl, ⟨rfl, .inl ⟨rfl, rfl⟩⟩, Below.refl _ _⟩)
    clear hR
    go_enter Try.func69, Try.ntmps69
    go_wp2
    exact Hf.out
  · obtain ⟨i0, hi0, hz0, hs0, hb0⟩ := info_parts infoGrI
    have hrz : ∀ ty, (Builtin.append_ #[26, 3] ty #[.slice none 0 0, .int .i64 ((n : Nat) : Int)]).run Try.prog w = .ok (.slice (some ⟨w.heap.size, 0, none⟩) n (grownCap w n 0 3)) (w.drew.alloc (.cells (#[] ++ Builtin.zeroCells (Value.int .i64 0).cells n ++ Builtin.zeroCells (Value.int .i64 0).cells (grownCap w n 0 3 - n)) 3)) := fun ty => by
      have h := Lib.run_append_grow_zeros w 26 3 ty 3 i0 (Value.int .i64 0) .i64 .i64 Try.underlying26 Try.underlying3 hi0 hz0 none 0 0 [] (run_firstCells_none w.drew i0.size 0 0 0) n (by omega) (by omega) (by omega) (by omega) (by rw [hb0]; omega) (by rw [hb0]; exact growslice_fits (by omega) (by omega))
      simpa using h
    obtain ⟨G, hG⟩ : ∃ G, grownCap w n 0 3 = G := ⟨_, rfl⟩
    have hGn : n ≤ G := by have := grownCap_ge w n 0 3; omega
    have hG63 : G ≤ maxLen := by rw [← hG]; exact grownCap_le_maxLen w n 0 3 (by unfold maxLen; omega)
    have hG64 : G ≤ 9223372036854775807 := hG63
    rw [hG] at hrz
    obtain ⟨cs, hcs⟩ : ∃ cs, #[] ++ Builtin.zeroCells (Value.int .i64 0).cells n ++ Builtin.zeroCells (Value.int .i64 0).cells (G - n) = cs := ⟨_, rfl⟩
    have hsz : cs.size = G := by rw [← hcs]; simp [size_zeroCells, Value.cells]; omega
    rw [hcs] at hrz
    have hb : Below w.heap.size w (w.drew.alloc (.cells cs 3)) := (Below.refl _ _).drew.alloc (Nat.le_refl _) _
    have Hf := Lib.hid (hR.out (.returned (.slice (some ⟨w.heap.size, 0, none⟩) 0 G)) _ ⟨_, _, rfl, ⟨rfl, .inr ⟨w.heap.size, G, cs, rfl, Nat.le_refl _, heap_alloc_new w.drew _, Nat.zero_le _, hG63, by rw [hsz, Nat.mul_one], by simp⟩⟩, hb⟩)
    have i1 : (0 : Int) < (n : Int) := by omega
    have i2 : (0 : Int) ≤ (n : Int) := by omega
    clear hR hcs hsz hb hG hi0 hz0 hs0 hb0 hG63
    go_enter Try.func69, Try.ntmps69
    go_wp2_with (at_builtin; refine Lib.wpList_append_run _ rfl _ _ _ _ rfl _ _ rfl rfl _ _ (hrz _) ?_)
    exact Hf.out
set_option maxRecDepth 100000 in
set_option maxHeartbeats 4000000 in
theorem concatI_any (b o cV : Nat) (A B : Option Addr) (n c m d : Nat) (xs ys : List Value) (w : World) (hb : b < w.heap.size) (h0 : w.cell? ⟨b, o, none⟩ = some (.slice A n c)) (h1 : w.cell? ⟨b, o + 1, none⟩ = some (.slice B m d))
    (hA : Sl w 1 A n xs) (hB : Sl w 1 B m ys) (ox : ∀ u ∈ xs, u.oneCell' = true) (oy : ∀ u ∈ ys, u.oneCell' = true) (hn : n ≤ 400) (hm : m ≤ 400) :
    Calls Try.prog 60 #[.slice (some ⟨b, o, none⟩) 2 cV] w fun e w' => ∃ A' c', e = .returned (.slice A' (n + m) c') ∧ w'.ownsRow w.heap.size 3 1 (.slice A' (n + m) c') (n + m) (xs ++ ys) ∧ Below w.heap.size w w' := by
  refine calls_cps ?_
  intro R hR
  have HA := Lib.hid hA
  have HB := Lib.hid hB
  have Hox := Lib.hid ox
  have Hoy := Lib.hid oy
  clear hA hB ox oy
  go_enter Try.func60, Try.ntmps60
  go_wp2_with fail
  go_loop [3, 5, 11] (fun s3 s5 s11 => ∃ k : Nat, k ≤ 2 ∧ s11 = .int .i64 ((k : Nat) : Int) ∧ (k = 0 ∧ s3 = .int .i64 0 ∨ k = 1 ∧ s3 = .int .i64 (n : Int) ∨ k = 2 ∧ s3 = .int .i64 ((n + m : Nat) : Int))) (fun _ _ s11 => 2 - (intOf s11).toNat)
  case atStart => exact ⟨0, by omega, rfl, .inl ⟨rfl, rfl⟩⟩
  case round =>
    obtain ⟨k, hk, rfl, h⟩ := hrel
    rcases h with ⟨rfl, rfl⟩ | ⟨rfl, rfl⟩ | ⟨rfl, rfl⟩
    · go_wp2
      exact ⟨⟨1, by omega, rfl, .inr (.inl ⟨rfl, by go_num⟩)⟩, by simp [intOf]⟩
    · have hnn : (0 : Int) ≤ (n : Int) := by omega
      have hmm : (0 : Int) ≤ (m : Int) := by omega
      go_wp2
      exact ⟨⟨2, by omega, rfl, .inr (.inr ⟨rfl, by go_num⟩)⟩, by simp [intOf]⟩
    · go_wp2_with fail
      refine (growI_any (n + m) (by omega) _).mono ?_
      rintro e w1 ⟨A0, c0, rfl, ho, hb1⟩
      have HO := Lib.hid ho
      have Hb1 := Lib.hid hb1
      clear ho hb1
      go_wp2_with fail
      go_loopg [6, 8, 27] 2 (fun gk s6 s8 s27 wr => ∃ (k : Nat) (A' : Option Addr) (c' q : Nat) (zs : List Value), k + gk = 2 ∧ s27 = .int .i64 ((k : Nat) : Int) ∧ s6 = .slice A' q c' ∧ wr.ownsRow w.heap.size 3 1 (.slice A' q c') q zs ∧ Below w.heap.size w wr ∧ Hid (k = 0 ∧ q = 0 ∧ zs = [] ∨ k = 1 ∧ q = n ∧ zs = xs ∨ k = 2 ∧ q = n + m ∧ zs = xs ++ ys))
      case atStart => exact ⟨0, A0, c0, 0, [], rfl, rfl, rfl, HO.out, Hb1.out, Lib.hid (.inl ⟨rfl, rfl, rfl⟩)⟩
      case round =>
        obtain ⟨k, A', c', q, zs, hgk, rfl, rfl, ho, hbr, hc⟩ := hrel
        obtain ⟨wi, rfl⟩ : ∃ wi : World, wi = wr := ⟨_, rfl⟩
        have q0 : wi.cell? ⟨b, o, none⟩ = some (.slice A n c) := (hbr.cell (p := ⟨b, o, none⟩) hb).trans h0
        have q1 : wi.cell? ⟨b, o + 1, none⟩ = some (.slice B m d) := (hbr.cell (p := ⟨b, o + 1, none⟩) hb).trans h1
        have HO2 := Lib.hid ho
        have Hbr := Lib.hid hbr
        have hsz := hbr.size
        clear ho hbr
        rcases hc.out with ⟨rfl, rfl, rfl⟩ | ⟨rfl, rfl, rfl⟩ | ⟨rfl, rfl, rfl⟩
        · have HX := Lib.hid (HA.out.below Hbr.out)
          go_wp2_with (at_builtin; refine wpList_app rfl (.tmp 31) (.tmp 32) _ rfl elemGrI w.heap.size _ _ _ rfl HO2.out _ _ _ _ rfl HX.out Hox.out (by unfold maxLen; omega) (by omega) hsz ?_; intro A2 c2 w2 ho2 hg2 _)
          rw [Nat.zero_add, List.nil_append] at ho2
          have HB2 := Lib.hid (below_own Hbr.out HO2.out (Nat.le_refl _) hsz hg2)
          have HO3 := Lib.hid ho2
          clear ho2 hg2
          go_roundg (gk - 1)
          case measure => omega
          case rel => exact ⟨1, A2, c2, n, xs, by omega, by go_num, rfl, HO3.out, HB2.out, Lib.hid (.inr (.inl ⟨rfl, rfl, rfl⟩))⟩
        · have HX := Lib.hid (HB.out.below Hbr.out)
          go_wp2_with (at_builtin; refine wpList_app rfl (.tmp 31) (.tmp 32) _ rfl elemGrI w.heap.size _ _ _ rfl HO2.out _ _ _ _ rfl HX.out Hoy.out (by unfold maxLen; omega) (by omega) hsz ?_; intro A2 c2 w2 ho2 hg2 _)
          have HB2 := Lib.hid (below_own Hbr.out HO2.out (Nat.le_refl _) hsz hg2)
          have HO3 := Lib.hid ho2
          clear ho2 hg2
          go_roundg (gk - 1)
          case measure => omega
          case rel => exact ⟨2, A2, c2, q + m, zs ++ ys, by omega, by go_num, rfl, HO3.out, HB2.out, Lib.hid (.inr (.inr ⟨rfl, rfl, rfl⟩))⟩
        · have Hf := Lib.hid (hR.out (.returned (.slice A' (n + m) c')) wi ⟨A', c', rfl, HO2.out, Hbr.out⟩)
          go_wp2
          exact Hf.out
theorem infoGrR : (Try.prog.info? 26).map (fun i => (i.zero, i.size, i.bytes)) = some (some (Value.slice none 0 0), 1, 24) := by kernel_rfl
theorem elemGrR : ElemOk Try.prog 22 26 1 24 := ElemOk.of (z := Value.slice none 0 0) Try.underlying22 infoGrR rfl (by omega)
set_option maxRecDepth 100000 in
set_option maxHeartbeats 2000000 in
theorem growR_any (n : Nat) (hn : n ≤ 1000) (w : World) : Calls Try.prog 68 #[.slice none 0 0, .int .i64 (n : Int)] w fun e w' => ∃ A c, e = .returned (.slice A 0 c) ∧ w'.ownsRow w.heap.size 26 1 (.slice A 0 c) 0 [] ∧ Below w.heap.size w w' := by
  refine calls_cps ?_
  intro R hR
  by_cases h0 : n = 0
  · subst h0
    have Hf := Lib.hid (hR.out (.returned (.slice none 0 0)) w ⟨none, 0, rfl, ⟨rfl, .inl ⟨rfl, rfl⟩⟩, Below.refl _ _⟩)
    clear hR
    go_enter Try.func68, Try.ntmps68
    go_wp2
    exact Hf.out
  · obtain ⟨i0, hi0, hz0, hs0, hb0⟩ := info_parts infoGrR
    have hrz : ∀ ty, (Builtin.append_ #[22, 3] ty #[.slice none 0 0, .int .i64 ((n : Nat) : Int)]).run Try.prog w = .ok (.slice (some ⟨w.heap.size, 0, none⟩) n (grownCap w n 0 26)) (w.drew.alloc (.cells (#[] ++ Builtin.zeroCells (Value.slice none 0 0).cells n ++ Builtin.zeroCells (Value.slice none 0 0).cells (grownCap w n 0 26 - n)) 26)) := fun ty => by
      have h := Lib.run_append_grow_zeros w 22 3 ty 26 i0 (Value.slice none 0 0) .i64 .i64 Try.underlying22 Try.underlying3 hi0 hz0 none 0 0 [] (run_firstCells_none w.drew i0.size 0 0 0) n (by omega) (by omega) (by omega) (by omega) (by rw [hb0]; omega) (by rw [hb0]; exact growslice_fits (by omega) (by omega))
      simpa using h
    obtain ⟨G, hG⟩ : ∃ G, grownCap w n 0 26 = G := ⟨_, rfl⟩
    have hGn : n ≤ G := by have := grownCap_ge w n 0 26; omega
    have hG63 : G ≤ maxLen := by rw [← hG]; exact grownCap_le_maxLen w n 0 26 (by unfold maxLen; omega)
    have hG64 : G ≤ 9223372036854775807 := hG63
    rw [hG] at hrz
    obtain ⟨cs, hcs⟩ : ∃ cs, #[] ++ Builtin.zeroCells (Value.slice none 0 0).cells n ++ Builtin.zeroCells (Value.slice none 0 0).cells (G - n) = cs := ⟨_, rfl⟩
    have hsz : cs.size = G := by rw [← hcs]; simp [size_zeroCells, Value.cells]; omega
    rw [hcs] at hrz
    have hb : Below w.heap.size w (w.drew.alloc (.cells cs 26)) := (Below.refl _ _).drew.alloc (Nat.le_refl _) _
    have Hf := Lib.hid (hR.out (.returned (.slice (some ⟨w.heap.size, 0, none⟩) 0 G)) _ ⟨_, _, rfl, ⟨rfl, .inr ⟨w.heap.size, G, cs, rfl, Nat.le_refl _, heap_alloc_new w.drew _, Nat.zero_le _, hG63, by rw [hsz, Nat.mul_one], by simp⟩⟩, hb⟩)
    have i1 : (0 : Int) < (n : Int) := by omega
    have i2 : (0 : Int) ≤ (n : Int) := by omega
    clear hR hcs hsz hb hG hi0 hz0 hs0 hb0 hG63
    go_enter Try.func68, Try.ntmps68
    go_wp2_with (at_builtin; refine Lib.wpList_append_run _ rfl _ _ _ _ rfl _ _ rfl rfl _ _ (hrz _) ?_)
    exact Hf.out
set_option maxRecDepth 100000 in
set_option maxHeartbeats 4000000 in
theorem concatR_any (b o cV : Nat) (A B : Option Addr) (n c m d : Nat) (xs ys : List Value) (w : World) (hb : b < w.heap.size) (h0 : w.cell? ⟨b, o, none⟩ = some (.slice A n c)) (h1 : w.cell? ⟨b, o + 1, none⟩ = some (.slice B m d))
    (hA : Sl w 1 A n xs) (hB : Sl w 1 B m ys) (ox : ∀ u ∈ xs, u.oneCell' = true) (oy : ∀ u ∈ ys, u.oneCell' = true) (hn : n ≤ 400) (hm : m ≤ 400) :
    Calls Try.prog 59 #[.slice (some ⟨b, o, none⟩) 2 cV] w fun e w' => ∃ A' c', e = .returned (.slice A' (n + m) c') ∧ w'.ownsRow w.heap.size 26 1 (.slice A' (n + m) c') (n + m) (xs ++ ys) ∧ Below w.heap.size w w' := by
  refine calls_cps ?_
  intro R hR
  have HA := Lib.hid hA
  have HB := Lib.hid hB
  have Hox := Lib.hid ox
  have Hoy := Lib.hid oy
  clear hA hB ox oy
  go_enter Try.func59, Try.ntmps59
  go_wp2_with fail
  go_loop [3, 5, 11] (fun s3 s5 s11 => ∃ k : Nat, k ≤ 2 ∧ s11 = .int .i64 ((k : Nat) : Int) ∧ (k = 0 ∧ s3 = .int .i64 0 ∨ k = 1 ∧ s3 = .int .i64 (n : Int) ∨ k = 2 ∧ s3 = .int .i64 ((n + m : Nat) : Int))) (fun _ _ s11 => 2 - (intOf s11).toNat)
  case atStart => exact ⟨0, by omega, rfl, .inl ⟨rfl, rfl⟩⟩
  case round =>
    obtain ⟨k, hk, rfl, h⟩ := hrel
    rcases h with ⟨rfl, rfl⟩ | ⟨rfl, rfl⟩ | ⟨rfl, rfl⟩
    · go_wp2
      exact ⟨⟨1, by omega, rfl, .inr (.inl ⟨rfl, by go_num⟩)⟩, by simp [intOf]⟩
    · have hnn : (0 : Int) ≤ (n : Int) := by omega
      have hmm : (0 : Int) ≤ (m : Int) := by omega
      go_wp2
      exact ⟨⟨2, by omega, rfl, .inr (.inr ⟨rfl, by go_num⟩)⟩, by simp [intOf]⟩
    · go_wp2_with fail
      refine (growR_any (n + m) (by omega) _).mono ?_
      rintro e w1 ⟨A0, c0, rfl, ho, hb1⟩
      have HO := Lib.hid ho
      have Hb1 := Lib.hid hb1
      clear ho hb1
      go_wp2_with fail
      go_loopg [6, 8, 27] 2 (fun gk s6 s8 s27 wr => ∃ (k : Nat) (A' : Option Addr) (c' q : Nat) (zs : List Value), k + gk = 2 ∧ s27 = .int .i64 ((k : Nat) : Int) ∧ s6 = .slice A' q c' ∧ wr.ownsRow w.heap.size 26 1 (.slice A' q c') q zs ∧ Below w.heap.size w wr ∧ Hid (k = 0 ∧ q = 0 ∧ zs = [] ∨ k = 1 ∧ q = n ∧ zs = xs ∨ k = 2 ∧ q = n + m ∧ zs = xs ++ ys))
      case atStart => exact ⟨0, A0, c0, 0, [], rfl, rfl, rfl, HO.out, Hb1.out, Lib.hid (.inl ⟨rfl, rfl, rfl⟩)⟩
      case round =>
        obtain ⟨k, A', c', q, zs, hgk, rfl, rfl, ho, hbr, hc⟩ := hrel
        obtain ⟨wi, rfl⟩ : ∃ wi : World, wi = wr := ⟨_, rfl⟩
        have q0 : wi.cell? ⟨b, o, none⟩ = some (.slice A n c) := (hbr.cell (p := ⟨b, o, none⟩) hb).trans h0
        have q1 : wi.cell? ⟨b, o + 1, none⟩ = some (.slice B m d) := (hbr.cell (p := ⟨b, o + 1, none⟩) hb).trans h1
        have HO2 := Lib.hid ho
        have Hbr := Lib.hid hbr
        have hsz := hbr.size
        clear ho hbr
        rcases hc.out with ⟨rfl, rfl, rfl⟩ | ⟨rfl, rfl, rfl⟩ | ⟨rfl, rfl, rfl⟩
        · have HX := Lib.hid (HA.out.below Hbr.out)
          go_wp2_with (at_builtin; refine wpList_app rfl (.tmp 31) (.tmp 32) _ rfl elemGrR w.heap.size _ _ _ rfl HO2.out _ _ _ _ rfl HX.out Hox.out (by unfold maxLen; omega) (by omega) hsz ?_; intro A2 c2 w2 ho2 hg2 _)
          rw [Nat.zero_add, List.nil_append] at ho2
          have HB2 := Lib.hid (below_own Hbr.out HO2.out (Nat.le_refl _) hsz hg2)
          have HO3 := Lib.hid ho2
          clear ho2 hg2
          go_roundg (gk - 1)
          case measure => omega
          case rel => exact ⟨1, A2, c2, n, xs, by omega, by go_num, rfl, HO3.out, HB2.out, Lib.hid (.inr (.inl ⟨rfl, rfl, rfl⟩))⟩
        · have HX := Lib.hid (HB.out.below Hbr.out)
          go_wp2_with (at_builtin; refine wpList_app rfl (.tmp 31) (.tmp 32) _ rfl elemGrR w.heap.size _ _ _ rfl HO2.out _ _ _ _ rfl HX.out Hoy.out (by unfold maxLen; omega) (by omega) hsz ?_; intro A2 c2 w2 ho2 hg2 _)
          have HB2 := Lib.hid (below_own Hbr.out HO2.out (Nat.le_refl _) hsz hg2)
          have HO3 := Lib.hid ho2
          clear ho2 hg2
          go_roundg (gk - 1)
          case measure => omega
          case rel => exact ⟨2, A2, c2, q + m, zs ++ ys, by omega, by go_num, rfl, HO3.out, HB2.out, Lib.hid (.inr (.inr ⟨rfl, rfl, rfl⟩))⟩
        · have Hf := Lib.hid (hR.out (.returned (.slice A' (n + m) c')) wi ⟨A', c', rfl, HO2.out, Hbr.out⟩)
          go_wp2
          exact Hf.out
theorem idxL_contains (v : Int) (l : List Int) : decide (0 ≤ idxL v l 0) = decide (v ∈ l) := by
  rcases idxL_spec v l 0 with ⟨h1, h2⟩ | ⟨j, h1, h2⟩
  · rw [h1]; simp [h2]
  · rw [h1, decide_eq_true (by omega), decide_eq_true (List.mem_of_getElem? h2)]
set_option maxHeartbeats 1000000 in
theorem contains_any (A : Option Addr) (n c : Nat) (l : List Int) (v : Int) (w : World) (hA : SlE intE 1 w A n l) (hn : n ≤ 9223372036854775807) :
    Calls Try.prog 61 #[.slice A n c, .int .i64 v] w fun e w' => e = .returned (.bool (decide (v ∈ l))) ∧ w = w' := by
  refine calls_cps ?_
  intro R hR
  have Hf := Lib.hid (hR.out (.returned (.bool (decide (v ∈ l)))) w ⟨rfl, rfl⟩)
  rw [← idxL_contains] at Hf
  obtain ⟨t, ht⟩ : ∃ t, idxL v l 0 = t := ⟨_, rfl⟩
  have hI := index_any A n c l v w hA hn
  rw [ht] at Hf hI
  have HI := Lib.hid hI
  clear hR hA hI ht
  go_enter Try.func61, Try.ntmps61
  go_wp2_with fail
  refine HI.out.mono ?_
  rintro e w1 ⟨rfl, rfl⟩
  go_wp2
  exact Hf.out
end
end Go.Proofs.Ytjdhcdoekfikpaa
