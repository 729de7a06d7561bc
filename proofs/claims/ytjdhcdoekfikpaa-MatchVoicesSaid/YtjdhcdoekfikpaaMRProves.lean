/-
  The contract of the document's Proves: whether prices prove a matching; conditions: the table is valid, To is an assignment, every row and column has a price.
-/
import Derived.Test.YtjdhcdoekfikpaaMFg
namespace Go.Proofs.Ytjdhcdoekfikpaa
open Go.RowKit

def prR (lu : List Int) (k : Nat) : Prop := ∀ i, i < k → -2000000000000000000 ≤ lu.getD i 0 ∧ lu.getD i 0 ≤ 2000000000000000000
def prC (lt lv : List Int) (n k : Nat) : Prop := ∀ j, j < k → -2000000000000000000 ≤ lv.getD j 0 ∧ lv.getD j 0 ≤ 0 ∧ ((∃ i, i < n ∧ lt.getD i 0 = (j : Int)) ∨ lv.getD j 0 = 0)
def prX (T : List (List Int)) (lt lu lv : List Int) (i j : Nat) : Prop := ¬ (0 ≤ ct T i j ∧ ct T i j < lu.getD i 0 + lv.getD j 0) ∧ ¬ (lt.getD i 0 = (j : Int) ∧ lu.getD i 0 + lv.getD j 0 ≠ ct T i j)
def PrOk (T : List (List Int)) (n m : Nat) (lt lu lv : List Int) (s : Int) : Prop := totS T lt n = s ∧ prR lu n ∧ prC lt lv n m ∧ ∀ i, i < n → ∀ j, j < m → prX T lt lu lv i j
theorem prR_succ {lu : List Int} {k : Nat} {x : Int} (h : prR lu k) (hx : lu.getD k 0 = x) (h1 : -2000000000000000000 ≤ x) (h2 : x ≤ 2000000000000000000) : prR lu (k + 1) := fun i hi => by
  by_cases e : i = k
  · subst e; rw [hx]; exact ⟨h1, h2⟩
  · exact h i (by omega)
theorem prC_succ {lt lv : List Int} {n k : Nat} {x : Int} (h : prC lt lv n k) (hx : lv.getD k 0 = x) (h1 : -2000000000000000000 ≤ x) (h2 : x ≤ 0) (h3 : (∃ i, i < n ∧ lt.getD i 0 = (k : Int)) ∨ x = 0) : prC lt lv n (k + 1) := fun i hi => by
  by_cases e : i = k
  · subst e; rw [hx]; exact ⟨h1, h2, h3⟩
  · exact h i (by omega)
theorem prX_succ {T : List (List Int)} {lt lu lv : List Int} {i j : Nat} (h : ∀ b, b < j → prX T lt lu lv i b) (h1 : prX T lt lu lv i j) : ∀ b, b < j + 1 → prX T lt lu lv i b := fun b hb => by
  by_cases e : b = j
  · subst e; exact h1
  · exact h b (by omega)
set_option maxRecDepth 100000 in
set_option maxHeartbeats 4000000 in
theorem refProves_any (A : Option Addr) (n c m : Nat) (T : List (List Int)) (A1 A2 A3 : Option Addr) (c1 c2 c3 : Nat) (lt lu lv : List Int) (s : Int) (w : World) (hT : SlR w A n T) (hok : TOk T m)
    (h1 : SlE intE 1 w A1 n lt) (h2 : SlE intE 1 w A2 n lu) (h3 : SlE intE 1 w A3 m lv) (htot : TotOk T m lt) :
    Calls Try.prog 45 #[.slice A n c, .agg #[.slice A1 n c1, .slice A2 n c2, .slice A3 m c3, .int .i64 s]] w fun e w' => (PrOk T n m lt lu lv s ∧ e = .returned (.bool true) ∨ ¬ PrOk T n m lt lu lv s ∧ e = .returned (.bool false)) ∧ Below w.heap.size w w' := by
  refine calls_cps ?_
  intro R hR
  have hn1 : 1 ≤ n := by rw [hT.1]; exact hok.n1
  have hm64 := hok.m64
  have hnm : n ≤ m := by rw [hT.1]; exact hok.nm
  obtain ⟨wb, hwb⟩ : ∃ wb, w.alloc (.cells #[.slice A1 n c1, .slice A2 n c2, .slice A3 m c3, .int .i64 s] 28) = wb := ⟨_, rfl⟩
  obtain ⟨bb, hbb⟩ : ∃ bb, w.heap.size = bb := ⟨_, rfl⟩
  have hx := heap_alloc_new w (.cells #[.slice A1 n c1, .slice A2 n c2, .slice A3 m c3, .int .i64 s] 28)
  have hbl := below_new w (.cells #[.slice A1 n c1, .slice A2 n c2, .slice A3 m c3, .int .i64 s] 28)
  rw [hwb] at hx hbl
  have Hno := Lib.hid (show ∀ W, Qt wb W → ¬ PrOk T n m lt lu lv s → R (.returned (.bool false)) W from fun W hq h => hR.out _ _ ⟨.inr ⟨h, rfl⟩, hbl.trans (hq.below.mono hbl.size)⟩)
  have Hyes := Lib.hid (show ∀ W, Qt wb W → PrOk T n m lt lu lv s → R (.returned (.bool true)) W from fun W hq h => hR.out _ _ ⟨.inl ⟨h, rfl⟩, hbl.trans (hq.below.mono hbl.size)⟩)
  have HT := Lib.hid (hT.below hbl)
  have H1 := Lib.hid (h1.below hbl)
  have H2 := Lib.hid (h2.below hbl)
  have H3 := Lib.hid (h3.below hbl)
  have Hn := Lib.hid hT.1
  rw [hbb] at hx
  have Hc := Lib.hid (show ∀ W, Qt wb W → W.cell? ⟨bb, 0, none⟩ = some (.slice A1 n c1) ∧ W.cell? ⟨bb, 1, none⟩ = some (.slice A2 n c2) ∧ W.cell? ⟨bb, 2, none⟩ = some (.slice A3 m c3) ∧ W.cell? ⟨bb, 3, none⟩ = some (.int .i64 s) from fun W hq => by
    obtain ⟨q, rfl⟩ := hq
    obtain ⟨r0, r1, r2, r3, _⟩ := cells4 (show (wb.drewN q).heap[bb]? = _ from hx)
    exact ⟨r0, r1, r2, r3⟩)
  have Hok := Lib.hid hok
  have Htot := Lib.hid htot
  have Hwb := Lib.hid hwb
  have Hbb := Lib.hid hbb
  clear hR hT h1 h2 h3 hx hbl hok htot hwb hbb
  go_enter Try.func45, Try.ntmps45
  go_wp2_with fail
  rw [Hwb.out, Hbb.out]
  refine (refTotal_any A n c m T A1 n c1 lt wb HT.out Hok.out H1.out (by omega)).mono ?_
  rintro e w1 ⟨⟨_, rfl⟩ | ⟨hno, _⟩, hq1⟩
  rotate_left
  · exact absurd Htot.out hno
  have Hq1 := Lib.hid hq1
  obtain ⟨t, ht⟩ : ∃ t, totS T lt n = t := ⟨_, rfl⟩
  rw [ht]
  have Ht := Lib.hid ht
  clear hq1 ht
  by_cases hts : t = s
  rotate_left
  · have g0 : (t != s) = true := by simpa using hts
    have Hf := Lib.hid (Hno.out w1 Hq1.out (fun h => hts (by rw [← Ht.out]; exact h.1)))
    obtain ⟨r0, r1, r2, r3⟩ := Hc.out w1 Hq1.out
    clear hts
    go_wp2
    exact Hf.out
  subst hts
  have g0 : (t != t) = false := by simp
  obtain ⟨r0, r1, r2, r3⟩ := Hc.out w1 Hq1.out
  go_wp2_with fail
  clear r0 r1 r2 r3 g0
  go_loopg [8] n (fun gk s8 wr => ∃ k : Nat, k + gk = n ∧ s8 = .int .i64 ((k : Nat) : Int) ∧ Hid (prR lu k) ∧ Qt wb wr)
  case atStart => exact ⟨0, by omega, rfl, Lib.hid (fun i hi => by omega), Hq1.out⟩
  case round =>
    obtain ⟨k, hgk, rfl, Hr, hq⟩ := hrel
    obtain ⟨wi, rfl⟩ : ∃ wi : World, wi = wr := ⟨_, rfl⟩
    obtain ⟨r0, r1, r2, r3⟩ := Hc.out wi hq
    have Hq := Lib.hid hq
    clear hq
    by_cases hlt : k < n
    · obtain ⟨b2, o2, x, rfl, _, hx, q0⟩ := (Hq.out.sl H2.out).at1 hlt
      have i1 : (k : Int) < (n : Int) := by omega
      have hgx : lu.getD k 0 = x := by rw [List.getD_eq_getElem?_getD, hx]; rfl
      have Hgx := Lib.hid hgx
      clear hx hgx
      by_cases hxr : -2000000000000000000 ≤ x ∧ x ≤ 2000000000000000000
      · have HR := Lib.hid (prR_succ Hr.out Hgx.out hxr.1 hxr.2)
        go_wp2_with fail
        refine (refIn_yes _ _ _ _ (by omega)).mono ?_
        rintro e w3 ⟨rfl, rfl⟩
        go_wp2_with fail
        go_roundg (gk - 1)
        case measure => omega
        case rel => exact ⟨k + 1, by omega, by go_num, HR, Hq.out⟩
      · have Hf := Lib.hid (Hno.out wi Hq.out (fun h => hxr (by have := h.2.1 k hlt; rw [Hgx.out] at this; exact this)))
        go_wp2_with fail
        refine (refIn_no _ _ _ _ (by omega)).mono ?_
        rintro e w3 ⟨rfl, rfl⟩
        go_wp2
        exact Hf.out
    · obtain rfl : n = k := by omega
      clear hlt hgk
      go_wp2_with fail
      clear r0 r1 r2 r3
      go_loopg [9, 10, 11] m (fun gk s9 s10 s11 wr => ∃ k : Nat, k + gk = m ∧ s9 = .int .i64 ((k : Nat) : Int) ∧ Hid (prC lt lv n k) ∧ Qt wb wr)
      case atStart => exact ⟨0, by omega, rfl, Lib.hid (fun i hi => by omega), Hq.out⟩
      case round =>
        obtain ⟨k, hgk, rfl, Hcc, hq⟩ := hrel
        obtain ⟨wj, rfl⟩ : ∃ wj : World, wj = wr := ⟨_, rfl⟩
        obtain ⟨r0, r1, r2, r3⟩ := Hc.out wj hq
        have Hqj := Lib.hid hq
        clear hq
        by_cases hlt : k < m
        · obtain ⟨ga, rfl⟩ : ∃ ga, gk = ga + 1 := ⟨gk - 1, by omega⟩
          have i1 : (k : Int) < (m : Int) := by omega
          go_wp2_with fail
          clear r0 r1 r2 r3
          go_loopg [10, 11] n (fun g2 s10 s11 wr => ∃ (p : Nat) (u : Bool), p + g2 = n ∧ s11 = .int .i64 ((p : Nat) : Int) ∧ s10 = .bool u ∧ Hid (u = true ↔ ∃ i, i < p ∧ lt.getD i 0 = (k : Int)) ∧ Qt wb wr)
          case atStart => exact ⟨0, false, by omega, rfl, rfl, Lib.hid (by simp), Hqj.out⟩
          case round =>
            obtain ⟨p, u, hgp, rfl, rfl, Hu, hq⟩ := hrel
            obtain ⟨wx, rfl⟩ : ∃ wx : World, wx = wr := ⟨_, rfl⟩
            obtain ⟨r0, r1, r2, r3⟩ := Hc.out wx hq
            have Hqx := Lib.hid hq
            clear hq
            by_cases hp : p < n
            · obtain ⟨b2, o2, x, rfl, _, hx, q0⟩ := (Hqx.out.sl H1.out).at1 hp
              have i2 : (p : Int) < (n : Int) := by omega
              have Hgx := Lib.hid (show lt.getD p 0 = x by rw [List.getD_eq_getElem?_getD, hx]; rfl)
              clear hx
              cases u with
              | true =>
                have HU := Lib.hid (show (∃ i, i < p + 1 ∧ lt.getD i 0 = (k : Int)) from by
                  obtain ⟨i, hi, hv⟩ := Hu.out.1 rfl
                  exact ⟨i, by omega, hv⟩)
                go_wp2_with fail
                go_roundg (gk - 1)
                case measure => omega
                case rel => exact ⟨p + 1, true, by omega, by go_num, rfl, Lib.hid ⟨fun _ => HU.out, fun _ => rfl⟩, Hqx.out⟩
              | false =>
                by_cases hxk : x = (k : Int)
                · have g1 : (x == (k : Int)) = true := by simp [hxk]
                  have HU := Lib.hid (show (∃ i, i < p + 1 ∧ lt.getD i 0 = (k : Int)) from ⟨p, by omega, by rw [Hgx.out, hxk]⟩)
                  clear hxk
                  go_wp2_with fail
                  go_roundg (gk - 1)
                  case measure => omega
                  case rel => exact ⟨p + 1, true, by omega, by go_num, rfl, Lib.hid ⟨fun _ => HU.out, fun _ => rfl⟩, Hqx.out⟩
                · have g1 : (x == (k : Int)) = false := by simpa using hxk
                  have HU := Lib.hid (show (false = true ↔ ∃ i, i < p + 1 ∧ lt.getD i 0 = (k : Int)) from ⟨fun h => by simp at h, fun ⟨i, hi, hv⟩ => by
                    by_cases e : i = p
                    · subst e; rw [Hgx.out] at hv; exact absurd hv hxk
                    · exact Hu.out.2 ⟨i, by omega, hv⟩⟩)
                  clear hxk
                  go_wp2_with fail
                  go_roundg (gk - 1)
                  case measure => omega
                  case rel => exact ⟨p + 1, false, by omega, by go_num, rfl, HU, Hqx.out⟩
            · obtain rfl : n = p := by omega
              obtain ⟨b2, o2, x, rfl, _, hx, q0⟩ := (Hqx.out.sl H3.out).at1 hlt
              have Hgx := Lib.hid (show lv.getD k 0 = x by rw [List.getD_eq_getElem?_getD, hx]; rfl)
              clear hx hp hgp
              by_cases hxr : -2000000000000000000 ≤ x ∧ x ≤ 0
              · cases u with
                | true =>
                  have HC := Lib.hid (prC_succ Hcc.out Hgx.out hxr.1 hxr.2 (.inl (Hu.out.1 rfl)))
                  go_wp2_with fail
                  refine (refIn_yes _ _ _ _ (by omega)).mono ?_
                  rintro e w3 ⟨rfl, rfl⟩
                  go_wp2_with fail
                  go_roundg ga
                  case measure => omega
                  case rel => exact ⟨k + 1, by omega, by go_num, HC, Hqx.out⟩
                | false =>
                  by_cases hx0 : x = 0
                  · have g1 : (x != 0) = false := by simp [hx0]
                    have HC := Lib.hid (prC_succ Hcc.out Hgx.out hxr.1 hxr.2 (.inr hx0))
                    clear hx0
                    go_wp2_with fail
                    refine (refIn_yes _ _ _ _ (by omega)).mono ?_
                    rintro e w3 ⟨rfl, rfl⟩
                    go_wp2_with fail
                    go_roundg ga
                    case measure => omega
                    case rel => exact ⟨k + 1, by omega, by go_num, HC, Hqx.out⟩
                  · have g1 : (x != 0) = true := by simpa using hx0
                    have Hf := Lib.hid (Hno.out wx Hqx.out (fun h => by
                      have := (h.2.2.1 k hlt).2.2
                      rw [Hgx.out] at this
                      rcases this with h | h
                      · exact absurd (Hu.out.2 h) (by simp)
                      · exact hx0 h))
                    clear hx0
                    go_wp2_with fail
                    refine (refIn_yes _ _ _ _ (by omega)).mono ?_
                    rintro e w3 ⟨rfl, rfl⟩
                    go_wp2
                    exact Hf.out
              · have Hf := Lib.hid (Hno.out wx Hqx.out (fun h => hxr (by have := h.2.2.1 k hlt; rw [Hgx.out] at this; exact ⟨this.1, this.2.1⟩)))
                go_wp2_with fail
                refine (refIn_no _ _ _ _ (by omega)).mono ?_
                rintro e w3 ⟨rfl, rfl⟩
                go_wp2
                exact Hf.out
        · obtain rfl : m = k := by omega
          clear hlt hgk
          go_wp2_with fail
          clear r0 r1 r2 r3
          go_loopg [12, 13, 14] n (fun gk s12 s13 s14 wr => ∃ i : Nat, i + gk = n ∧ s12 = .int .i64 ((i : Nat) : Int) ∧ Hid (∀ a, a < i → ∀ b, b < m → prX T lt lu lv a b) ∧ Qt wb wr)
          case atStart => exact ⟨0, by omega, rfl, Lib.hid (fun i hi => by omega), Hqj.out⟩
          case round =>
            obtain ⟨i, hgi, rfl, Hxx, hq⟩ := hrel
            obtain ⟨wx, rfl⟩ : ∃ wx : World, wx = wr := ⟨_, rfl⟩
            have Hqx := Lib.hid hq
            clear hq
            by_cases hli : i < n
            · obtain ⟨ga, rfl⟩ : ∃ ga, gk = ga + 1 := ⟨gk - 1, by omega⟩
              have i1 : (i : Int) < (n : Int) := by omega
              go_wp2_with fail
              go_loopg [13, 14] m (fun g2 s13 s14 wr => ∃ j : Nat, j + g2 = m ∧ s13 = .int .i64 ((j : Nat) : Int) ∧ Hid (∀ b, b < j → prX T lt lu lv i b) ∧ Qt wb wr)
              case atStart => exact ⟨0, by omega, rfl, Lib.hid (fun i hi => by omega), Hqx.out⟩
              case round =>
                obtain ⟨j, hgj, rfl, Hxj, hq⟩ := hrel
                obtain ⟨wy, rfl⟩ : ∃ wy : World, wy = wr := ⟨_, rfl⟩
                obtain ⟨r0, r1, r2, r3⟩ := Hc.out wy hq
                have Hqy := Lib.hid hq
                clear hq
                by_cases hlj : j < m
                · obtain ⟨b, o, Ai, ci, bi, oi, rfl, _, _, t1, rfl, t2⟩ := table_at HT.out Hok.out.rect Hqy.out.below hli hlj
                  obtain ⟨bu, ou, x, rfl, _, hx, qu⟩ := (Hqy.out.sl H2.out).at1 hli
                  obtain ⟨bv, ov, y, rfl, _, hy, qv⟩ := (Hqy.out.sl H3.out).at1 hlj
                  obtain ⟨bt, ot, z, rfl, _, hz, qt⟩ := (Hqy.out.sl H1.out).at1 hli
                  have hgx : lu.getD i 0 = x := by rw [List.getD_eq_getElem?_getD, hx]; rfl
                  have hgy : lv.getD j 0 = y := by rw [List.getD_eq_getElem?_getD, hy]; rfl
                  have hgz : lt.getD i 0 = z := by rw [List.getD_eq_getElem?_getD, hz]; rfl
                  have hb1 := Hr.out i hli
                  have hb2 := Hcc.out j hlj
                  rw [hgx] at hb1
                  rw [hgy] at hb2
                  obtain ⟨v, hv⟩ : ∃ v, ct T i j = v := ⟨_, rfl⟩
                  rw [hv] at t2
                  have hb3 := hb2.1
                  have hb4 := hb2.2.1
                  have i2 : (j : Int) < (m : Int) := by omega
                  have z1 : IntKind.i64.wrap (x + y) = x + y := IntWalk.i64_in _ (by omega)
                  have HP := Lib.hid (show prX T lt lu lv i j ↔ ¬ (0 ≤ v ∧ v < x + y) ∧ ¬ (z = (j : Int) ∧ x + y ≠ v) by unfold prX; rw [hv, hgx, hgy, hgz])
                  have Hv := Lib.hid hv
                  have Hgz := Lib.hid hgz
                  clear hx hy hz hgx hgy hgz hb1 hb2 hv
                  go_wp2_with fail
                  go_quiet (fail)
                  rename_i nq
                  have hq2 := Hqy.out.step nq
                  have Hq2 := Lib.hid hq2
                  clear t1 t2 qu qv qt r0 r1 r2 r3 z1 hq2
                  generalize wy.drewN nq = wd at *
                  obtain ⟨r0, r1, r2, r3⟩ := Hc.out wd Hq2.out
                  obtain ⟨b', o', Ai', ci', bi', oi', e, _, _, t1, e5, t2⟩ := table_at HT.out Hok.out.rect Hq2.out.below hli hlj
                  simp only [Option.some.injEq, Addr.mk.injEq, and_true] at e
                  obtain ⟨rfl, rfl⟩ := e
                  rw [Hv.out] at t2
                  obtain ⟨bt', ot', z', e6, _, hz, qt⟩ := (Hq2.out.sl H1.out).at1 hli
                  simp only [Option.some.injEq, Addr.mk.injEq, and_true] at e6
                  obtain ⟨rfl, rfl⟩ := e6
                  have hzz : z' = z := by rw [← Hgz.out, List.getD_eq_getElem?_getD, hz]; rfl
                  rw [hzz] at qt
                  clear hz hzz e5
                  by_cases hv0 : 0 ≤ v
                  · have k1 : decide (0 ≤ v) = true := decide_eq_true hv0
                    by_cases hvp : v < x + y
                    · have k2 : decide (v < x + y) = true := decide_eq_true hvp
                      have Hf := Lib.hid (Hno.out wd Hq2.out (fun h => (HP.out.1 (h.2.2.2 i hli j hlj)).1 ⟨hv0, hvp⟩))
                      clear hv0 hvp
                      go_wp2
                      exact Hf.out
                    · have k2 : decide (v < x + y) = false := decide_eq_false hvp
                      by_cases hzj : z = (j : Int)
                      · have k3 : (z == (j : Int)) = true := by simp [hzj]
                        by_cases hpv : x + y = v
                        · have k4 : (x + y != v) = false := by simp [hpv]
                          have hn1 := (fun h => hvp h.2 : ¬ (0 ≤ v ∧ v < x + y))
                          have hn2 : ¬ (z = (j : Int) ∧ x + y ≠ v) := fun h => h.2 hpv
                          have HX := Lib.hid (prX_succ Hxj.out (HP.out.2 ⟨hn1, hn2⟩))
                          clear hn1 hn2 hpv hzj
                          go_wp2_with fail
                          go_roundg (gk - 1)
                          case measure => omega
                          case rel => exact ⟨j + 1, by omega, by go_num, HX, Hq2.out⟩
                        · have k4 : (x + y != v) = true := by simpa using hpv
                          have Hf := Lib.hid (Hno.out wd Hq2.out (fun h => (HP.out.1 (h.2.2.2 i hli j hlj)).2 ⟨hzj, hpv⟩))
                          clear hpv hzj
                          go_wp2
                          exact Hf.out
                      · have k3 : (z == (j : Int)) = false := by simpa using hzj
                        have hn1 := (fun h => hvp h.2 : ¬ (0 ≤ v ∧ v < x + y))
                        have hn2 : ¬ (z = (j : Int) ∧ x + y ≠ v) := fun h => hzj h.1
                        have HX := Lib.hid (prX_succ Hxj.out (HP.out.2 ⟨hn1, hn2⟩))
                        clear hn1 hn2 hzj
                        go_wp2_with fail
                        go_roundg (gk - 1)
                        case measure => omega
                        case rel => exact ⟨j + 1, by omega, by go_num, HX, Hq2.out⟩
                  · have k1 : decide (0 ≤ v) = false := decide_eq_false hv0
                    by_cases hzj : z = (j : Int)
                    · have k3 : (z == (j : Int)) = true := by simp [hzj]
                      by_cases hpv : x + y = v
                      · have k4 : (x + y != v) = false := by simp [hpv]
                        have hn1 := (fun h => hv0 h.1 : ¬ (0 ≤ v ∧ v < x + y))
                        have hn2 : ¬ (z = (j : Int) ∧ x + y ≠ v) := fun h => h.2 hpv
                        have HX := Lib.hid (prX_succ Hxj.out (HP.out.2 ⟨hn1, hn2⟩))
                        clear hn1 hn2 hpv hzj
                        go_wp2_with fail
                        go_roundg (gk - 1)
                        case measure => omega
                        case rel => exact ⟨j + 1, by omega, by go_num, HX, Hq2.out⟩
                      · have k4 : (x + y != v) = true := by simpa using hpv
                        have Hf := Lib.hid (Hno.out wd Hq2.out (fun h => (HP.out.1 (h.2.2.2 i hli j hlj)).2 ⟨hzj, hpv⟩))
                        clear hpv hzj
                        go_wp2
                        exact Hf.out
                    · have k3 : (z == (j : Int)) = false := by simpa using hzj
                      have hn1 := (fun h => hv0 h.1 : ¬ (0 ≤ v ∧ v < x + y))
                      have hn2 : ¬ (z = (j : Int) ∧ x + y ≠ v) := fun h => hzj h.1
                      have HX := Lib.hid (prX_succ Hxj.out (HP.out.2 ⟨hn1, hn2⟩))
                      clear hn1 hn2 hzj
                      go_wp2_with fail
                      go_roundg (gk - 1)
                      case measure => omega
                      case rel => exact ⟨j + 1, by omega, by go_num, HX, Hq2.out⟩
                · obtain rfl : m = j := by omega
                  have HX := Lib.hid (show ∀ a, a < i + 1 → ∀ b, b < m → prX T lt lu lv a b from fun a ha b hb => by
                    by_cases e : a = i
                    · subst e; exact Hxj.out b hb
                    · exact Hxx.out a (by omega) b hb)
                  obtain ⟨b, o, r, Ai, ci, rfl, _, hr, hcell, _⟩ := (HT.out.below Hqy.out.below).at_ hli
                  rw [Hok.out.rect r (List.mem_of_getElem? hr)] at hcell
                  clear hr
                  go_wp2_with fail
                  go_roundg ga
                  case measure => omega
                  case rel => exact ⟨i + 1, by omega, by go_num, HX, Hqy.out⟩
            · obtain rfl : n = i := by omega
              have Hf := Lib.hid (Hyes.out wx Hqx.out ⟨Ht.out, Hr.out, Hcc.out, Hxx.out⟩)
              go_wp2
              exact Hf.out
end Go.Proofs.Ytjdhcdoekfikpaa
