/-
  The contract of clavecinlaw05.MatchProves: true at every input.
-/
import Derived.Test.YtjdhcdoekfikpaaMProvesW
namespace Go.Proofs.Ytjdhcdoekfikpaa
open Go.RowKit

set_option maxRecDepth 100000 in
set_option maxHeartbeats 4000000 in
theorem cut_own (A : Option Addr) (n c : Nat) (l : List Int) (x : Int) (N : Nat) (hx : x = (N : Int)) (hN : N ≤ 66) (w : World) (hA : SlE intE 1 w A n l) (hnc : n ≤ c) (_hc : c ≤ 9223372036854775807) :
    Calls Try.prog 32 #[.slice A n c, .int .i64 x] w fun e w' => ∃ A' c', e = .returned (.slice A' (l.take N).length c') ∧ w'.ownsRow w.heap.size 3 1 (.slice A' (l.take N).length c') (l.take N).length ((l.take N).flatMap intE) ∧ Below w.heap.size w w' := by
  subst hx
  refine calls_cps ?_
  intro R hR
  have hl := hA.1
  have HO := Lib.hid (own_new w #[] 3 1 0 w.heap.size rfl (Nat.le_refl _) (by unfold maxLen; omega))
  by_cases h : N < n
  · have hlen : (l.take N).length = N := by rw [List.length_take, ← hl]; omega
    have HC := Lib.hid (slE_cut hA (k := N) (by omega))
    rw [hlen] at hR
    have i1 : (N : Int) < (n : Int) := by omega
    have i2 : (N : Int) ≤ (c : Int) := by omega
    have Hlen := Lib.hid hlen
    clear hA hl hlen
    go_enter Try.func32, Try.ntmps32
    go_wp2_with (at_builtin; refine wpList_app rfl (.tmp 12) (.tmp 13) _ rfl elemInt w.heap.size _ _ _ rfl HO.out _ _ _ _ rfl (HC.out.2.alloc _) (int_one _) (by unfold maxLen; omega) (by omega) (by simp) ?_; intro A3 c3 w3 ho3 hg3 _; rw [Nat.zero_add, List.nil_append] at ho3; have hb3 := app_below1 rfl hg3; clear hg3)
    exact hR.out _ _ ⟨A3, c3, rfl, ho3, hb3⟩
  · have htk : l.take N = l := List.take_of_length_le (by rw [← hl]; omega)
    rw [htk, ← hl] at hR
    have HC := Lib.hid hA
    have Hl := Lib.hid hl
    have hn66 : n ≤ 66 := by omega
    have i1 : (n : Int) ≤ (N : Int) := by omega
    clear hA hl htk
    go_enter Try.func32, Try.ntmps32
    go_wp2_with (at_builtin; refine wpList_app rfl (.tmp 12) (.tmp 13) _ rfl elemInt w.heap.size _ _ _ rfl HO.out _ _ _ _ rfl (HC.out.2.alloc _) (int_one _) (by unfold maxLen; omega) (by omega) (by simp) ?_; intro A3 c3 w3 ho3 hg3 _; rw [Nat.zero_add, List.nil_append] at ho3; have hb3 := app_below1 rfl hg3; clear hg3)
    exact hR.out _ _ ⟨A3, c3, rfl, ho3, hb3⟩
theorem own_bd {W : World} {base e sz n c : Nat} {A : Option Addr} {xs : List Value} (h : W.ownsRow base e sz (.slice A n c) n xs) : ∀ a, A = some a → base ≤ a.block ∧ a.block < W.heap.size := by
  rcases h.2 with ⟨h1, h2⟩ | ⟨g, cap, cur, h1, h2, h3, _⟩
  · simp only [Value.slice.injEq] at h1
    obtain ⟨rfl, _⟩ := h1
    exact fun a ha => by simp at ha
  · simp only [Value.slice.injEq, true_and] at h1
    obtain ⟨rfl, _⟩ := h1
    exact fun a ha => by injection ha with ha; subst ha; exact ⟨h2, (Array.getElem?_eq_some_iff.1 h3).1⟩
theorem set4 {W : World} {g : Nat} {t : TypeId} {z0 z1 z2 z3 a b c d : Value} (h : W.heap[g]? = some (.cells #[z0, z1, z2, z3] t (0, 0))) :
    ((((W.setCell ⟨g, 0, none⟩ a).setCell ⟨g, 1, none⟩ b).setCell ⟨g, 2, none⟩ c).setCell ⟨g, 3, none⟩ d).heap[g]? = some (.cells #[a, b, c, d] t (0, 0)) := by
  simp [World.setCell, Array.getElem?_modify, h]
def CutM (w1 wx : World) (v : Value) (K1 K2 K3 : Nat) (k1 k2 k3 : List Int) (s : Int) : Prop :=
  ∃ (g : Nat) (Aa Ab Ac : Option Addr) (ca cb cc : Nat), v = .pointer (some ⟨g, 0, none⟩) ∧ wx.heap[g]? = some (.cells #[.slice Aa K1 ca, .slice Ab K2 cb, .slice Ac K3 cc, .int .i64 s] 28 (0, 0)) ∧
    SlE intE 1 wx Aa K1 k1 ∧ SlE intE 1 wx Ab K2 k2 ∧ SlE intE 1 wx Ac K3 k3 ∧ Below w1.heap.size w1 wx
theorem kx_setg {W W' : World} {g : Nat} (h : Kx (fun j => j = g) W W') (k : Nat) (v : Value) : Kx (fun j => j = g) W (W'.setCell ⟨g, k, none⟩ v) := kx_set h rfl k v
theorem bd_ne {A : Option Addr} {base hi g : Nat} (h : ∀ a, A = some a → base ≤ a.block ∧ a.block < hi) (hg : g < base ∨ hi ≤ g) : ∀ a, A = some a → a.block ≠ g := fun a ha e => by
  have := h a ha
  omega
theorem cutM_mk {w1 wx wa wb wc : World} {g : Nat} {Aa Ab Ac : Option Addr} {ca cb cc K1 K2 K3 : Nat} {k1 k2 k3 : List Int} {s : Int} (hg : wx.heap[g]? = some (.cells #[.slice Aa K1 ca, .slice Ab K2 cb, .slice Ac K3 cc, .int .i64 s] 28 (0, 0)))
    (sa : SlE intE 1 wa Aa K1 k1) (xa : Kx (fun j => j = g) wa wx) (na : ∀ a, Aa = some a → a.block ≠ g) (sb : SlE intE 1 wb Ab K2 k2) (xb : Kx (fun j => j = g) wb wx) (nb : ∀ a, Ab = some a → a.block ≠ g)
    (sc : SlE intE 1 wc Ac K3 k3) (xc : Kx (fun j => j = g) wc wx) (nc : ∀ a, Ac = some a → a.block ≠ g) (hb : Below w1.heap.size w1 wx) : CutM w1 wx (.pointer (some ⟨g, 0, none⟩)) K1 K2 K3 k1 k2 k3 s :=
  ⟨g, Aa, Ab, Ac, ca, cb, cc, rfl, hg, slE_kx sa xa na, slE_kx sb xb nb, slE_kx sc xc nc, hb⟩
theorem bcell {W W1 : World} (hb : Below W.heap.size W W1) : (∀ b o, b < W.heap.size → W1.cell? ⟨b, o, none⟩ = W.cell? ⟨b, o, none⟩) ∧ (∀ b o, b < W.heap.size → W1.frozen? ⟨b, o, none⟩ = W.frozen? ⟨b, o, none⟩) :=
  ⟨fun b o h => hb.cell (p := ⟨b, o, none⟩) h, fun b o h => hb.frozen (p := ⟨b, o, none⟩) h⟩
theorem below_alloc1 {w W : World} (h : Below w.heap.size w W) (o : Obj) : Below w.heap.size w (W.alloc o) := h.alloc h.size o
theorem below_set1 {w W : World} {g k : Nat} (h : Below w.heap.size w W) (hg : w.heap.size ≤ g) (v : Value) : Below w.heap.size w (W.setCell ⟨g, k, none⟩ v) := h.setCell hg v
structure Pv (w0 w : World) (A : Option Addr) (L c : Nat) (T : List (List Int)) (g : Nat) (Aa Ab Ac : Option Addr) (K1 K2 K3 ca cb cc : Nat) (k1 k2 k3 : List Int) (s : Int) : Prop where
  tc : Tc w0 w A L c T
  x : w.heap[g]? = some (.cells #[.slice Aa K1 ca, .slice Ab K2 cb, .slice Ac K3 cc, .int .i64 s] 28 (0, 0))
  sa : SlE intE 1 w Aa K1 k1
  sb : SlE intE 1 w Ab K2 k2
  sc : SlE intE 1 w Ac K3 k3
theorem Pv.below {w0 w w' : World} {A : Option Addr} {L c : Nat} {T : List (List Int)} {g : Nat} {Aa Ab Ac : Option Addr} {K1 K2 K3 ca cb cc : Nat} {k1 k2 k3 : List Int} {s : Int} (h : Pv w0 w A L c T g Aa Ab Ac K1 K2 K3 ca cb cc k1 k2 k3 s) (hb : Below w.heap.size w w') :
    Pv w0 w' A L c T g Aa Ab Ac K1 K2 K3 ca cb cc k1 k2 k3 s := ⟨h.tc.below hb, (hb.block g (Array.getElem?_eq_some_iff.1 h.x).1).trans h.x, h.sa.below hb, h.sb.below hb, h.sc.below hb⟩
set_option maxRecDepth 100000 in
set_option maxHeartbeats 8000000 in
theorem lproves_any (A : Option Addr) (n c : Nat) (T : List (List Int)) (Y1 Y2 Y3 : Option Addr) (n1 n2 n3 d1 d2 d3 : Nat) (l1 l2 l3 : List Int) (s : Int) (w : World) (hT : SlRc w A n T) (hn : n ≤ 9223372036854775807)
    (hY1 : SlE intE 1 w Y1 n1 l1) (hc1 : n1 ≤ d1) (hd1 : d1 ≤ 9223372036854775807) (hY2 : SlE intE 1 w Y2 n2 l2) (hc2 : n2 ≤ d2) (hd2 : d2 ≤ 9223372036854775807) (hY3 : SlE intE 1 w Y3 n3 l3) (hc3 : n3 ≤ d3) (hd3 : d3 ≤ 9223372036854775807) :
    Calls Try.prog 18 #[.slice A n c, .agg #[.slice Y1 n1 d1, .slice Y2 n2 d2, .slice Y3 n3 d3, .int .i64 s]] w fun e w' => e = .returned (.bool true) ∧ Below w.heap.size w w' := by
  refine calls_cps ?_
  intro R hR
  obtain ⟨T1, hT1⟩ : ∃ T1, tabL 66 66 T = T1 := ⟨_, rfl⟩
  obtain ⟨L, hL⟩ : ∃ L, T1.length = L := ⟨_, rfl⟩
  obtain ⟨k1, hk1⟩ : ∃ k, l1.take 66 = k := ⟨_, rfl⟩
  obtain ⟨k2, hk2⟩ : ∃ k, l2.take 66 = k := ⟨_, rfl⟩
  obtain ⟨k3, hk3⟩ : ∃ k, l3.take 66 = k := ⟨_, rfl⟩
  obtain ⟨K1, hK1⟩ : ∃ K, k1.length = K := ⟨_, rfl⟩
  obtain ⟨K2, hK2⟩ : ∃ K, k2.length = K := ⟨_, rfl⟩
  obtain ⟨K3, hK3⟩ : ∃ K, k3.length = K := ⟨_, rfl⟩
  have hb1 : K1 ≤ 66 := by rw [← hK1, ← hk1, List.length_take]; omega
  have hb2 : K2 ≤ 66 := by rw [← hK2, ← hk2, List.length_take]; omega
  have hb3 : K3 ≤ 66 := by rw [← hK3, ← hk3, List.length_take]; omega
  have HT1 := Lib.hid hT1
  have HL := Lib.hid hL
  have Hk1 := Lib.hid hk1
  have Hk2 := Lib.hid hk2
  have Hk3 := Lib.hid hk3
  have HK1 := Lib.hid hK1
  have HK2 := Lib.hid hK2
  have HK3 := Lib.hid hK3
  have hbl := below_new w (.cells #[.slice Y1 n1 d1, .slice Y2 n2 d2, .slice Y3 n3 d3, .int .i64 s] 28)
  have HX := Lib.hid (heap_alloc_new w (.cells #[.slice Y1 n1 d1, .slice Y2 n2 d2, .slice Y3 n3 d3, .int .i64 s] 28))
  have HT := Lib.hid (hT.below hbl)
  have HY1 := Lib.hid (hY1.below hbl)
  have HY2 := Lib.hid (hY2.below hbl)
  have HY3 := Lib.hid (hY3.below hbl)
  have Hbl := Lib.hid hbl
  clear hT1 hL hT hk1 hk2 hk3 hK1 hK2 hK3 hY1 hY2 hY3 hbl
  go_enter Try.func18, Try.ntmps18
  go_wp2_with fail
  refine (table_tc A n c T _ _ 66 66 rfl rfl (by omega) (by omega) _ HT.out hn).mono ?_
  rw [HT1.out, HL.out]
  rintro e w1 ⟨A1, c1, rfl, h1⟩
  obtain ⟨rb, hrb⟩ : ∃ rb, w.heap.size = rb := ⟨_, rfl⟩
  have hx1 := (h1.bel.block _ (by simp)).trans HX.out
  rw [hrb] at hx1
  have H1 := Lib.hid (show Tc w w1 A1 L c1 T1 from ⟨h1.rc, h1.l66, Hbl.out.trans (h1.bel.mono Hbl.out.size)⟩)
  have HY11 := Lib.hid (HY1.out.below h1.bel)
  have HY21 := Lib.hid (HY2.out.below h1.bel)
  have HY31 := Lib.hid (HY3.out.below h1.bel)
  have HX1 := Lib.hid hx1
  have hrl := (Array.getElem?_eq_some_iff.1 hx1).1
  obtain ⟨r0, r1, r2, r3, r4⟩ := cells4 hx1
  have Hbx := Lib.hid (show ∀ W', Below w1.heap.size w1 W' → Below w1.heap.size w1 W' ∧ W'.cell? ⟨rb, 0, none⟩ = some (.slice Y1 n1 d1) ∧ W'.cell? ⟨rb, 1, none⟩ = some (.slice Y2 n2 d2) ∧ W'.cell? ⟨rb, 2, none⟩ = some (.slice Y3 n3 d3) ∧ W'.cell? ⟨rb, 3, none⟩ = some (.int .i64 s) from fun W' hb => by
    obtain ⟨r0, r1, r2, r3, _⟩ := cells4 ((hb.block rb hrl).trans HX1.out)
    exact ⟨hb, r0, r1, r2, r3⟩)
  have hbz : Below w1.heap.size w1 w1.drew := (Below.refl _ w1).drew
  have Hrb := Lib.hid hrb
  clear h1 hx1 HX HT HY1 HY2 HY3 Hbl hrb
  go_wp2_with (rw [Hrb.out])
  go_upto_region 2 with fail
  go_cut [6] (fun s6 wx => CutM w1 wx s6 K1 K2 K3 k1 k2 k3 s)
  case first =>
    go_region_held3 (fun w' => Below w1.heap.size w1 w' ∧ w'.cell? ⟨rb, 0, none⟩ = some (.slice Y1 n1 d1) ∧ w'.cell? ⟨rb, 1, none⟩ = some (.slice Y2 n2 d2) ∧ w'.cell? ⟨rb, 2, none⟩ = some (.slice Y3 n3 d3) ∧ w'.cell? ⟨rb, 3, none⟩ = some (.int .i64 s))
      (first
        | (refine Hbx.out _ ?_; repeat (first | with_reducible exact hbz | with_reducible exact Below.refl _ _ | with_reducible refine Below.drew ?_ | with_reducible exact hka | with_reducible exact hkb | with_reducible exact hkc | with_reducible refine below_alloc1 ?_ _ | with_reducible refine below_set1 ?_ ?_ _ | assumption | exact Nat.le_refl _))
        | go_keep)
      (first
      | (go_at_call 32; have hcur := (‹Below w1.heap.size w1 _ ∧ _›).1; (with_reducible refine (cut_own Y1 n1 d1 l1 66 66 rfl (by omega) _ (HY11.out.below hcur) hc1 hd1).mono ?_); rw [Hk1.out, HK1.out]; rintro e wa ⟨Aa, ca, rfl, hoa, hba⟩; have hka := hcur.trans (hba.mono hcur.size); have sza := hka.size; obtain ⟨qa1, qa2⟩ := bcell hba; have za := hba.size; (try simp at za); (try have yaw1 : w1.heap.size < wa.heap.size := by omega); clear hcur)
      | (go_at_call 32; have hcur := (‹Below w1.heap.size w1 _ ∧ _›).1; (with_reducible refine (cut_own Y2 n2 d2 l2 66 66 rfl (by omega) _ (HY21.out.below hcur) hc2 hd2).mono ?_); rw [Hk2.out, HK2.out]; rintro e wb ⟨Ab, cb, rfl, hob, hbb⟩; have hkb := hcur.trans (hbb.mono hcur.size); have szb := hkb.size; obtain ⟨qb1, qb2⟩ := bcell hbb; have zb := hbb.size; (try simp at zb); (try have ybw1 : w1.heap.size < wb.heap.size := by omega); (try have ybwa : wa.heap.size < wb.heap.size := by omega); clear hcur)
      | (go_at_call 32; have hcur := (‹Below w1.heap.size w1 _ ∧ _›).1; (with_reducible refine (cut_own Y3 n3 d3 l3 66 66 rfl (by omega) _ (HY31.out.below hcur) hc3 hd3).mono ?_); rw [Hk3.out, HK3.out]; rintro e wc ⟨Ac, cc, rfl, hoc, hbc⟩; have hkc := hcur.trans (hbc.mono hcur.size); have szc := hkc.size; obtain ⟨qc1, qc2⟩ := bcell hbc; have zc := hbc.size; (try simp at zc); (try have ycw1 : w1.heap.size < wc.heap.size := by omega); (try have ycwa : wa.heap.size < wc.heap.size := by omega); (try have ycwb : wb.heap.size < wc.heap.size := by omega); clear hcur))
    · go_wp2_with fail
      go_meet
      have ka := SlE.of_own hoa HK1.out.symm
      have kb := SlE.of_own hob HK2.out.symm
      have kc := SlE.of_own hoc HK3.out.symm
      have ba := own_bd hoa
      have bb := own_bd hob
      have bc := own_bd hoc
      refine cutM_mk (ca := ca) (cb := cb) (cc := cc) ?_ ka ?_ ?_ kb ?_ ?_ kc ?_ ?_ ?_
      · with_reducible exact heap_alloc_new _ _
      · repeat (first | with_reducible exact Kx.refl _ _ | with_reducible refine Kx.below ?_ hbb | with_reducible refine Kx.below ?_ hbc | with_reducible refine Kx.below ?_ (below_new _ _) | with_reducible refine kx_setg ?_ _ _)
      · refine bd_ne ba ?_
        clear qa1 qa2 qb1 qb2 qc1 qc2
        first
          | omega
          | (simp only [World.size_alloc]; omega)
          | (left; show w1.heap.size < (World.alloc w1 _).heap.size; simp)
      · repeat (first | with_reducible exact Kx.refl _ _ | with_reducible refine Kx.below ?_ hbb | with_reducible refine Kx.below ?_ hbc | with_reducible refine Kx.below ?_ (below_new _ _) | with_reducible refine kx_setg ?_ _ _)
      · refine bd_ne bb ?_
        clear qa1 qa2 qb1 qb2 qc1 qc2
        first
          | omega
          | (simp only [World.size_alloc]; omega)
          | (left; show w1.heap.size < (World.alloc w1 _).heap.size; simp)
      · repeat (first | with_reducible exact Kx.refl _ _ | with_reducible refine Kx.below ?_ hbb | with_reducible refine Kx.below ?_ hbc | with_reducible refine Kx.below ?_ (below_new _ _) | with_reducible refine kx_setg ?_ _ _)
      · refine bd_ne bc ?_
        clear qa1 qa2 qb1 qb2 qc1 qc2
        first
          | omega
          | (simp only [World.size_alloc]; omega)
          | (left; show w1.heap.size < (World.alloc w1 _).heap.size; simp)
      · repeat (first | with_reducible exact hbz | with_reducible exact Below.refl _ _ | with_reducible refine Below.drew ?_ | with_reducible exact hka | with_reducible exact hkb | with_reducible exact hkc | with_reducible refine below_alloc1 ?_ _ | with_reducible refine below_set1 ?_ ?_ _ | assumption | exact Nat.le_refl _)
    · go_wp2_with fail
      go_meet
      have ka := SlE.of_own hoa HK1.out.symm
      have kb := SlE.of_own hob HK2.out.symm
      have kc := SlE.of_own hoc HK3.out.symm
      have ba := own_bd hoa
      have bb := own_bd hob
      have bc := own_bd hoc
      refine cutM_mk (ca := ca) (cb := cb) (cc := cc) ?_ ka ?_ ?_ kb ?_ ?_ kc ?_ ?_ ?_
      · exact set4 ((hbc.block _ (by simp)).trans (heap_alloc_new wb _))
      · repeat (first | with_reducible exact Kx.refl _ _ | with_reducible refine Kx.below ?_ hbb | with_reducible refine Kx.below ?_ hbc | with_reducible refine Kx.below ?_ (below_new _ _) | with_reducible refine kx_setg ?_ _ _)
      · refine bd_ne ba ?_
        clear qa1 qa2 qb1 qb2 qc1 qc2
        first
          | omega
          | (simp only [World.size_alloc]; omega)
          | (left; show w1.heap.size < (World.alloc w1 _).heap.size; simp)
      · repeat (first | with_reducible exact Kx.refl _ _ | with_reducible refine Kx.below ?_ hbb | with_reducible refine Kx.below ?_ hbc | with_reducible refine Kx.below ?_ (below_new _ _) | with_reducible refine kx_setg ?_ _ _)
      · refine bd_ne bb ?_
        clear qa1 qa2 qb1 qb2 qc1 qc2
        first
          | omega
          | (simp only [World.size_alloc]; omega)
          | (left; show w1.heap.size < (World.alloc w1 _).heap.size; simp)
      · repeat (first | with_reducible exact Kx.refl _ _ | with_reducible refine Kx.below ?_ hbb | with_reducible refine Kx.below ?_ hbc | with_reducible refine Kx.below ?_ (below_new _ _) | with_reducible refine kx_setg ?_ _ _)
      · refine bd_ne bc ?_
        clear qa1 qa2 qb1 qb2 qc1 qc2
        first
          | omega
          | (simp only [World.size_alloc]; omega)
          | (left; show w1.heap.size < (World.alloc w1 _).heap.size; simp)
      · repeat (first | with_reducible exact hbz | with_reducible exact Below.refl _ _ | with_reducible refine Below.drew ?_ | with_reducible exact hka | with_reducible exact hkb | with_reducible exact hkc | with_reducible refine below_alloc1 ?_ _ | with_reducible refine below_set1 ?_ ?_ _ | assumption | exact Nat.le_refl _)
    · go_wp2_with fail
      go_meet
      have ka := SlE.of_own hoa HK1.out.symm
      have kb := SlE.of_own hob HK2.out.symm
      have kc := SlE.of_own hoc HK3.out.symm
      have ba := own_bd hoa
      have bb := own_bd hob
      have bc := own_bd hoc
      refine cutM_mk (ca := ca) (cb := cb) (cc := cc) ?_ ka ?_ ?_ kb ?_ ?_ kc ?_ ?_ ?_
      · exact set4 ((hbc.block _ ybwa).trans ((hbb.block _ (by simp)).trans (heap_alloc_new wa _)))
      · repeat (first | with_reducible exact Kx.refl _ _ | with_reducible refine Kx.below ?_ hbb | with_reducible refine Kx.below ?_ hbc | with_reducible refine Kx.below ?_ (below_new _ _) | with_reducible refine kx_setg ?_ _ _)
      · refine bd_ne ba ?_
        clear qa1 qa2 qb1 qb2 qc1 qc2
        first
          | omega
          | (simp only [World.size_alloc]; omega)
          | (left; show w1.heap.size < (World.alloc w1 _).heap.size; simp)
      · repeat (first | with_reducible exact Kx.refl _ _ | with_reducible refine Kx.below ?_ hbb | with_reducible refine Kx.below ?_ hbc | with_reducible refine Kx.below ?_ (below_new _ _) | with_reducible refine kx_setg ?_ _ _)
      · refine bd_ne bb ?_
        clear qa1 qa2 qb1 qb2 qc1 qc2
        first
          | omega
          | (simp only [World.size_alloc]; omega)
          | (left; show w1.heap.size < (World.alloc w1 _).heap.size; simp)
      · repeat (first | with_reducible exact Kx.refl _ _ | with_reducible refine Kx.below ?_ hbb | with_reducible refine Kx.below ?_ hbc | with_reducible refine Kx.below ?_ (below_new _ _) | with_reducible refine kx_setg ?_ _ _)
      · refine bd_ne bc ?_
        clear qa1 qa2 qb1 qb2 qc1 qc2
        first
          | omega
          | (simp only [World.size_alloc]; omega)
          | (left; show w1.heap.size < (World.alloc w1 _).heap.size; simp)
      · repeat (first | with_reducible exact hbz | with_reducible exact Below.refl _ _ | with_reducible refine Below.drew ?_ | with_reducible exact hka | with_reducible exact hkb | with_reducible exact hkc | with_reducible refine below_alloc1 ?_ _ | with_reducible refine below_set1 ?_ ?_ _ | assumption | exact Nat.le_refl _)
    · go_wp2_with fail
      go_meet
      have ka := SlE.of_own hoa HK1.out.symm
      have kb := SlE.of_own hob HK2.out.symm
      have kc := SlE.of_own hoc HK3.out.symm
      have ba := own_bd hoa
      have bb := own_bd hob
      have bc := own_bd hoc
      refine cutM_mk (ca := ca) (cb := cb) (cc := cc) ?_ ka ?_ ?_ kb ?_ ?_ kc ?_ ?_ ?_
      · exact set4 ((hbc.block _ ybw1).trans ((hbb.block _ yaw1).trans ((hba.block _ (by show w1.heap.size < (World.alloc w1 _).heap.size; simp)).trans (heap_alloc_new w1 _))))
      · repeat (first | with_reducible exact Kx.refl _ _ | with_reducible refine Kx.below ?_ hbb | with_reducible refine Kx.below ?_ hbc | with_reducible refine Kx.below ?_ (below_new _ _) | with_reducible refine kx_setg ?_ _ _)
      · refine bd_ne ba ?_
        clear qa1 qa2 qb1 qb2 qc1 qc2
        first
          | omega
          | (simp only [World.size_alloc]; omega)
          | (left; show w1.heap.size < (World.alloc w1 _).heap.size; simp)
      · repeat (first | with_reducible exact Kx.refl _ _ | with_reducible refine Kx.below ?_ hbb | with_reducible refine Kx.below ?_ hbc | with_reducible refine Kx.below ?_ (below_new _ _) | with_reducible refine kx_setg ?_ _ _)
      · refine bd_ne bb ?_
        clear qa1 qa2 qb1 qb2 qc1 qc2
        first
          | omega
          | (simp only [World.size_alloc]; omega)
          | (left; show w1.heap.size < (World.alloc w1 _).heap.size; simp)
      · repeat (first | with_reducible exact Kx.refl _ _ | with_reducible refine Kx.below ?_ hbb | with_reducible refine Kx.below ?_ hbc | with_reducible refine Kx.below ?_ (below_new _ _) | with_reducible refine kx_setg ?_ _ _)
      · refine bd_ne bc ?_
        clear qa1 qa2 qb1 qb2 qc1 qc2
        first
          | omega
          | (simp only [World.size_alloc]; omega)
          | (left; show w1.heap.size < (World.alloc w1 _).heap.size; simp)
      · repeat (first | with_reducible exact hbz | with_reducible exact Below.refl _ _ | with_reducible refine Below.drew ?_ | with_reducible exact hka | with_reducible exact hkb | with_reducible exact hkc | with_reducible refine below_alloc1 ?_ _ | with_reducible refine below_set1 ?_ ?_ _ | assumption | exact Nat.le_refl _)
  case rest =>
    obtain ⟨g, Aa, Ab, Ac, ca, cb, cc, e6, hx, sa, sb, sc, hbw⟩ := hcut
    subst e6
    obtain ⟨wx, rfl⟩ : ∃ wx : World, wx = wc := ⟨_, rfl⟩
    have P0 := Lib.hid (show Pv w wx A1 L c1 T1 g Aa Ab Ac K1 K2 K3 ca cb cc k1 k2 k3 s from ⟨H1.out.below hbw, hx, sa, sb, sc⟩)
    obtain ⟨r0, r1, r2, r3, r4⟩ := cells4 hx
    clear hx sa sb sc hbw HX1 HY11 HY21 HY31 Hbx hbz H1 hrl
    by_cases hb : tabB T1 = true
    · obtain ⟨m, hok⟩ := tok_of hb
      have Hok := Lib.hid hok
      have Hb := Lib.hid hb
      have hL64 : L ≤ 64 := by rw [← HL.out]; exact Nat.le_trans hok.nm hok.m64
      have hm64 := hok.m64
      have hL1 : 1 ≤ L := by rw [← HL.out]; exact hok.n1
      clear hok hb
      by_cases hF : TotOk T1 m k1 ∧ K2 = L ∧ K3 = m
      · obtain ⟨htot, e2, e3⟩ := hF
        have e1 : K1 = L := by rw [← HK1.out, ← HL.out]; exact htot.1
        obtain rfl : K1 = L := e1
        obtain rfl : K1 = K2 := e2.symm
        obtain rfl : m = K3 := e3.symm
        have Htot := Lib.hid htot
        clear htot
        obtain ⟨pb, hpb⟩ : ∃ pb, (pb = true ↔ PrOk T1 K1 m k1 k2 k3 s) := by
          by_cases h : PrOk T1 K1 m k1 k2 k3 s
          · exact ⟨true, by simp [h]⟩
          · exact ⟨false, by simp [h]⟩
        have Hpb := Lib.hid hpb
        clear hpb
        have Hmp := Lib.hid (show ∀ W, Pv w W A1 K1 c1 T1 g Aa Ab Ac K1 K1 m ca cb cc k1 k2 k3 s → Calls Try.prog 44 #[.slice A1 K1 c1, .agg #[.slice Aa K1 ca, .slice Ab K1 cb, .slice Ac m cc, .int .i64 s]] W fun e w' => e = .returned (.tuple #[.bool pb, .int .i64 0]) ∧ Pv w w' A1 K1 c1 T1 g Aa Ab Ac K1 K1 m ca cb cc k1 k2 k3 s from fun W h =>
          (mProves_any A1 K1 c1 m T1 Aa Ab Ac ca cb cc k1 k2 k3 s W h.tc.rc.slr Hok.out h.sa h.sb h.sc Htot.out).mono fun e w' hh => ⟨by
            rcases hh.1 with ⟨h1, h2⟩ | ⟨h1, h2⟩
            · rw [Hpb.out.2 h1]; exact h2
            · cases pb with
              | true => exact absurd (Hpb.out.1 rfl) h1
              | false => exact h2, h.below hh.2⟩)
        have Hrp := Lib.hid (show ∀ W, Pv w W A1 K1 c1 T1 g Aa Ab Ac K1 K1 m ca cb cc k1 k2 k3 s → Calls Try.prog 45 #[.slice A1 K1 c1, .agg #[.slice Aa K1 ca, .slice Ab K1 cb, .slice Ac m cc, .int .i64 s]] W fun e w' => e = .returned (.bool pb) ∧ Pv w w' A1 K1 c1 T1 g Aa Ab Ac K1 K1 m ca cb cc k1 k2 k3 s from fun W h =>
          (refProves_any A1 K1 c1 m T1 Aa Ab Ac ca cb cc k1 k2 k3 s W h.tc.rc.slr Hok.out h.sa h.sb h.sc Htot.out).mono fun e w' hh => ⟨by
            rcases hh.1 with ⟨h1, h2⟩ | ⟨h1, h2⟩
            · rw [Hpb.out.2 h1]; exact h2
            · cases pb with
              | true => exact absurd (Hpb.out.1 rfl) h1
              | false => exact h2, h.below hh.2⟩)
        go_wp2_with fail
        refine (Hmp.out _ P0.out).mono ?_
        rintro e w2 ⟨rfl, p2⟩
        have P2 := Lib.hid p2
        clear p2 r0 r1 r2 r3 r4
        go_wp2_with fail
        refine (refCheck_any A1 K1 c1 T1 _ P2.out.tc.rc.slr (by omega) P2.out.tc.rc.rowle).mono ?_
        rw [if_pos Hb.out]
        rintro e w3 ⟨rfl, hq3⟩
        have P3 := Lib.hid (P2.out.below hq3.below)
        clear hq3
        obtain ⟨r0, r1, r2, r3, r4⟩ := cells4 P3.out.x
        go_wp2_with fail
        refine (refTotal_any A1 K1 c1 m T1 Aa K1 ca k1 _ P3.out.tc.rc.slr Hok.out P3.out.sa (by omega)).mono ?_
        rintro e w4 ⟨⟨_, rfl⟩ | ⟨hno, _⟩, hq4⟩
        rotate_left
        · exact absurd Htot.out hno
        obtain ⟨t, ht⟩ : ∃ t, totS T1 k1 K1 = t := ⟨_, rfl⟩
        rw [ht]
        have P4 := Lib.hid (P3.out.below hq4.below)
        clear hq4 ht r0 r1 r2 r3 r4
        obtain ⟨r0, r1, r2, r3, r4⟩ := cells4 P4.out.x
        obtain ⟨b, o, A0, c0, rfl, hh⟩ := P4.out.tc.rc.slr.head (by omega)
        rw [Hok.out.wid] at hh
        have g1 : ((K1 : Int) != (K1 : Int)) = false := by simp
        have g2 : ((m : Int) != (m : Int)) = false := by simp
        go_wp2_with fail
        go_quiet (fail)
        rename_i nq
        have P5 := Lib.hid (show Pv w (w4.drewN nq) _ K1 c1 T1 g Aa Ab Ac K1 K1 m ca cb cc k1 k2 k3 s from P4.out.below (Qt.below ⟨nq, rfl⟩))
        clear r0 r1 r2 r3 r4 hh g1 g2
        generalize w4.drewN nq = w5 at *
        obtain ⟨r0, r1, r2, r3, r4⟩ := cells4 P5.out.x
        go_wp2_with fail
        refine (Hrp.out _ P5.out).mono ?_
        rintro e w6 ⟨rfl, p6⟩
        have P6 := Lib.hid p6
        have g1 : (pb == pb) = true := by simp
        clear p6 r0 r1 r2 r3 r4
        go_wp2_with fail
        refine (lives_T w _ K1 c1 T1 _ P6.out.tc).mono ?_
        rintro e w8 ⟨rfl, h8⟩
        have Hf := Lib.hid (hR.out (.returned (.bool true)) w8 ⟨rfl, h8.bel⟩)
        clear h8
        go_wp2
        exact Hf.out
      · have HF := Lib.hid hF
        clear hF
        go_wp2_with fail
        refine (mProves_form A1 L c1 m T1 Aa Ab Ac K1 K2 K3 ca cb cc k1 s _ P0.out.tc.rc.slr Hok.out P0.out.sa (by omega) HF.out).mono ?_
        rintro e w2 ⟨rfl, hb2⟩
        have P2 := Lib.hid (P0.out.below hb2)
        clear hb2 r0 r1 r2 r3 r4
        go_wp2_with fail
        refine (refCheck_any A1 L c1 T1 _ P2.out.tc.rc.slr (by omega) P2.out.tc.rc.rowle).mono ?_
        rw [if_pos Hb.out]
        rintro e w3 ⟨rfl, hq3⟩
        have P3 := Lib.hid (P2.out.below hq3.below)
        clear hq3
        obtain ⟨r0, r1, r2, r3, r4⟩ := cells4 P3.out.x
        go_wp2_with fail
        refine (refTotal_any A1 L c1 m T1 Aa K1 ca k1 _ P3.out.tc.rc.slr Hok.out P3.out.sa (by omega)).mono ?_
        rintro e w4 ⟨hcase, hq4⟩
        have P4 := Lib.hid (P3.out.below hq4.below)
        clear hq4 r0 r1 r2 r3 r4
        obtain ⟨r0, r1, r2, r3, r4⟩ := cells4 P4.out.x
        obtain ⟨b, o, A0, c0, rfl, hh⟩ := P4.out.tc.rc.slr.head (by omega)
        rw [Hok.out.wid] at hh
        have Hend := Lib.hid (show ∀ q, Calls Try.prog 24 #[] (w4.drewN q) fun e w' => e = .returned (.bool true) ∧ R (.returned (.bool true)) w' from fun q =>
          (lives_T w _ L c1 T1 _ (P4.out.below (Qt.below ⟨q, rfl⟩)).tc).mono fun e w' hh => ⟨hh.1, hR.out _ _ ⟨rfl, hh.2.bel⟩⟩)
        rcases hcase with ⟨htot, rfl⟩ | ⟨htot, rfl⟩
        · obtain ⟨t, ht⟩ : ∃ t, totS T1 k1 L = t := ⟨_, rfl⟩
          rw [ht]
          by_cases hL2 : K2 = L
          · have hL3 : ¬ K3 = m := fun h => HF.out ⟨htot, hL2, h⟩
            have g1 : ((K2 : Int) != (L : Int)) = false := by simp [hL2]
            have g2 : ((K3 : Int) != (m : Int)) = true := by simp; omega
            clear htot hL2 hL3 ht
            go_wp2_with fail
            go_quiet (fail)
            go_wp2_with fail
            refine (Hend.out _).mono ?_
            rintro e w6 ⟨rfl, h6⟩
            go_wp2
            exact h6
          · have g1 : ((K2 : Int) != (L : Int)) = true := by simp; omega
            clear htot hL2 ht
            go_wp2_with fail
            go_quiet (fail)
            go_wp2_with fail
            refine (Hend.out _).mono ?_
            rintro e w6 ⟨rfl, h6⟩
            go_wp2
            exact h6
        · clear htot
          go_wp2_with fail
          go_quiet (fail)
          go_wp2_with fail
          refine (Hend.out _).mono ?_
          rintro e w6 ⟨rfl, h6⟩
          go_wp2
          exact h6
    · have hb' : tabB T1 = false := by simpa using hb
      have Hb := Lib.hid hb'
      have hL66 := P0.out.tc.l66
      clear hb hb'
      go_wp2_with fail
      refine (mProves_no A1 L c1 T1 Aa Ab Ac K1 K2 K3 ca cb cc s _ P0.out.tc.rc.slr (by omega) P0.out.tc.rc.rowle Hb.out).mono ?_
      rintro e w2 ⟨rfl, hb2⟩
      have P2 := Lib.hid (P0.out.below hb2)
      clear hb2 r0 r1 r2 r3 r4
      go_wp2_with fail
      refine (refCheck_noT w A1 L c1 T1 _ P2.out.tc Hb.out).mono ?_
      rintro e w3 ⟨rfl, h3⟩
      have H3 := Lib.hid h3
      clear h3
      go_wp2_with fail
      refine (lives_T w A1 L c1 T1 _ H3.out).mono ?_
      rintro e w6 ⟨rfl, h6⟩
      have Hf := Lib.hid (hR.out (.returned (.bool true)) w6 ⟨rfl, h6.bel⟩)
      clear h6
      go_wp2
      exact Hf.out
end Go.Proofs.Ytjdhcdoekfikpaa
