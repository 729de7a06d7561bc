/-
  Contract of slices.symMergeCmpFunc with kruskal's comparison: two neighbouring rising parts become one; conditions: the parts lie where the numbers say, none is empty, of as light ones the first part's have the lower numbers.
-/
import Derived.Test.YtgmphiklkllnlaaTSy2
import Derived.Deep.DeepCutAuto
namespace Go.Proofs.Ytgmphiklkllnlaa
open Go.RowKit
/-- The contract, for parts of at most so many elements. -/
def SymAt (L : List Lk) (A : Option Addr) (n c bl g N cap F : Nat) : Prop := ∀ (P X Y Q : List Int) (w : World) (a m b : Nat), X.length + Y.length ≤ F → Srt w L A n c bl g → Blk w g (P ++ (X ++ (Y ++ Q))) → P.length = a → a + X.length = m → m + Y.length = b →
  N = (P ++ (X ++ (Y ++ Q))).length → X ≠ [] → Y ≠ [] → (∀ z ∈ X ++ Y, 0 ≤ z ∧ z < n) → Ris L X → Ris L Y → (∀ x ∈ X, ∀ y ∈ Y, lkW L x = lkW L y → x < y) →
  Calls Try.prog 88 #[.slice (some ⟨g, 0, none⟩) N cap, .int .i64 (a : Nat), .int .i64 (m : Nat), .int .i64 (b : Nat), .func (.func 71) #[] #[.pointer (some ⟨bl, 0, none⟩)]] w
    fun e w' => e = .returned (.tuple #[]) ∧ ∃ r, Ris L r ∧ r.Perm (X ++ Y) ∧ Blk w' g (P ++ (r ++ Q)) ∧ Kx (fun j => j = g) w w'
structure BinC (L : List Lk) (X Y : List Int) (a d st0 r0 s r : Nat) : Prop where
  lo : ∀ x y, st0 < s → X[s - 1 - a]? = some x → Y[d - s]? = some y → klt L x y
  hi : ∀ x y, r < r0 → X[r - a]? = some x → Y[d - 1 - r]? = some y → lkW L y < lkW L x
structure BinR (a m b d st0 r0 : Nat) : Prop where
  s1 : a ≤ st0
  s2 : st0 ≤ r0
  r1 : r0 ≤ m
  r2 : r0 ≤ d
  s3 : st0 = a ∨ d + m = b + st0
  r3 : r0 = m ∨ r0 = d
  s4 : d + m ≤ b + st0
/-- Where the search ends, the four parts stand crosswise. -/
theorem BinC.four {L : List Lk} {X Y : List Int} {a m b d st0 r0 t : Nat} (h : BinC L X Y a d st0 r0 t t) (hR : BinR a m b d st0 r0) (ht1 : st0 ≤ t) (ht2 : t ≤ r0) (hx : a + X.length = m) (hy : m + Y.length = b) (hX : Ris L X) (hY : Ris L Y) :
    ∃ L1 L2 R1 R2, X = L1 ++ L2 ∧ Y = R1 ++ R2 ∧ a + L1.length = t ∧ t + R1.length = d ∧ (∀ x ∈ L1, ∀ y ∈ R2, klt L x y) ∧ (∀ x ∈ R1, ∀ y ∈ L2, klt L x y) := by
  obtain ⟨s1, s2, r1, r2, s3, r3, s4⟩ := hR
  obtain ⟨L1, L2, hXe, hL1⟩ := cut_at X (k := t - a) (by omega)
  obtain ⟨R1, R2, hYe, hR1⟩ := cut_at Y (k := d - t) (by omega)
  rw [hXe] at hX
  rw [hYe] at hY
  have hxl : L1.length + L2.length = X.length := by rw [hXe, List.length_append]
  have hyl : R1.length + R2.length = Y.length := by rw [hYe, List.length_append]
  refine ⟨L1, L2, R1, R2, hXe, hYe, by omega, by omega, hX.app.1.cross hY.app.2.1 (fun x y hx' hy' => ?_), hY.app.1.cross hX.app.2.1 (fun x y hx' hy' => ?_)⟩
  · obtain ⟨l1, l2⟩ := last_get hx'
    have h2 := head_get hy'
    have h2l := (List.getElem?_eq_some_iff.1 h2).1
    refine h.lo x y (by omega) ?_ ?_
    · rw [hXe, List.getElem?_append_left (by omega), show t - 1 - a = L1.length - 1 by omega]; exact l2
    · rw [hYe, List.getElem?_append_right (by omega), show d - t - R1.length = 0 by omega]; exact h2
  · obtain ⟨l1, l2⟩ := last_get hx'
    have h2 := head_get hy'
    have h2l := (List.getElem?_eq_some_iff.1 h2).1
    left
    refine h.hi y x (by omega) ?_ ?_
    · rw [hXe, List.getElem?_append_right (by omega), show t - a - L1.length = 0 by omega]; exact h2
    · rw [hYe, List.getElem?_append_left (by omega), show d - 1 - t = R1.length - 1 by omega]; exact l2
set_option maxRecDepth 8000 in
set_option maxHeartbeats 8000000 in
theorem sym3_any (L : List Lk) (A : Option Addr) (n c bl g N cap F : Nat) (hIH : SymAt L A n c bl g N cap F) (hNs : N ≤ 100000) (hcap : N ≤ cap) (a m b : Nat) (P X Y Q : List Int) (w : World) (hF : X.length + Y.length ≤ F + 1) (hS : Srt w L A n c bl g) (hB : Blk w g (P ++ (X ++ (Y ++ Q))))
    (ha : P.length = a) (hm : a + X.length = m) (hb : m + Y.length = b) (hN : N = (P ++ (X ++ (Y ++ Q))).length) (hX2 : 2 ≤ X.length) (hY2 : 2 ≤ Y.length) (hv : ∀ z ∈ X ++ Y, 0 ≤ z ∧ z < n) (hX : Ris L X) (hY : Ris L Y) (hxy : ∀ x ∈ X, ∀ y ∈ Y, lkW L x = lkW L y → x < y) :
    Calls Try.prog 88 #[.slice (some ⟨g, 0, none⟩) N cap, .int .i64 (a : Nat), .int .i64 (m : Nat), .int .i64 (b : Nat), .func (.func 71) #[] #[.pointer (some ⟨bl, 0, none⟩)]] w
      fun e w' => e = .returned (.tuple #[]) ∧ ∃ r, Ris L r ∧ r.Perm (X ++ Y) ∧ Blk w' g (P ++ (r ++ Q)) ∧ Kx (fun j => j = g) w w' := by
  refine calls_cps ?_
  intro R hR
  have hlen : b + Q.length = N := by rw [hN, ← hb, ← hm, ← ha]; simp; omega
  have HS := Lib.hid hS
  have HB := Lib.hid hB
  have Hv := Lib.hid hv
  have Hr := Lib.hid (And.intro hX hY)
  have Hxy := Lib.hid hxy
  have Ha := Lib.hid ha
  have HIH := Lib.hid hIH
  have HN := Lib.hid hN
  obtain ⟨xl, hxl⟩ : ∃ xl, X.length = xl := ⟨_, rfl⟩
  obtain ⟨yl, hyl⟩ : ∃ yl, Y.length = yl := ⟨_, rfl⟩
  rw [hxl] at hm hX2 hF
  rw [hyl] at hb hY2 hF
  have Hl := Lib.hid (And.intro hxl hyl)
  clear hS hB hv hX hY hxy ha hxl hyl hN hIH
  obtain ⟨d, hd⟩ : ∃ d, (a + b) / 2 = d := ⟨_, rfl⟩
  have ed : ((a : Int) + (b : Int)) / 2 = (d : Int) := by omega
  go_enter Try.func88, Try.ntmps88
  have e1 : ((m : Int) - (a : Int) == 1) = false := by simp; omega
  have e2 : ((b : Int) - (m : Int) == 1) = false := by simp; omega
  go_upto_if 140 with fail
  go_cut [20, 21] (fun s20 s21 wx => ∃ st0 r0 : Nat, s20 = .int .i64 (st0 : Nat) ∧ s21 = .int .i64 (r0 : Nat) ∧ BinR a m b d st0 r0 ∧ wx = w)
  case first =>
    by_cases hmd : d < m
    · have i1 : (d : Int) < (m : Int) := by omega
      go_wp2_with fail
      go_meet
      exact ⟨d + m - b, d, by congr 1; omega, rfl, ⟨by omega, by omega, by omega, by omega, by omega, by omega, by omega⟩, rfl⟩
    · have i1 : ¬ (d : Int) < (m : Int) := by omega
      go_wp2_with fail
      go_meet
      exact ⟨a, m, rfl, rfl, ⟨by omega, by omega, by omega, by omega, by omega, by omega, by omega⟩, rfl⟩
  case rest =>
    obtain ⟨st0, r0, rfl, rfl, hBR, rfl⟩ := hcut
    have HBR := Lib.hid hBR
    have hb1 := hBR.s1
    have hb2 := hBR.s2
    have hb3 := hBR.r1
    have hb4 := hBR.r2
    have hb6 := hBR.s4
    obtain ⟨w, rfl⟩ : ∃ w : World, w = wc := ⟨_, rfl⟩
    clear hBR
    go_wp2_with fail
    go_loopw [20, 21] (fun s20 s21 wr => ∃ (s r : Nat), s20 = .int .i64 (s : Nat) ∧ s21 = .int .i64 (r : Nat) ∧ st0 ≤ s ∧ s ≤ r ∧ r ≤ r0 ∧ Hid (BinC L X Y a d st0 r0 s r) ∧ Qt w wr) (fun i j _ => (intOf j).toNat - (intOf i).toNat)
    case atStart => exact ⟨st0, r0, rfl, rfl, Nat.le_refl _, hb2, Nat.le_refl _, Lib.hid ⟨fun x y h => absurd h (Nat.lt_irrefl _), fun x y h => absurd h (Nat.lt_irrefl _)⟩, Qt.refl _⟩
    case round =>
      obtain ⟨s, r, rfl, rfl, hs, hsr, hr, HI, q, rfl⟩ := hrel
      by_cases hlt : s < r
      · obtain ⟨h, hh⟩ : ∃ h, (s + r) / 2 = h := ⟨_, rfl⟩
        have h1 : s ≤ h := by omega
        have h2 : h < r := by omega
        have eh : ((s : Int) + (r : Int)) / 2 = (h : Int) := by omega
        obtain ⟨x, hx⟩ : ∃ x, X[h - a]? = some x := ⟨_, List.getElem?_eq_getElem (by rw [Hl.out.1]; omega)⟩
        obtain ⟨y, hy⟩ : ∃ y, Y[d - 1 - h]? = some y := ⟨_, List.getElem?_eq_getElem (by rw [Hl.out.2]; omega)⟩
        obtain ⟨k, hk⟩ : ∃ k, m + (d - 1 - h) = k := ⟨_, rfl⟩
        have ek : (d : Int) + (m : Int) - 1 - (h : Int) = (k : Int) := by omega
        have hxm : x ∈ X := List.mem_of_getElem? hx
        have hym : y ∈ Y := List.mem_of_getElem? hy
        have hSo : Srt (w.drewN q) L A n c bl g := HS.out.kx ((Kx.refl _ _).drewN q)
        have c0 : (w.drewN q).cell? ⟨g, h, none⟩ = some (.int .i64 x) := HB.out.cell (by
          rw [show h = P.length + (h - a) by rw [Ha.out]; omega]
          exact part_get hx)
        have c1 : (w.drewN q).cell? ⟨g, k, none⟩ = some (.int .i64 y) := HB.out.cell (by
          have e : P ++ (X ++ (Y ++ Q)) = (P ++ X) ++ (Y ++ Q) := by simp
          rw [e, show k = (P ++ X).length + (d - 1 - h) by rw [List.length_append, Ha.out, Hl.out.1]; omega]
          exact part_get hy)
        obtain ⟨wo, hwo⟩ : ∃ wo, w.drewN q = wo := ⟨_, rfl⟩
        rw [hwo] at hSo c0 c1 ⊢
        have Hc := Lib.hid (hSo.cmp (Hv.out y (List.mem_append_right _ hym)) (Hv.out x (List.mem_append_left _ hxm)))
        have Hwo := Lib.hid hwo
        have hw1 := lkW_bd HS.out.ok x
        have hw2 := lkW_bd HS.out.ok y
        obtain ⟨wx, hwx⟩ : ∃ z, lkW L x = z := ⟨_, rfl⟩
        obtain ⟨wy, hwy⟩ : ∃ z, lkW L y = z := ⟨_, rfl⟩
        have Hxy2 := Lib.hid (Hxy.out x hxm y hym)
        rw [hwx] at hw1 Hc
        rw [hwy] at hw2 Hc
        have i1 : (s : Int) < (r : Int) := by omega
        have k1 : (h : Int) < (N : Int) := by omega
        have k0 : (0 : Int) ≤ (h : Int) := by omega
        have k3 : (k : Int) < (N : Int) := by omega
        have k2 : (0 : Int) ≤ (k : Int) := by omega
        have Hx := Lib.hid (And.intro hx hy)
        have Hw := Lib.hid (And.intro hwx hwy)
        clear hx hy hwx hwy hxm hym hSo hwo hk
        by_cases hcw : wy - wx < 0
        · have hcd : decide (wy - wx < 0) = true := by simp [hcw]
          have HI2 := Lib.hid (show BinC L X Y a d st0 r0 s h from ⟨HI.out.lo, fun x' y' _ hx' hy' => by
            rw [Hx.out.1] at hx'
            rw [Hx.out.2] at hy'
            injection hx' with hx'
            injection hy' with hy'
            rw [← hx', ← hy', Hw.out.1, Hw.out.2]; omega⟩)
          go_wp2_with fail
          go_quiet ((first | (go_at_call 71; exact Hc.out _) | exact Hc.out _))
          clear c0 c1 hcd
          go_wp2_with fail
          exact ⟨⟨s, h, by go_num, by go_num, by omega, by omega, by omega, HI2, q + nq, by rw [← Hwo.out]; exact World.drewN_drewN _ _ _⟩, by simp [intOf]; omega⟩
        · have hcd : decide (wy - wx < 0) = false := by simp; omega
          have HI2 := Lib.hid (show BinC L X Y a d st0 r0 (h + 1) r from ⟨fun x' y' _ hx' hy' => by
            rw [show h + 1 - 1 - a = h - a by omega, Hx.out.1] at hx'
            rw [show d - (h + 1) = d - 1 - h by omega, Hx.out.2] at hy'
            injection hx' with hx'
            injection hy' with hy'
            have := Hxy2.out
            rw [← hx', ← hy']
            rw [Hw.out.1, Hw.out.2] at this
            unfold klt
            rw [Hw.out.1, Hw.out.2]
            omega, HI.out.hi⟩)
          go_wp2_with fail
          go_quiet ((first | (go_at_call 71; exact Hc.out _) | exact Hc.out _))
          clear c0 c1 hcd
          go_wp2_with fail
          exact ⟨⟨h + 1, r, by go_num, by go_num, by omega, by omega, hr, HI2, q + nq, by rw [← Hwo.out]; exact World.drewN_drewN _ _ _⟩, by simp [intOf]; omega⟩
      · obtain rfl : s = r := by omega
        obtain ⟨L1, L2, R1, R2, hXe, hYe, hL1, hR1, hc1, hc2⟩ := HI.out.four HBR.out hs hr (by rw [Hl.out.1]; exact hm) (by rw [Hl.out.2]; exact hb) Hr.out.1 Hr.out.2
        subst hXe
        subst hYe
        have hL2 : s + L2.length = m := by have := Hl.out.1; rw [List.length_append] at this; omega
        obtain ⟨e, he⟩ : ∃ e, m + R1.length = e := ⟨_, rfl⟩
        have hR2 : e + R2.length = b := by have := Hl.out.2; rw [List.length_append] at this; omega
        have hde : d + L2.length = e := by omega
        have ee : (d : Int) + (m : Int) - (s : Int) = (e : Int) := by omega
        obtain ⟨w0, hw0⟩ : ∃ w0, w.drewN q = w0 := ⟨_, rfl⟩
        have hk0 : Kx (fun j => j = g) w w0 := by rw [← hw0]; exact (Kx.refl _ _).drewN q
        have hB0 : Blk w0 g (P ++ (L1 ++ (L2 ++ (R1 ++ (R2 ++ Q))))) := by have := HB.out; rw [List.append_assoc, List.append_assoc] at this; rw [← hw0]; exact this
        rw [hw0]
        have Hk0 := Lib.hid hk0
        have HB0 := Lib.hid hB0
        have Hcr := Lib.hid (And.intro hc1 hc2)
        have hNl : N = (P ++ (L1 ++ (L2 ++ (R1 ++ (R2 ++ Q))))).length := by rw [HN.out]; simp
        have HNl := Lib.hid hNl
        have Hst := Lib.hid (show (∀ x ∈ L1, ∀ y ∈ R1, lkW L x = lkW L y → x < y) ∧ ∀ x ∈ L2, ∀ y ∈ R2, lkW L x = lkW L y → x < y from ⟨fun x hx y hy => Hxy.out x (List.mem_append_left _ hx) y (List.mem_append_left _ hy), fun x hx y hy => Hxy.out x (List.mem_append_right _ hx) y (List.mem_append_right _ hy)⟩)
        clear HI HBR Hxy hk0 hB0 hw0 HB hc1 hc2 hNl HN hs hr
        have hvs : (∀ z ∈ L1 ++ R1, 0 ≤ z ∧ z < n) ∧ ∀ z ∈ L2 ++ R2, 0 ≤ z ∧ z < n := ⟨fun z hz => Hv.out z (by
          rcases List.mem_append.1 hz with h | h
          · simp [h]
          · simp [h]), fun z hz => Hv.out z (by
          rcases List.mem_append.1 hz with h | h
          · simp [h]
          · simp [h])⟩
        have Hvs := Lib.hid hvs
        clear hvs Hv
        as_aux_lemma =>
          go_upto_region 39 with fail
          go_cut [24, 185] (fun s24 sk wx => s24 = .int .i64 (e : Nat) ∧ sk = .bool (decide (s < m) && decide (m < e)) ∧ wx = w0)
          case first =>
            by_cases p1 : s < m
            · have i1 : (s : Int) < (m : Int) := by omega
              by_cases p2 : m < e
              · have i2 : (m : Int) < (e : Int) := by omega
                go_wp2_with fail
                go_meet
                exact ⟨rfl, by simp [p1, p2], rfl⟩
              · have i2 : ¬ (m : Int) < (e : Int) := by omega
                go_wp2_with fail
                go_meet
                exact ⟨rfl, by simp [p1, p2], rfl⟩
            · have i1 : ¬ (s : Int) < (m : Int) := by omega
              go_wp2_with fail
              go_meet
              exact ⟨rfl, by simp [p1], rfl⟩
          case rest =>
            obtain ⟨rfl, rfl, rfl⟩ := hcut
            obtain ⟨w0, rfl⟩ : ∃ w0 : World, w0 = wc := ⟨_, rfl⟩
            obtain ⟨bb, hbb⟩ : ∃ bb, (decide (s < m) && decide (m < e)) = bb := ⟨_, rfl⟩
            rw [hbb]
            go_upto_if 185 with fail
            go_cut [24] (fun s24 wx => s24 = .int .i64 (e : Nat) ∧ Hid (Blk wx g (P ++ (L1 ++ (R1 ++ (L2 ++ (R2 ++ Q)))))) ∧ Kx (fun j => j = g) w wx)
            case first =>
              by_cases hsm : s < m
              · have i1 : (s : Int) < (m : Int) := by omega
                by_cases hme : m < e
                · obtain rfl : bb = true := by rw [← hbb]; simp [hsm, hme]
                  have hro := rotate_any g s m e N cap (.func (.func 71) #[] #[.pointer (some ⟨bl, 0, none⟩)]) (P ++ L1) L2 R1 (R2 ++ Q) w0 (by rw [List.append_assoc]; exact HB0.out) (by rw [List.length_append, Ha.out]; exact hL1) hL2 he (by rw [HNl.out]; simp) hNs hcap (fun h => by rw [h] at hL2; simp at hL2; omega) (fun h => by rw [h] at he; simp at he; omega)
                  have Hro := Lib.hid hro
                  clear hro
                  go_wp2_with (go_at_call 95; refine Hro.out.mono ?_; rintro e5 w2 ⟨rfl, hb2, hk2⟩; have Hb2 := Lib.hid hb2; have Hk2 := Lib.hid (Hk0.out.trans hk2 (fun _ _ h => h)); clear hb2 hk2)
                  go_meet
                  exact ⟨rfl, Lib.hid (by have := Hb2.out; rw [List.append_assoc] at this; exact this), Hk2.out⟩
                · obtain rfl : bb = false := by rw [← hbb]; simp [hme]
                  have hz : R1 = [] := List.length_eq_zero_iff.1 (by omega)
                  have Hb2 := Lib.hid (show Blk w0 g (P ++ (L1 ++ (R1 ++ (L2 ++ (R2 ++ Q))))) from by have := HB0.out; rw [hz] at this ⊢; exact this)
                  clear hz
                  go_wp2_with fail
                  go_meet
                  exact ⟨rfl, Hb2, Hk0.out⟩
              · obtain rfl : bb = false := by rw [← hbb]; simp [hsm]
                have hz : L2 = [] := List.length_eq_zero_iff.1 (by omega)
                have Hb2 := Lib.hid (show Blk w0 g (P ++ (L1 ++ (R1 ++ (L2 ++ (R2 ++ Q))))) from by have := HB0.out; rw [hz] at this ⊢; exact this)
                clear hz
                go_wp2_with fail
                go_meet
                exact ⟨rfl, Hb2, Hk0.out⟩
            case rest =>
              obtain ⟨rfl, HB1, hk1⟩ := hcut
              obtain ⟨w1, rfl⟩ : ∃ w1 : World, w1 = wc := ⟨_, rfl⟩
              have Hk1 := Lib.hid hk1
              clear HB0 Hk0 hk1
              as_aux_lemma =>
                go_upto_region 41 with fail
                go_cut [24, 199] (fun s24 sk wx => s24 = .int .i64 (e : Nat) ∧ sk = .bool (decide (a < s) && decide (s < d)) ∧ wx = w1)
                case first =>
                  by_cases p1 : a < s
                  · have i1 : (a : Int) < (s : Int) := by omega
                    by_cases p2 : s < d
                    · have i2 : (s : Int) < (d : Int) := by omega
                      go_wp2_with fail
                      go_meet
                      exact ⟨rfl, by simp [p1, p2], rfl⟩
                    · have i2 : ¬ (s : Int) < (d : Int) := by omega
                      go_wp2_with fail
                      go_meet
                      exact ⟨rfl, by simp [p1, p2], rfl⟩
                  · have i1 : ¬ (a : Int) < (s : Int) := by omega
                    go_wp2_with fail
                    go_meet
                    exact ⟨rfl, by simp [p1], rfl⟩
                case rest =>
                  obtain ⟨rfl, rfl, rfl⟩ := hcut
                  obtain ⟨w1, rfl⟩ : ∃ w1 : World, w1 = wc := ⟨_, rfl⟩
                  obtain ⟨bb, hbb⟩ : ∃ bb, (decide (a < s) && decide (s < d)) = bb := ⟨_, rfl⟩
                  rw [hbb]
                  go_upto_if 199 with fail
                  go_cut [24] (fun s24 wx => s24 = .int .i64 (e : Nat) ∧ (∃ M1, Hid (Ris L M1 ∧ M1.Perm (L1 ++ R1) ∧ Blk wx g (P ++ (M1 ++ (L2 ++ (R2 ++ Q)))))) ∧ Kx (fun j => j = g) w wx)
                  case first =>
                    have Hno := Lib.hid (show L1 = [] ∨ R1 = [] → ∃ M1, Hid (Ris L M1 ∧ M1.Perm (L1 ++ R1) ∧ Blk w1 g (P ++ (M1 ++ (L2 ++ (R2 ++ Q))))) from fun h => ⟨L1 ++ R1, Lib.hid ⟨by
                      rcases h with h | h
                      · rw [h]; exact Hr.out.2.app.1
                      · rw [h, List.append_nil]; exact Hr.out.1.app.1, List.Perm.refl _, by rw [List.append_assoc]; exact HB1.out⟩⟩)
                    by_cases has : a < s
                    · have i1 : (a : Int) < (s : Int) := by omega
                      by_cases hsd : s < d
                      · obtain rfl : bb = true := by rw [← hbb]; simp [has, hsd]
                        have hro := HIH.out P L1 R1 (L2 ++ (R2 ++ Q)) w1 a s d (by omega) (HS.out.kx Hk1.out) HB1.out Ha.out hL1 hR1 (by rw [HNl.out]; simp; omega) (fun h => by rw [h] at hL1; simp at hL1; omega) (fun h => by rw [h] at hR1; simp at hR1; omega) Hvs.out.1 Hr.out.1.app.1 Hr.out.2.app.1 Hst.out.1
                        have Hro := Lib.hid hro
                        clear hro
                        go_wp2_with (go_at_call 88; refine Hro.out.mono ?_; rintro e5 w2 ⟨rfl, M1, hm1, hm2, hm3, hk2⟩; have Hm := Lib.hid (And.intro hm1 (And.intro hm2 hm3)); have Hk2 := Lib.hid (Hk1.out.trans hk2 (fun _ _ h => h)); clear hm1 hm2 hm3 hk2)
                        go_meet
                        exact ⟨rfl, ⟨M1, Hm⟩, Hk2.out⟩
                      · obtain rfl : bb = false := by rw [← hbb]; simp [hsd]
                        have Hn := Lib.hid (Hno.out (.inr (List.length_eq_zero_iff.1 (by omega))))
                        go_wp2_with fail
                        go_meet
                        exact ⟨rfl, Hn.out, Hk1.out⟩
                    · obtain rfl : bb = false := by rw [← hbb]; simp [has]
                      have Hn := Lib.hid (Hno.out (.inl (List.length_eq_zero_iff.1 (by omega))))
                      go_wp2_with fail
                      go_meet
                      exact ⟨rfl, Hn.out, Hk1.out⟩
                  case rest =>
                    clear HB1 Hk1
                    obtain ⟨rfl, ⟨M1, HM⟩, hk1⟩ := hcut
                    obtain ⟨w2, rfl⟩ : ∃ w2 : World, w2 = wc := ⟨_, rfl⟩
                    have Hk1 := Lib.hid hk1
                    have hml : M1.length + a = d := by have := HM.out.2.1.length_eq; rw [List.length_append] at this; omega
                    have Hml := Lib.hid hml
                    clear hk1 hml
                    have Hfin := Lib.hid (show ∀ W M2, Ris L M2 → M2.Perm (L2 ++ R2) → Blk W g (P ++ (M1 ++ (M2 ++ Q))) → Kx (fun j => j = g) w W → R (.returned (.tuple #[])) W from fun W M2 h1 h2 h3 h4 => by
                      obtain ⟨k1, k2⟩ := Ris.four Hr.out.1 Hr.out.2 Hcr.out.1 Hcr.out.2 HM.out.1 h1 HM.out.2.1 h2
                      exact hR.out _ W ⟨rfl, M1 ++ M2, k1, k2, by rw [List.append_assoc]; exact h3, h4⟩)
                    have Hno := Lib.hid (show L2 = [] ∨ R2 = [] → R (.returned (.tuple #[])) w2 from fun h => Hfin.out w2 (L2 ++ R2) (by
                      rcases h with h | h
                      · rw [h]; exact Hr.out.2.app.2.1
                      · rw [h, List.append_nil]; exact Hr.out.1.app.2.1) (List.Perm.refl _) (by rw [List.append_assoc]; exact HM.out.2.2) Hk1.out)
                    clear hR
                    as_aux_lemma =>
                      by_cases hde2 : d < e
                      · have i1 : (d : Int) < (e : Int) := by omega
                        by_cases heb : e < b
                        · have i2 : (e : Int) < (b : Int) := by omega
                          have hro := HIH.out (P ++ M1) L2 R2 Q w2 d e b (by omega) (HS.out.kx Hk1.out) (by rw [List.append_assoc]; exact HM.out.2.2) (by rw [List.length_append, Ha.out, ← Hml.out]; omega) hde hR2 (by have := HM.out.2.1.length_eq; rw [List.length_append] at this; rw [HNl.out]; simp; omega) (fun h => by rw [h] at hde; simp at hde; omega) (fun h => by rw [h] at hR2; simp at hR2; omega) Hvs.out.2 Hr.out.1.app.2.1 Hr.out.2.app.2.1 Hst.out.2
                          have Hro := Lib.hid hro
                          clear hro Hno
                          go_wp2_with (go_at_call 88; refine Hro.out.mono ?_; rintro e5 w3 ⟨rfl, M2, hm1, hm2, hm3, hk2⟩; have Hf := Lib.hid (Hfin.out w3 M2 hm1 hm2 (by rw [List.append_assoc] at hm3; exact hm3) (Hk1.out.trans hk2 (fun _ _ h => h))); clear hm1 hm2 hm3 hk2)
                          go_end0
                          exact Hf.out
                        · have i2 : ¬ (e : Int) < (b : Int) := by omega
                          have Hf := Lib.hid (Hno.out (.inr (List.length_eq_zero_iff.1 (by omega))))
                          clear Hno Hfin
                          go_wp2_with fail
                          go_end0
                          exact Hf.out
                      · have i1 : ¬ (d : Int) < (e : Int) := by omega
                        have Hf := Lib.hid (Hno.out (.inl (List.length_eq_zero_iff.1 (by omega))))
                        clear Hno Hfin
                        go_wp2_with fail
                        go_end0
                        exact Hf.out
/-- The contract for all parts. -/
theorem sym_any (L : List Lk) (A : Option Addr) (n c bl g N cap : Nat) (hNs : N ≤ 100000) (hcap : N ≤ cap) : ∀ F, SymAt L A n c bl g N cap F
  | 0 => fun P X Y Q w a m b hF _ _ _ _ _ _ hX _ _ _ _ _ => absurd (List.length_eq_zero_iff.1 (by omega)) hX
  | F + 1 => fun P X Y Q w a m b hF hS hB ha hm hb hN hX hY hv hrX hrY hxy => by
    have hXl : 0 < X.length := List.length_pos_iff.2 hX
    have hYl : 0 < Y.length := List.length_pos_iff.2 hY
    by_cases h1 : X.length = 1
    · obtain ⟨x, rfl⟩ := List.length_eq_one_iff.1 h1
      exact (sym1_any L A n c bl g a m b N cap P Y Q x w hS hB ha hm hb hN hNs hcap (fun z hz => hv z (by simpa using hz)) hrY (fun y hy => hxy x (by simp) y hy)).mono fun e w' h => h
    · by_cases h2 : Y.length = 1
      · obtain ⟨y, rfl⟩ := List.length_eq_one_iff.1 h2
        exact sym2_any L A n c bl g a m b N cap P X Q y w hS hB ha hm hb hN hNs hcap (by omega) (fun z hz => hv z (by
          rcases List.mem_cons.1 hz with rfl | h
          · simp
          · simp [h])) hrX (fun x hx => hxy x hx y (by simp))
      · exact sym3_any L A n c bl g N cap F (sym_any L A n c bl g N cap hNs hcap F) hNs hcap a m b P X Y Q w hF hS hB ha hm hb hN (by omega) (by omega) hv hrX hrY hxy
end Go.Proofs.Ytgmphiklkllnlaa
