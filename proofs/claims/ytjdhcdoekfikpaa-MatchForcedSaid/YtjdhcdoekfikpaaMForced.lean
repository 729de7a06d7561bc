/-
  The contract of clavecinlaw05.MatchForced: true at every input.
-/
import Derived.Test.YtjdhcdoekfikpaaMFe
import Derived.Test.YtjdhcdoekfikpaaMLFewer
namespace Go.Proofs.Ytjdhcdoekfikpaa
open Go.RowKit

/-- What becomes of the table: the first rows' other columns are barred, and the row's own column and all behind it. -/
def fcB (l : List Nat) (r a b : Nat) : Bool := (decide (a < r) && decide (b ≠ l.getD a 0)) || (decide (a = r) && decide (l.getD a 0 ≤ b))
def fsp (T : List (List Int)) (l : List Nat) (L m r i j : Nat) (f : Nat → Nat → Int) : Prop := ∀ a, a < L → ∀ b, b < m → f a b = if ((a < i ∨ a = i ∧ b < j) ∧ fcB l r a b = true) then -1 else ct T a b
theorem fsp_start (T : List (List Int)) (l : List Nat) (L m r : Nat) : fsp T l L m r 0 0 (ct T) := fun a _ b _ => by rw [if_neg]; rintro ⟨h | ⟨_, h⟩, _⟩ <;> omega
theorem fsp_row {T : List (List Int)} {l : List Nat} {L m r i : Nat} {f : Nat → Nat → Int} (h : fsp T l L m r i m f) : fsp T l L m r (i + 1) 0 f := fun a ha b hb => by
  rw [h a ha b hb]
  have e : ((a < i ∨ a = i ∧ b < m) ∧ fcB l r a b = true) ↔ ((a < i + 1 ∨ a = i + 1 ∧ b < 0) ∧ fcB l r a b = true) := by
    constructor
    · rintro ⟨h1, h2⟩; exact ⟨by omega, h2⟩
    · rintro ⟨h1, h2⟩; exact ⟨by omega, h2⟩
  by_cases c : ((a < i ∨ a = i ∧ b < m) ∧ fcB l r a b = true)
  · rw [if_pos c, if_pos (e.1 c)]
  · rw [if_neg c, if_neg (fun h => c (e.2 h))]
theorem fsp_keep {T : List (List Int)} {l : List Nat} {L m r i j : Nat} {f : Nat → Nat → Int} (h : fsp T l L m r i j f) (hc : fcB l r i j = false) : fsp T l L m r i (j + 1) f := fun a ha b hb => by
  rw [h a ha b hb]
  have e : ((a < i ∨ a = i ∧ b < j) ∧ fcB l r a b = true) ↔ ((a < i ∨ a = i ∧ b < j + 1) ∧ fcB l r a b = true) := by
    constructor
    · rintro ⟨h1, h2⟩; exact ⟨by omega, h2⟩
    · rintro ⟨h1, h2⟩
      refine ⟨?_, h2⟩
      rcases h1 with h1 | ⟨rfl, h1⟩
      · exact .inl h1
      · refine .inr ⟨rfl, ?_⟩
        rcases Nat.lt_or_ge b j with h3 | h3
        · exact h3
        · obtain rfl : b = j := by omega
          rw [hc] at h2; cases h2
  by_cases c : ((a < i ∨ a = i ∧ b < j) ∧ fcB l r a b = true)
  · rw [if_pos c, if_pos (e.1 c)]
  · rw [if_neg c, if_neg (fun h => c (e.2 h))]
theorem fsp_put {T : List (List Int)} {l : List Nat} {L m r i j : Nat} {f : Nat → Nat → Int} (h : fsp T l L m r i j f) (hc : fcB l r i j = true) : fsp T l L m r i (j + 1) (fun a b => if a = i ∧ b = j then -1 else f a b) := fun a ha b hb => by
  show (if a = i ∧ b = j then -1 else f a b) = _
  by_cases e : a = i ∧ b = j
  · rw [if_pos e]
    obtain ⟨rfl, rfl⟩ := e
    rw [if_pos ⟨.inr ⟨rfl, by omega⟩, hc⟩]
  · rw [if_neg e, h a ha b hb]
    have e2 : ((a < i ∨ a = i ∧ b < j) ∧ fcB l r a b = true) ↔ ((a < i ∨ a = i ∧ b < j + 1) ∧ fcB l r a b = true) := by
      constructor
      · rintro ⟨h1, h2⟩; exact ⟨by omega, h2⟩
      · rintro ⟨h1, h2⟩; exact ⟨by omega, h2⟩
    by_cases c : ((a < i ∨ a = i ∧ b < j) ∧ fcB l r a b = true)
    · rw [if_pos c, if_pos (e2.1 c)]
    · rw [if_neg c, if_neg (fun h => c (e2.2 h))]
theorem fsp_end {T : List (List Int)} {l : List Nat} {L m r : Nat} {f : Nat → Nat → Int} (h : fsp T l L m r (r + 1) 0 f) (_hr : r < L) : ∀ i k, i < L → k < m → f i k = if (i < r ∧ k ≠ l.getD i 0) ∨ (i = r ∧ l.getD i 0 ≤ k) then -1 else ct T i k := fun i k hi hk => by
  rw [h i hi k hk]
  have e : ((i < r + 1 ∨ i = r + 1 ∧ k < 0) ∧ fcB l r i k = true) ↔ ((i < r ∧ k ≠ l.getD i 0) ∨ (i = r ∧ l.getD i 0 ≤ k)) := by
    unfold fcB
    simp only [Bool.or_eq_true, Bool.and_eq_true, decide_eq_true_eq]
    constructor
    · rintro ⟨_, h⟩; exact h
    · intro h; exact ⟨by omega, h⟩
  by_cases c : ((i < r + 1 ∨ i = r + 1 ∧ k < 0) ∧ fcB l r i k = true)
  · rw [if_pos c, if_pos (e.1 c)]
  · rw [if_neg c, if_neg (fun h => c (e.2 h))]
theorem fsp_bd {T : List (List Int)} {l : List Nat} {L m r i j : Nat} {f : Nat → Nat → Int} (h : fsp T l L m r i j f) (hc : ∀ a b, a < L → b < m → -1 ≤ ct T a b ∧ ct T a b ≤ 1000000000) : ∀ a, a < L → ∀ b, b < m → -1 ≤ f a b ∧ f a b ≤ 1000000000 := fun a ha b hb => by
  rw [h a ha b hb]
  split
  · omega
  · exact hc a b ha hb
theorem lt_of_cell {W : World} {p : Addr} {v : Value} (h : W.cell? p = some v) : p.block < W.heap.size := by
  by_cases hb : p.block < W.heap.size
  · exact hb
  · simp [World.cell?, Array.getElem?_eq_none (Nat.le_of_not_lt hb)] at h
set_option maxRecDepth 100000 in
set_option maxHeartbeats 8000000 in
theorem forced_any (A : Option Addr) (n c : Nat) (T : List (List Int)) (row : Int) (w : World) (hT : SlRc w A n T) (hn : n ≤ 9223372036854775807) :
    Calls Try.prog 6 #[.slice A n c, .int .i64 row] w fun e w' => e = .returned (.bool true) ∧ Below w.heap.size w w' := by
  refine calls_cps ?_
  intro R hR
  obtain ⟨T1, hT1⟩ : ∃ T1, tabL 20 22 T = T1 := ⟨_, rfl⟩
  obtain ⟨L, hL⟩ : ∃ L, T1.length = L := ⟨_, rfl⟩
  have HT1 := Lib.hid hT1
  have HL := Lib.hid hL
  have HT := Lib.hid hT
  clear hT1 hL hT
  go_enter Try.func6, Try.ntmps6
  go_wp2_with fail
  refine (table_tm A n c T _ _ 20 22 rfl rfl (by omega) (by omega) _ HT.out hn).mono ?_
  rw [HT1.out, HL.out]
  rintro e w1 ⟨A1, c1, hd, rfl, htm, hL66, hrc, hb1⟩
  have H1 := Lib.hid (show Tc w w1 A1 L c1 T1 from ⟨hrc, hL66, hb1⟩)
  have HM := Lib.hid htm
  clear htm hrc
  have hsz1 := hb1.size
  have Hb1 := Lib.hid hb1
  clear hb1
  by_cases hb : tabB T1 = true
  · obtain ⟨m, hok⟩ := tok_of hb
    have Hok := Lib.hid hok
    have Hb := Lib.hid hb
    have hL64 : L ≤ 64 := by rw [← HL.out]; exact Nat.le_trans hok.nm hok.m64
    have hL1 : 1 ≤ L := by rw [← HL.out]; exact hok.n1
    have hLm : L ≤ m := by rw [← HL.out]; exact hok.nm
    have hm64 := hok.m64
    have HF := Lib.hid (show tabF L m (ct T1) = T1 by rw [← HL.out]; exact tabF_self hok.rect)
    clear hok hb
    go_wp2_with fail
    refine (refCheck_any A1 L c1 T1 _ H1.out.rc.slr (by omega) H1.out.rc.rowle).mono ?_
    rw [if_pos Hb.out]
    rintro e w2 ⟨rfl, hq2⟩
    have H2 := Lib.hid (H1.out.qt hq2)
    have HM2 := Lib.hid (HM.out.below hq2.below)
    have hsz2 := hq2.below.size
    clear hq2
    by_cases hKL : kuhn (gT T1) m (List.range L) = L
    · have Hyes := Lib.hid hKL
      clear hKL
      go_wp2_with fail
      refine (best_fresh A1 L c1 m T1 _ H2.out.rc.slr Hok.out Hyes.out).mono ?_
      rintro e w3 ⟨B1, B2, B3, d1, d2, d3, l, s, lu, lv, rfl, hB, s1, s2, s3, k1, k2, k3, e1, e2, e3, hb3, hfr⟩
      have P3 := Lib.hid (Bx.new (s := s) (H2.out.below hb3) ⟨s1, s2, s3, k1, k2, k3, e1, e2, e3⟩)
      have HM3 := Lib.hid ((HM2.out.below hb3).below (below_new w3 (.cells #[.slice B1 L d1, .slice B2 L d2, .slice B3 m d3, .int .i64 s] 28)))
      have hsz3 := hb3.size
      have HB := Lib.hid hB
      have Hfr := Lib.hid hfr
      clear hB s1 s2 s3 k1 k2 k3 e1 e2 e3 hb3 hfr
      obtain ⟨r0, r1, r2, r3, r4⟩ := cells4 P3.out.x
      go_wp2_with fail
      refine (refTotal_any A1 L c1 m T1 B1 L d1 (castL l) _ P3.out.tc.rc.slr Hok.out P3.out.mm.s1 (by omega)).mono ?_
      rintro e w5 ⟨⟨_, rfl⟩ | ⟨hno, _⟩, hq5⟩
      rotate_left
      · exact absurd (prOk_bst HB.out).1 hno
      obtain ⟨tt, htt⟩ : ∃ tt, totS T1 (castL l) L = tt := ⟨_, rfl⟩
      rw [htt]
      have P5 := Lib.hid (P3.out.below hq5.below)
      have HM5 := Lib.hid (HM3.out.below hq5.below)
      have hsz5 := hq5.below.size
      simp only [World.size_alloc] at hsz5
      clear hq5 r0 r1 r2 r3 r4 htt
      obtain ⟨r, k, hr1, hr2, hr3, hr4, hr5, hk⟩ := row_mod row hL1
      have hL0 : (0 : Int) < (L : Int) := by omega
      have hL00 : ¬ (L : Int) = 0 := by omega
      obtain ⟨S, hS⟩ : ∃ S : Nat → Prop, (fun j => w.heap.size ≤ j ∧ j < w1.heap.size) = S := ⟨_, rfl⟩
      have HSlo := Lib.hid (show ∀ j, S j → w.heap.size ≤ j from fun j hj => by rw [← hS] at hj; exact hj.1)
      have HShi := Lib.hid (show ∀ j, S j → j < w1.heap.size from fun j hj => by rw [← hS] at hj; exact hj.2)
      have hM5 := HM5.out
      rw [hS, ← HF.out] at hM5
      have HM6 := Lib.hid hM5
      have Hbx := Lib.hid (show ∀ W, Kx S w5 W → (W.cell? ⟨w3.heap.size, 0, none⟩ = some (.slice B1 L d1) ∧ W.cell? ⟨w3.heap.size, 3, none⟩ = some (.int .i64 s)) ∧ SlE intE 1 W B1 L (castL l) ∧ Below w.heap.size w W from fun W hk => by
        have hx := (hk.block _ (Array.getElem?_eq_some_iff.1 P5.out.x).1 (fun h => by have := HShi.out _ h; omega)).trans P5.out.x
        obtain ⟨r0, _, _, r3, _⟩ := cells4 hx
        exact ⟨⟨r0, r3⟩, slE_kx P5.out.mm.s1 hk (fun a ha h => by have := HShi.out _ h; have := Hfr.out a ha; omega), Kx.low P5.out.tc.bel hk HSlo.out P5.out.tc.bel.size⟩)
      clear hM5 hS
      go_wp2_with fail
      rw [hr5]
      clear hr1 hr2 hr3 hr4 hr5
      go_loopg [10, 11] (k + 1) (fun gk s10 s11 wr => ∃ (i : Nat) (f : Nat → Nat → Int), i + gk = k + 1 ∧ s10 = .int .i64 ((i : Nat) : Int) ∧ TM wr S A1 L c1 (tabF L m f) hd ∧ Kx S w5 wr ∧ Hid (fsp T1 l L m k i 0 f))
      case atStart => exact ⟨0, ct T1, by omega, rfl, HM6.out, Kx.refl _ _, Lib.hid (fsp_start _ _ _ _ _)⟩
      case round =>
        obtain ⟨i, f, hgi, rfl, hM, hkx, Hf⟩ := hrel
        obtain ⟨wi, rfl⟩ : ∃ wi : World, wi = wr := ⟨_, rfl⟩
        by_cases hik : i ≤ k
        · have hiL : i < L := by omega
          have i1 : (i : Int) ≤ (k : Int) := by omega
          obtain ⟨gg, rfl⟩ : ∃ gg, gk = gg + 1 := ⟨gk - 1, by omega⟩
          have HMi := Lib.hid hM
          have Hki := Lib.hid hkx
          clear hM hkx
          go_wp2_with fail
          go_loopg [11] m (fun gk s11 wr => ∃ (j : Nat) (f : Nat → Nat → Int), j + gk = m ∧ s11 = .int .i64 ((j : Nat) : Int) ∧ TM wr S A1 L c1 (tabF L m f) hd ∧ Kx S w5 wr ∧ Hid (fsp T1 l L m k i j f))
          case atStart => exact ⟨0, f, by omega, rfl, HMi.out, Hki.out, Hf⟩
          case round =>
            obtain ⟨j, f2, hgj, rfl, hM, hkx, Hf2⟩ := hrel
            obtain ⟨wj, rfl⟩ : ∃ wj : World, wj = wr := ⟨_, rfl⟩
            have Hkj := Lib.hid hkx
            obtain ⟨⟨q0, q3⟩, hs1, hbel⟩ := Hbx.out wj hkx
            clear hkx
            by_cases hlj : j < m
            · obtain ⟨b, g, ci, rfl, hPb, hPg, hc1, hc2, hfz, hset⟩ := hM.setF hiL hlj
              obtain ⟨hMs, hKs⟩ := hset (-1)
              have HMs := Lib.hid hMs
              have HKs := Lib.hid hKs
              have HMk := Lib.hid hM
              have hcB := cast_at2 hs1 hiL
              obtain ⟨bt, ot, rfl, t0⟩ := hcB
              obtain ⟨t, ht⟩ : ∃ t, l.getD i 0 = t := ⟨_, rfl⟩
              rw [ht] at t0
              have i2 : (i : Int) < (L : Int) := by omega
              have i3 : (j : Int) < (m : Int) := by omega
              have hcB : fcB l k i j = ((decide (i < k) && decide (j ≠ t)) || (decide (i = k) && decide (t ≤ j))) := by rw [← ht]; rfl
              have HcB := Lib.hid hcB
              clear hset hMs hKs hM hs1 hbel ht hcB
              by_cases hlk : i < k
              · have i4 : (i : Int) < (k : Int) := by omega
                have g2 : ((i : Int) == (k : Int)) = false := by simp; omega
                by_cases hjt : j = t
                · have g1 : ((j : Int) != (t : Int)) = false := by simp [hjt]
                  have HfN := Lib.hid (fsp_keep Hf2.out (by rw [HcB.out, decide_eq_false (show ¬ j ≠ t from fun h => h hjt), decide_eq_false (show ¬ i = k by omega)]; simp))
                  clear hjt
                  go_wp2_with fail
                  go_roundg (gk - 1)
                  case measure => omega
                  case rel => exact ⟨j + 1, f2, by omega, by go_num, HMk.out, Hkj.out, HfN⟩
                · have g1 : ((j : Int) != (t : Int)) = true := by simp; omega
                  have HfN := Lib.hid (fsp_put Hf2.out (by rw [HcB.out, decide_eq_true hlk, decide_eq_true hjt]; rfl))
                  have HKN := Lib.hid (Hkj.out.trans HKs.out (fun _ _ h => h))
                  clear hjt
                  go_wp2_with fail
                  go_roundg (gk - 1)
                  case measure => omega
                  case rel => exact ⟨j + 1, _, by omega, by go_num, HMs.out, HKN.out, HfN⟩
              · obtain rfl : i = k := by omega
                have g2 : ((i : Int) == (i : Int)) = true := by simp
                by_cases htj : t ≤ j
                · have i5 : (t : Int) ≤ (j : Int) := by omega
                  have HfN := Lib.hid (fsp_put Hf2.out (by rw [HcB.out, decide_eq_true (show i = i from rfl), decide_eq_true htj]; simp))
                  have HKN := Lib.hid (Hkj.out.trans HKs.out (fun _ _ h => h))
                  clear htj
                  go_wp2_with fail
                  go_roundg (gk - 1)
                  case measure => omega
                  case rel => exact ⟨j + 1, _, by omega, by go_num, HMs.out, HKN.out, HfN⟩
                · have i5 : (j : Int) < (t : Int) := by omega
                  have HfN := Lib.hid (fsp_keep Hf2.out (by rw [HcB.out, decide_eq_false hlk, decide_eq_false htj]; simp))
                  clear htj
                  go_wp2_with fail
                  go_roundg (gk - 1)
                  case measure => omega
                  case rel => exact ⟨j + 1, f2, by omega, by go_num, HMk.out, Hkj.out, HfN⟩
            · obtain rfl : j = m := by omega
              obtain ⟨b, g, ci, rfl, hPb, hPg, hc1, hc2, hfz, hset⟩ := hM.setF (j := 0) hiL (by omega)
              have i2 : (i : Int) < (L : Int) := by omega
              have HfN := Lib.hid (fsp_row Hf2.out)
              have HMk := Lib.hid hM
              clear hset hM hs1 hbel
              go_wp2_with fail
              go_roundg gg
              case measure => omega
              case rel => exact ⟨i + 1, f2, by omega, by go_num, HMk.out, Hkj.out, HfN⟩
        · obtain rfl : i = k + 1 := by omega
          have i1 : (k : Int) < ((k + 1 : Nat) : Int) := by omega
          have i1' : (k : Int) < (k : Int) + 1 := by omega
          obtain ⟨⟨q0, q3⟩, _, hbel⟩ := Hbx.out wi hkx
          have hend := fsp_end Hf.out hk
          have hok2 : TOk (tabF L m f) m := tok_tabF hL1 hLm hm64 (fsp_bd Hf.out (fun a b ha hb => Hok.out.costOk a b (by rw [HL.out]; exact ha) hb))
          obtain ⟨T2, hT2⟩ : ∃ T2, tabF L m f = T2 := ⟨_, rfl⟩
          have Hlaw := Lib.hid (show ∀ l2, Asg T2 m l2 → s < costA T2 l2 from fun l2 h2 => by
            refine forced_law (T := T1) (r := k) (by rw [← hT2, tabF_len, HL.out]) HB.out.best (by rw [HL.out]; exact hk) (fun a b ha hb => ?_) h2
            rw [HL.out] at ha
            rw [← hT2, ct_tabF ha hb]
            exact hend a b ha hb)
          rw [hT2] at hok2 hM
          have Hok2 := Lib.hid hok2
          have Hs2 := Lib.hid hM.slr
          have Hbel := Lib.hid hbel
          clear hend hok2 hT2 hM hbel hkx
          by_cases hKL2 : kuhn (gT T2) m (List.range L) = L
          · have Hyes2 := Lib.hid hKL2
            clear hKL2
            go_wp2_with fail
            refine (best_yes A1 L c1 m T2 _ Hs2.out Hok2.out Hyes2.out).mono ?_
            rintro e w6 ⟨C1, C2, C3, f1, f2, f3, l2, s2, lu2, lv2, rfl, hB2, _, _, _, _, _, _, _, _, _, hb6⟩
            have hlt := Hlaw.out l2 hB2.best.asg
            rw [hB2.best.cost] at hlt
            have hba := hb6.trans ((below_new w6 (.cells #[.slice C1 L f1, .slice C2 L f2, .slice C3 m f3, .int .i64 s2] 28)).mono hb6.size)
            obtain ⟨_, _, _, n3, _⟩ := cells4 (heap_alloc_new w6 (.cells #[.slice C1 L f1, .slice C2 L f2, .slice C3 m f3, .int .i64 s2] 28))
            have p3 := (hba.cell (p := ⟨w3.heap.size, 3, none⟩) (lt_of_cell q3)).trans q3
            have Hfin := Lib.hid (Hbel.out.trans (hba.mono Hbel.out.size))
            clear hb6 hba hB2 q0 q3
            go_wp2_with fail
            refine (lives_any _).mono ?_
            rintro e w8 ⟨rfl, hb8⟩
            have Hf := Lib.hid (hR.out (.returned (.bool true)) w8 ⟨rfl, Hfin.out.trans (hb8.mono Hfin.out.size)⟩)
            clear hb8
            go_wp2
            exact Hf.out
          · have Hno2 := Lib.hid hKL2
            clear hKL2
            go_wp2_with fail
            refine (best_none A1 L c1 m T2 _ Hs2.out Hok2.out Hno2.out).mono ?_
            rintro e w6 ⟨rfl, hb6⟩
            have hba := hb6.trans ((below_new w6 (.cells #[.slice none 0 0, .slice none 0 0, .slice none 0 0, .int .i64 0] 28)).mono hb6.size)
            have Hfin := Lib.hid (Hbel.out.trans (hba.mono Hbel.out.size))
            clear hb6 hba q0 q3
            go_wp2_with fail
            refine (lives_any _).mono ?_
            rintro e w8 ⟨rfl, hb8⟩
            have Hf := Lib.hid (hR.out (.returned (.bool true)) w8 ⟨rfl, Hfin.out.trans (hb8.mono Hfin.out.size)⟩)
            clear hb8
            go_wp2
            exact Hf.out
    · have Hno := Lib.hid hKL
      clear hKL
      go_wp2_with fail
      refine (best_noneT w A1 L c1 m T1 _ H2.out Hok.out Hno.out).mono ?_
      rintro e w4 ⟨rfl, h4⟩
      have H4 := Lib.hid (h4.below (below_new w4 (.cells #[.slice none 0 0, .slice none 0 0, .slice none 0 0, .int .i64 0] 28)))
      clear h4
      go_wp2_with fail
      refine (lives_T w A1 L c1 T1 _ H4.out).mono ?_
      rintro e w8 ⟨rfl, h8⟩
      have Hf := Lib.hid (hR.out (.returned (.bool true)) w8 ⟨rfl, h8.bel⟩)
      clear h8
      go_wp2
      exact Hf.out
  · have hb' : tabB T1 = false := by simpa using hb
    have Hb := Lib.hid hb'
    clear hb hb'
    go_wp2_with fail
    refine (refCheck_noT w A1 L c1 T1 _ H1.out Hb.out).mono ?_
    rintro e w3 ⟨rfl, h3⟩
    go_wp2_with fail
    refine (lives_T w A1 L c1 T1 _ h3).mono ?_
    rintro e w8 ⟨rfl, h8⟩
    have Hf := Lib.hid (hR.out (.returned (.bool true)) w8 ⟨rfl, h8.bel⟩)
    clear h8 h3
    go_wp2
    exact Hf.out
end Go.Proofs.Ytjdhcdoekfikpaa
