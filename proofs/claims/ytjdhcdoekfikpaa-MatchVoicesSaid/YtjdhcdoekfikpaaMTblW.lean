/-
  The contract of match.Table: the cost table of jacks and quills, or the error; condition: both lists read.
-/
import Derived.Test.YtjdhcdoekfikpaaMTbl0
namespace Go.Proofs.Ytjdhcdoekfikpaa
open Go.RowKit

theorem two_all (p : Int → Bool) (x y : Int) : [x, y].all p = (p x && p y) := by simp
theorem slE_pair' {w : World} {b : Nat} (x y : Int) (hb : b = w.heap.size) : SlE intE 1 (w.alloc (.cells #[.int .i64 x, .int .i64 y] 3)) (some ⟨b, 0, none⟩) 2 [x, y] := slE_pair x y hb
theorem own_of_blk {W : World} {g n base : Nat} {l : List Int} (h : Blk W g l) (hl : l.length = n) (hb : base ≤ g) (hn : n ≤ maxLen) : W.ownsRow base 3 1 (.slice (some ⟨g, 0, none⟩) n n) n (l.flatMap intE) := by
  refine ⟨by rw [flat_length intE_len, hl], .inr ⟨g, n, _, rfl, hb, h, Nat.le_refl _, hn, by simp [hl], ?_⟩⟩
  rw [flat_int, List.take_of_length_le (by simp [hl])]
theorem ent_wrap {be tr jx jy qx qy : Int} (hle : jy ≤ qy) (hb : inR 100 be = true) (ht : inR 100 tr = true) (m1 : 0 ≤ qx) (m2 : qx ≤ 10000) (m3 : 0 ≤ qy) (m4 : qy ≤ 10000) (m5 : 0 ≤ jx) (m6 : jx ≤ 10000) (m7 : 0 ≤ jy) (m8 : jy ≤ 10000) :
    ent be tr (jx, jy) (qx, qy) = wrap64 (wrap64 (max (qx - jx) (jx - qx) * be) + wrap64 ((qy - jy) * tr)) := by
  rw [inR_iff] at hb ht
  unfold ent
  rw [if_pos hle]
  have hd : (if qx - jx < 0 then -(qx - jx) else qx - jx) = max (qx - jx) (jx - qx) := by
    rw [Int.max_def]
    split <;> split <;> omega
  show (if qx - jx < 0 then -(qx - jx) else qx - jx) * be + (qy - jy) * tr = _
  rw [hd]
  obtain ⟨d, e⟩ : ∃ d, max (qx - jx) (jx - qx) = d := ⟨_, rfl⟩
  have hdb : 0 ≤ d ∧ d ≤ 10000 := by rw [← e, Int.max_def]; split <;> omega
  rw [e]
  obtain ⟨f, e2⟩ : ∃ f, qy - jy = f := ⟨_, rfl⟩
  rw [e2]
  have hfb : 0 ≤ f ∧ f ≤ 10000 := by omega
  have n1 := Int.mul_nonneg hdb.1 hb.1
  have n2 := Int.mul_nonneg hfb.1 ht.1
  have n3 : d * be ≤ 10000 * 100 := Int.mul_le_mul hdb.2 hb.2 hb.1 (by omega)
  have n4 : f * tr ≤ 10000 * 100 := Int.mul_le_mul hfb.2 ht.2 ht.1 (by omega)
  generalize d * be = P at *
  generalize f * tr = Q at *
  unfold wrap64
  omega
def rowK (be tr : Int) (j : Int × Int) (qs : List (Int × Int)) (m p : Nat) : List Int := (qs.take p).map (ent be tr j) ++ List.replicate (m - p) 0
theorem rowK_len {be tr : Int} {j : Int × Int} {qs : List (Int × Int)} {m p : Nat} (hm : m = qs.length) (hp : p ≤ m) : (rowK be tr j qs m p).length = m := by simp [rowK]; omega
theorem rowK_set {be tr : Int} {j q : Int × Int} {qs : List (Int × Int)} {m p : Nat} (hm : m = qs.length) (hq : qs[p]? = some q) : (rowK be tr j qs m p).set p (ent be tr j q) = rowK be tr j qs m (p + 1) := by
  obtain ⟨hp, rfl⟩ := List.getElem?_eq_some_iff.1 hq
  unfold rowK
  have hl : ((qs.take p).map (ent be tr j)).length = p := by simp; omega
  rw [List.take_succ_eq_append_getElem hp, List.map_append, List.set_append_right _ _ (by omega), hl, Nat.sub_self, show m - p = (m - (p + 1)) + 1 by omega, List.replicate_succ, List.set_cons_zero, List.append_assoc]
  rfl
theorem rowK_end {be tr : Int} {j : Int × Int} {qs : List (Int × Int)} : rowK be tr j qs qs.length qs.length = tbRow be tr qs j := by simp [rowK, tbRow]
theorem tbl_take {be tr : Int} {js qs : List (Int × Int)} {i : Nat} {j : Int × Int} (h : js[i]? = some j) : tbl be tr (js.take (i + 1)) qs = tbl be tr (js.take i) qs ++ [tbRow be tr qs j] := by
  obtain ⟨hi, rfl⟩ := List.getElem?_eq_some_iff.1 h
  unfold tbl
  rw [List.take_succ_eq_append_getElem hi, List.map_append]
  rfl
set_option maxRecDepth 100000 in
set_option maxHeartbeats 8000000 in
theorem mTable_any (A1 A2 : Option Addr) (n1 n2 c1 c2 : Nat) (js qs : List (Int × Int)) (be tr : Int) (w : World) (h1 : SlE prE 2 w A1 n1 js) (h2 : SlE prE 2 w A2 n2 qs) (hn1 : n1 ≤ 9223372036854775807) (hn2 : n2 ≤ 9223372036854775807) :
    Calls Try.prog 38 #[.slice A1 n1 c1, .slice A2 n2 c2, .int .i64 be, .int .i64 tr] w fun e w' => (tbOkB js qs be tr = false ∧ e = .returned (.tuple #[.slice none 0 0, .int .i64 1]) ∨ tbOkB js qs be tr = true ∧ ∃ A c, e = .returned (.tuple #[.slice A n1 c, .int .i64 0]) ∧ SlR w' A n1 (tbl be tr js qs)) ∧ Below w.heap.size w w' := by
  refine calls_cps ?_
  intro R hR
  have Hl1 := Lib.hid h1.1
  have Hl2 := Lib.hid h2.1
  obtain ⟨b0, hb0⟩ : ∃ b0, (lenOkB n1 n2 && (inR 100 be && inR 100 tr)) = b0 := ⟨_, rfl⟩
  have Hno := Lib.hid (show ∀ W, (b0 && js.all prOkB && qs.all prOkB) = false → Below w.heap.size w W → R (.returned (.tuple #[.slice none 0 0, .int .i64 1])) W from fun W h hb => hR.out _ _ ⟨.inl ⟨by unfold tbOkB; rw [← h1.1, ← h2.1, hb0]; exact h, rfl⟩, hb⟩)
  have Hyes := Lib.hid (show ∀ W A c, (b0 && js.all prOkB && qs.all prOkB) = true → SlR W A n1 (tbl be tr js qs) → Below w.heap.size w W → R (.returned (.tuple #[.slice A n1 c, .int .i64 0])) W from fun W A c h hs hb => hR.out _ _ ⟨.inr ⟨by unfold tbOkB; rw [← h1.1, ← h2.1, hb0]; exact h, A, c, rfl, hs⟩, hb⟩)
  have Hb0 := Lib.hid hb0
  have H1 := Lib.hid h1
  have H2 := Lib.hid h2
  clear hR hb0 h1 h2
  go_enter Try.func38, Try.ntmps38
  go_upto_region 1 with fail
  go_cut [10] (fun s10 wx => s10 = .bool b0 ∧ Below w.heap.size w wx)
  case first =>
    by_cases hlen : lenOkB n1 n2 = true
    · have hl3 := hlen
      unfold lenOkB at hl3
      simp only [Bool.and_eq_true, decide_eq_true_eq] at hl3
      have i1 : (1 : Int) ≤ (n1 : Int) := by omega
      have i2 : (n1 : Int) ≤ (n2 : Int) := by omega
      have i3 : (n2 : Int) ≤ 64 := by omega
      have Hbb := Lib.hid (show [be, tr].all (inR 100) = b0 by rw [two_all, ← Hb0.out, hlen]; rfl)
      clear hlen hl3
      go_wp2_with fail
      refine (ranged_any 100 _ 2 2 [be, tr] _ (slE_pair' be tr rfl) (by omega)).mono ?_
      rw [Hbb.out]
      rintro e w' ⟨rfl, rfl⟩
      go_wp2
      go_meet
      exact ⟨rfl, below_new w _⟩
    · have hf : lenOkB n1 n2 = false := by simpa using hlen
      obtain rfl : b0 = false := by rw [← Hb0.out, hf]; rfl
      unfold lenOkB at hf
      by_cases g1 : 1 ≤ n1
      · by_cases g2 : n1 ≤ n2
        · have g3 : 64 < n2 := by
            by_cases g3 : 64 < n2
            · exact g3
            · rw [decide_eq_true g1, decide_eq_true g2, decide_eq_true (by omega)] at hf; cases hf
          have i1 : (1 : Int) ≤ (n1 : Int) := by omega
          have i2 : (n1 : Int) ≤ (n2 : Int) := by omega
          have i3 : (64 : Int) < (n2 : Int) := by omega
          clear hf hlen
          go_wp2
          go_meet
          exact ⟨rfl, Below.refl _ _⟩
        · have i1 : (1 : Int) ≤ (n1 : Int) := by omega
          have i2 : (n2 : Int) < (n1 : Int) := by omega
          clear hf hlen
          go_wp2
          go_meet
          exact ⟨rfl, Below.refl _ _⟩
      · have i1 : (n1 : Int) < 1 := by omega
        clear hf hlen
        go_wp2
        go_meet
        exact ⟨rfl, Below.refl _ _⟩
  case rest =>
    obtain ⟨e10, hbc⟩ := hcut
    subst e10
    obtain ⟨w1, rfl⟩ : ∃ w1 : World, w1 = wc := ⟨_, rfl⟩
    have Hb1 := Lib.hid hbc
    clear hbc
    go_wp2_with fail
    go_loopg [10, 12, 44] n1 (fun gk s10 s12 s44 wr => ∃ (k : Nat) (ok : Bool), k + gk = n1 ∧ s44 = .int .i64 ((k : Nat) : Int) ∧ s10 = .bool ok ∧ Hid (ok = (b0 && (js.take k).all prOkB)) ∧ Below w.heap.size w wr)
    case atStart => exact ⟨0, b0, by omega, rfl, rfl, Lib.hid (by simp), Hb1.out⟩
    case round =>
      obtain ⟨k, ok, hgk, rfl, rfl, Hok, hb⟩ := hrel
      obtain ⟨wi, rfl⟩ : ∃ wi : World, wi = wr := ⟨_, rfl⟩
      have Hbi := Lib.hid hb
      by_cases hlt : k < n1
      · obtain ⟨b, o, x, y, rfl, hbl, hx, q0, q1⟩ := (H1.out.below hb).at2 hlt
        have i1 : (k : Int) < (n1 : Int) := by omega
        have HS := Lib.hid (show (js.take (k + 1)).all prOkB = ((js.take k).all prOkB && prOkB (x, y)) from by
          obtain ⟨hk, e⟩ := List.getElem?_eq_some_iff.1 hx
          rw [List.take_succ_eq_append_getElem hk, List.all_append, e]; simp)
        have Hbx := Lib.hid (Hbi.out.alloc Hbi.out.size (.cells #[.int .i64 x, .int .i64 y] 69))
        clear hx hb
        cases ok with
        | false =>
          have HN := Lib.hid (show false = (b0 && (js.take (k + 1)).all prOkB) from by rw [HS.out, ← Bool.and_assoc, ← Hok.out]; rfl)
          go_wp2_with fail
          go_roundg (gk - 1)
          case measure => omega
          case rel => exact ⟨k + 1, false, by omega, by go_num, rfl, HN, Hbx.out⟩
        | true =>
          obtain ⟨rb, hrb⟩ : ∃ rb, [x, y].all (inR 10000) = rb := ⟨_, rfl⟩
          have HN := Lib.hid (show rb = (b0 && (js.take (k + 1)).all prOkB) from by rw [HS.out, ← Bool.and_assoc, ← Hok.out, ← hrb, two_all]; rfl)
          have Hrb := Lib.hid hrb
          obtain ⟨r0, r1, _⟩ := cells2 (heap_alloc_new wi (.cells #[.int .i64 x, .int .i64 y] 69))
          clear hrb
          go_wp2_with fail
          refine (ranged_any 10000 _ 2 2 [x, y] _ (slE_pair' x y (by simp)) (by omega)).mono ?_
          rw [Hrb.out]
          rintro e w' ⟨rfl, rfl⟩
          clear r0 r1
          have HB := Lib.hid (Hbx.out.alloc (Nat.le_trans Hbi.out.size (by simp)) (.cells #[.int .i64 x, .int .i64 y] 3))
          go_wp2_with fail
          go_roundg (gk - 1)
          case measure => omega
          case rel => exact ⟨k + 1, rb, by omega, by go_num, rfl, HN, HB.out⟩
      · obtain rfl : k = n1 := by omega
        have hok := Hok.out
        rw [List.take_of_length_le (by rw [Hl1.out]; exact Nat.le_refl _)] at hok
        have HO := Lib.hid hok
        clear hok hlt hgk hb Hok
        go_wp2_with fail
        go_loopg [10, 14, 60] n2 (fun gk s10 s14 s60 wr => ∃ (p : Nat) (okk : Bool), p + gk = n2 ∧ s60 = .int .i64 ((p : Nat) : Int) ∧ s10 = .bool okk ∧ Hid (okk = (ok && (qs.take p).all prOkB)) ∧ Below w.heap.size w wr)
        case atStart => exact ⟨0, ok, by omega, rfl, rfl, Lib.hid (by simp), Hbi.out⟩
        case round =>
          obtain ⟨p, okk, hgk, rfl, rfl, Hok, hb⟩ := hrel
          obtain ⟨wj, rfl⟩ : ∃ wj : World, wj = wr := ⟨_, rfl⟩
          have Hbj := Lib.hid hb
          by_cases hlt : p < n2
          · obtain ⟨b, o, x, y, rfl, hbl, hx, q0, q1⟩ := (H2.out.below hb).at2 hlt
            have i1 : (p : Int) < (n2 : Int) := by omega
            have HS := Lib.hid (show (qs.take (p + 1)).all prOkB = ((qs.take p).all prOkB && prOkB (x, y)) from by
              obtain ⟨hk, e⟩ := List.getElem?_eq_some_iff.1 hx
              rw [List.take_succ_eq_append_getElem hk, List.all_append, e]; simp)
            have Hbx := Lib.hid (Hbj.out.alloc Hbj.out.size (.cells #[.int .i64 x, .int .i64 y] 67))
            clear hx hb
            cases okk with
            | false =>
              have HN := Lib.hid (show false = (ok && (qs.take (p + 1)).all prOkB) from by rw [HS.out, ← Bool.and_assoc, ← Hok.out]; rfl)
              go_wp2_with fail
              go_roundg (gk - 1)
              case measure => omega
              case rel => exact ⟨p + 1, false, by omega, by go_num, rfl, HN, Hbx.out⟩
            | true =>
              obtain ⟨rb, hrb⟩ : ∃ rb, [x, y].all (inR 10000) = rb := ⟨_, rfl⟩
              have HN := Lib.hid (show rb = (ok && (qs.take (p + 1)).all prOkB) from by rw [HS.out, ← Bool.and_assoc, ← Hok.out, ← hrb, two_all]; rfl)
              have Hrb := Lib.hid hrb
              obtain ⟨r0, r1, _⟩ := cells2 (heap_alloc_new wj (.cells #[.int .i64 x, .int .i64 y] 67))
              clear hrb
              go_wp2_with fail
              refine (ranged_any 10000 _ 2 2 [x, y] _ (slE_pair' x y (by simp)) (by omega)).mono ?_
              rw [Hrb.out]
              rintro e w' ⟨rfl, rfl⟩
              clear r0 r1
              have HB := Lib.hid (Hbx.out.alloc (Nat.le_trans Hbj.out.size (by simp)) (.cells #[.int .i64 x, .int .i64 y] 3))
              go_wp2_with fail
              go_roundg (gk - 1)
              case measure => omega
              case rel => exact ⟨p + 1, rb, by omega, by go_num, rfl, HN, HB.out⟩
          · obtain rfl : p = n2 := by omega
            have hok := Hok.out
            rw [List.take_of_length_le (by rw [Hl2.out]; exact Nat.le_refl _), HO.out] at hok
            have HO2 := Lib.hid hok
            clear hok hlt hgk hb Hok
            cases okk with
            | false =>
              have Hf := Lib.hid (Hno.out wj HO2.out.symm Hbj.out)
              go_wp2
              exact Hf.out
            | true =>
              have hall : (b0 && js.all prOkB && qs.all prOkB) = true := HO2.out.symm
              have hyes := hall
              rw [Bool.and_eq_true, Bool.and_eq_true, ← Hb0.out, Bool.and_eq_true, Bool.and_eq_true] at hall
              obtain ⟨⟨⟨hlen, hbe, htr⟩, hjs⟩, hqs⟩ := hall
              unfold lenOkB at hlen
              simp only [Bool.and_eq_true, decide_eq_true_eq] at hlen
              have Hjs := Lib.hid (List.all_eq_true.1 hjs)
              have Hqs := Lib.hid (List.all_eq_true.1 hqs)
              have Hbe := Lib.hid hbe
              have Htr := Lib.hid htr
              have HY := Lib.hid hyes
              have hbe2 := inR_iff.1 hbe
              have htr2 := inR_iff.1 htr
              have u1 := hbe2.1
              have u2 := hbe2.2
              have u3 := htr2.1
              have u4 := htr2.2
              have l1 := hlen.2.1
              have l2 := hlen.2.2
              clear hyes hlen hbe htr hjs hqs hbe2 htr2
              go_wp2_with fail
              go_loopg [15, 78] k (fun gk s15 s78 wr => ∃ (i : Nat) (A : Option Addr) (c : Nat), i + gk = k ∧ s78 = .int .i64 ((i : Nat) : Int) ∧ s15 = .slice A i c ∧ TblR wr w.heap.size 26 3 (.slice A i c) i (tbl be tr (js.take i) qs) ∧ Below w.heap.size w wr)
              case atStart => exact ⟨0, none, 0, by omega, rfl, rfl, ⟨[], by simp [tbl]; exact TblO.start ⟨rfl, .inl ⟨rfl, rfl⟩⟩⟩, Hbj.out⟩
              case round =>
                obtain ⟨i, A, c, hgi, rfl, rfl, ht, hb⟩ := hrel
                obtain ⟨wa, rfl⟩ : ∃ wa : World, wa = wr := ⟨_, rfl⟩
                have Hba := Lib.hid hb
                have hsz := hb.size
                by_cases hli : i < k
                · obtain ⟨gg, rfl⟩ : ∃ gg, gk = gg + 1 := ⟨gk - 1, by omega⟩
                  obtain ⟨b, o, jx, jy, rfl, hbl, hx, q0, q1⟩ := (H1.out.below hb).at2 hli
                  have i1 : (i : Int) < (k : Int) := by omega
                  have hjok := Hjs.out _ (List.mem_of_getElem? hx)
                  have HT := Lib.hid (tbl_take (be := be) (tr := tr) (qs := qs) hx)
                  have Hj := Lib.hid hjok
                  obtain ⟨outer, ht⟩ := ht
                  have Ht := Lib.hid ht
                  clear hx hjok ht hb
                  go_wp2_with (at_make; refine wpList_mkInt rfl (.tmp 83) (.tmp 83) _ rfl 3 Try.underlying26 infoInt8 p p rfl rfl rfl (by omega) ?_; intro w2 hw2 hg2)
                  have hba2 : Below (wa.alloc (.cells #[.int .i64 jx, .int .i64 jy] 69)).heap.size (wa.alloc (.cells #[.int .i64 jx, .int .i64 jy] 69)) w2 := (Below.refl _ _).grown hg2 (Nat.le_refl _) (fun k hk => by cases hk)
                  have hjb2 : w2.heap[wa.heap.size]? = some (.cells #[.int .i64 jx, .int .i64 jy] 69 (0, 0)) := (hba2.block _ (by simp)).trans (heap_alloc_new wa _)
                  have hblk : Blk w2 (wa.heap.size + 1) (rowK be tr (jx, jy) qs p 0) := by
                    have : (wa.alloc (.cells #[.int .i64 jx, .int .i64 jy] 69)).heap.size = wa.heap.size + 1 := World.size_alloc _ _
                    rw [this] at hw2
                    unfold Blk
                    rw [hw2]
                    simp [rowK]
                  have hbb2 : Below (wa.heap.size + 1) w2 w2 := Below.refl _ _
                  have hsz2 : wa.heap.size + 1 < w2.heap.size := hblk.lt
                  have Hba2 := Lib.hid hba2
                  have Hjb2 := Lib.hid hjb2
                  have Hblk := Lib.hid hblk
                  clear hba2 hjb2 hblk hw2 hg2 hbb2
                  go_wp2_with fail
                  go_loopg [87] p (fun gk s87 wr => ∃ q : Nat, q + gk = p ∧ s87 = .int .i64 ((q : Nat) : Int) ∧ Blk wr (wa.heap.size + 1) (rowK be tr (jx, jy) qs p q) ∧ Below (wa.heap.size + 1) w2 wr)
                  case atStart => exact ⟨0, by omega, rfl, Hblk.out, Below.refl _ _⟩
                  case round =>
                    obtain ⟨q, hgq, rfl, hbk, hbx⟩ := hrel
                    obtain ⟨wx, rfl⟩ : ∃ wx : World, wx = wr := ⟨_, rfl⟩
                    have Hbk := Lib.hid hbk
                    have Hbx := Lib.hid hbx
                    have hszx := hbx.size
                    have hlen := rowK_len (be := be) (tr := tr) (j := (jx, jy)) (m := p) (p := q) Hl2.out (by omega)
                    clear hbk hbx
                    by_cases hlq : q < p
                    · have hbw : Below w.heap.size w wx := ((Hba.out.alloc hsz _).trans (Hba2.out.mono (by simp; omega))).trans (Hbx.out.mono (by omega))
                      obtain ⟨b2, o2, qx, qy, rfl, hbl2, hq, t0, t1⟩ := (H2.out.below hbw).at2 hlq
                      have i2 : (q : Int) < (p : Int) := by omega
                      have hqok := Hqs.out _ (List.mem_of_getElem? hq)
                      have hjok := Hj.out
                      have hent := ent_bd Hbe.out Htr.out hjok hqok
                      have HR := Lib.hid (rowK_set (be := be) (tr := tr) (j := (jx, jy)) Hl2.out hq)
                      have Hent := Lib.hid hent
                      unfold prOkB at hqok hjok
                      rw [Bool.and_eq_true, inR_iff, inR_iff] at hqok hjok
                      dsimp only at hqok hjok
                      have m1 := hqok.1.1
                      have m2 := hqok.1.2
                      have m3 := hqok.2.1
                      have m4 := hqok.2.2
                      have m5 := hjok.1.1
                      have m6 := hjok.1.2
                      have m7 := hjok.2.1
                      have m8 := hjok.2.2
                      have hjbx : wx.heap[wa.heap.size]? = some (.cells #[.int .i64 jx, .int .i64 jy] 69 (0, 0)) := (Hbx.out.block _ (Nat.lt_succ_self _)).trans Hjb2.out
                      have hqa := below_new wx (.cells #[.int .i64 qx, .int .i64 qy] 67)
                      have hk1 := Hbk.out.below hqa
                      obtain ⟨bc, bf⟩ := hk1.at_ (k := q) (by rw [hlen]; exact hlq)
                      have hk2 := hk1.set q (-1)
                      obtain ⟨bc2, bf2⟩ := hk2.at_ (k := q) (by rw [List.length_set, hlen]; exact hlq)
                      have hjb1 := (hqa.block wa.heap.size (by omega)).trans hjbx
                      have hjb3 := (Below.heap_setCell (wx.alloc (.cells #[.int .i64 qx, .int .i64 qy] 67)) ⟨wa.heap.size + 1, q, none⟩ (.int .i64 (-1)) wa.heap.size (by dsimp only; omega)).trans hjb1
                      have hqb3 := (Below.heap_setCell (wx.alloc (.cells #[.int .i64 qx, .int .i64 qy] 67)) ⟨wa.heap.size + 1, q, none⟩ (.int .i64 (-1)) wx.heap.size (by dsimp only; omega)).trans (heap_alloc_new wx _)
                      obtain ⟨jc0, jc1, _⟩ := cells2 hjb3
                      obtain ⟨qc0, qc1, _⟩ := cells2 hqb3
                      have Hk3 := Lib.hid (show ∀ v : Int, Blk (((wx.alloc (.cells #[.int .i64 qx, .int .i64 qy] 67)).setCell ⟨wa.heap.size + 1, q, none⟩ (.int .i64 (-1))).setCell ⟨wa.heap.size + 1, q, none⟩ (.int .i64 v)) (wa.heap.size + 1) ((rowK be tr (jx, jy) qs p q).set q v) from fun v => by
                        have := hk2.set q v
                        rwa [List.set_set] at this)
                      have Hk2 := Lib.hid hk2
                      have HB1 := Lib.hid (show Below (wa.heap.size + 1) w2 ((wx.alloc (.cells #[.int .i64 qx, .int .i64 qy] 67)).setCell ⟨wa.heap.size + 1, q, none⟩ (.int .i64 (-1))) from (Hbx.out.alloc (by omega) _).setCell (Nat.le_refl _) _)
                      have HB2 := Lib.hid (show ∀ v : Int, Below (wa.heap.size + 1) w2 (((wx.alloc (.cells #[.int .i64 qx, .int .i64 qy] 67)).setCell ⟨wa.heap.size + 1, q, none⟩ (.int .i64 (-1))).setCell ⟨wa.heap.size + 1, q, none⟩ (.int .i64 v)) from fun v => HB1.out.setCell (Nat.le_refl _) _)
                      clear hq hqok hjok hent hbw hjbx hlen hqa hk1 hk2 hjb1 hjb3 hqb3
                      by_cases hle : jy ≤ qy
                      · have He := Lib.hid (ent_wrap (jx := jx) (jy := jy) (qx := qx) (qy := qy) hle Hbe.out Htr.out m1 m2 m3 m4 m5 m6 m7 m8)
                        have HK4 := Lib.hid (show Blk (((wx.alloc (.cells #[.int .i64 qx, .int .i64 qy] 67)).setCell ⟨wa.heap.size + 1, q, none⟩ (.int .i64 (-1))).setCell ⟨wa.heap.size + 1, q, none⟩ (.int .i64 (wrap64 (wrap64 (max (qx - jx) (jx - qx) * be) + wrap64 ((qy - jy) * tr))))) (wa.heap.size + 1) (rowK be tr (jx, jy) qs p (q + 1)) from by
                          rw [← HR.out, ← He.out]; exact Hk3.out _)
                        have HB4 := Lib.hid (HB2.out (wrap64 (wrap64 (max (qx - jx) (jx - qx) * be) + wrap64 ((qy - jy) * tr))))
                        go_wp2_with fail
                        go_roundg (gk - 1)
                        case measure => omega
                        case rel => exact ⟨q + 1, by omega, by go_num, HK4.out, HB4.out⟩
                      · have hlt : qy < jy := by omega
                        have HK4 := Lib.hid (show Blk ((wx.alloc (.cells #[.int .i64 qx, .int .i64 qy] 67)).setCell ⟨wa.heap.size + 1, q, none⟩ (.int .i64 (-1))) (wa.heap.size + 1) (rowK be tr (jx, jy) qs p (q + 1)) from by
                          rw [← HR.out, show ent be tr (jx, jy) (qx, qy) = -1 by unfold ent; rw [if_neg (by show ¬ jy ≤ qy; omega)]]; exact Hk2.out)
                        clear hle
                        go_wp2_with fail
                        go_roundg (gk - 1)
                        case measure => omega
                        case rel => exact ⟨q + 1, by omega, by go_num, HK4.out, HB1.out⟩
                    · obtain rfl : q = p := by omega
                      have hrow : rowK be tr (jx, jy) qs q q = tbRow be tr qs (jx, jy) := by rw [Hl2.out]; exact rowK_end
                      have hk := Hbk.out
                      rw [hrow] at hk
                      have hbw : Below w.heap.size w wx := ((Hba.out.alloc hsz _).trans (Hba2.out.mono (by simp; omega))).trans (Hbx.out.mono (by omega))
                      have hbaw : Below wa.heap.size wa wx := ((below_new wa (.cells #[.int .i64 jx, .int .i64 jy] 69)).trans (Hba2.out.mono (by simp))).trans (Hbx.out.mono (Nat.le_succ _))
                      have Htw := Lib.hid (Ht.out.below (hbaw.trans ((below_new wx (.cells #[.slice (some ⟨wa.heap.size + 1, 0, none⟩) q q] 26)).mono hbaw.size)))
                      have Hbw := Lib.hid hbw
                      have hrl : (tbRow be tr qs (jx, jy)).length = q := by simp [tbRow]; exact Hl2.out.symm
                      have Hown := Lib.hid (own_of_blk (base := w.heap.size) (hk.below (below_new wx (.cells #[.slice (some ⟨wa.heap.size + 1, 0, none⟩) q q] 26))) hrl (by omega) (by unfold maxLen; omega))
                      have Hrl := Lib.hid hrl
                      have hszw := hbw.size
                      clear hrow hk hbw hbaw hrl hlen
                      go_wp2_with (at_builtin; refine wpList_app rfl (.tmp 125) (.tmp 127) _ rfl elemRow w.heap.size _ _ _ rfl Htw.out.own _ _ _ _ rfl (Sl.new _ _ _ 1 1 rfl) (one1s _ _ _) (by unfold maxLen; omega) (by omega) (by simp; omega) ?_; intro A8 c8 w8 ho8 hg8 _; have HT8 := Lib.hid (Htw.out.snoc (by decide) Hrl.out Hown.out (Nat.le_refl _) ho8 hg8); have HB8 := Lib.hid (below_own (Hbw.out.alloc hszw (.cells #[.slice (some ⟨wa.heap.size + 1, 0, none⟩) q q] 26)) Htw.out.own (Nat.le_refl _) (by simp; omega) hg8); clear ho8 hg8)
                      go_roundg gg
                      case measure => omega
                      case rel => exact ⟨i + 1, A8, c8, by omega, by go_num, rfl, ⟨_, by rw [HT.out]; exact HT8.out⟩, HB8.out⟩
                · obtain rfl : i = k := by omega
                  have hs := ht.slr
                  rw [List.take_of_length_le (by rw [Hl1.out]; exact Nat.le_refl _)] at hs
                  have Hf := Lib.hid (Hyes.out wa A c HY.out hs hb)
                  clear hs ht hb
                  go_wp2
                  exact Hf.out
end Go.Proofs.Ytjdhcdoekfikpaa
