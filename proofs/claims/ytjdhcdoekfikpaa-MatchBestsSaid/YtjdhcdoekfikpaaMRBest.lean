/-
  The contracts of the document's best and Best: all assignments are tried; condition: the table is valid.
-/
import Derived.Test.YtjdhcdoekfikpaaMTot
namespace Go.Proofs.Ytjdhcdoekfikpaa
open Go.RowKit

/-- The first columns are an assignment of the first rows. -/
structure FstOk (T : List (List Int)) (m : Nat) (l : List Nat) : Prop where
  nd : l.Nodup
  ok : ∀ i, i < l.length → l.getD i 0 < m ∧ 0 ≤ ct T i (l.getD i 0)
theorem FstOk.snoc {T : List (List Int)} {m k : Nat} {l : List Nat} (h : FstOk T m l) (hk : k < m) (h0 : 0 ≤ ct T l.length k) (hn : k ∉ l) : FstOk T m (l ++ [k]) := by
  refine ⟨List.nodup_append.2 ⟨h.nd, by simp, fun a ha b hb e => ?_⟩, fun i hi => ?_⟩
  · simp at hb; subst hb; subst e; exact hn ha
  · rw [List.length_append] at hi
    simp at hi
    by_cases e : i < l.length
    · rw [List.getD_eq_getElem?_getD, List.getElem?_append_left e, ← List.getD_eq_getElem?_getD]; exact h.ok i e
    · have e' : i = l.length := by omega
      subst e'
      rw [List.getD_eq_getElem?_getD, List.getElem?_append_right (Nat.le_refl _)]
      simp
      exact ⟨hk, h0⟩
theorem FstOk.asg {T : List (List Int)} {m : Nat} {l : List Nat} (h : FstOk T m l) (hl : l.length = T.length) : Asg T m l := ⟨hl, h.nd, fun i hi => h.ok i (by omega)⟩
theorem bruteL_skip {rec : List Nat → Acc → Acc} {T : List (List Int)} {l : List Nat} {m k : Nat} {a : Acc} (hk : k < m) (h : ¬ (0 ≤ ct T l.length k ∧ k ∉ l)) : bruteL rec T l ((List.range m).drop k) a = bruteL rec T l ((List.range m).drop (k + 1)) a := by
  rw [drop_range_cons hk, bruteL, if_neg h]
theorem bruteL_take {rec : List Nat → Acc → Acc} {T : List (List Int)} {l : List Nat} {m k : Nat} {a : Acc} (hk : k < m) (h : 0 ≤ ct T l.length k ∧ k ∉ l) : bruteL rec T l ((List.range m).drop k) a = bruteL rec T l ((List.range m).drop (k + 1)) (rec (l ++ [k]) a) := by
  rw [drop_range_cons hk, bruteL, if_pos h]
theorem mem_take_succ {l : List Nat} {i x k : Nat} (h : l[i]? = some x) : k ∈ l.take (i + 1) ↔ k ∈ l.take i ∨ k = x := by
  obtain ⟨hi, rfl⟩ := List.getElem?_eq_some_iff.1 h
  rw [List.take_succ_eq_append_getElem hi, List.mem_append, List.mem_singleton]
set_option maxRecDepth 100000 in
set_option maxHeartbeats 16000000 in
theorem refbest_any (w0 : World) (A : Option Addr) (n c m : Nat) (T : List (List Int)) (hT : SlR w0 A n T) (hok : TOk T m) :
    ∀ (f : Nat) (l : List Nat) (a : Acc) (Af At : Option Addr) (Lf cf Lt ct' : Nat) (W : World), l.length + f = n → FstOk T m l → Below w0.heap.size w0 W → SlE intE 1 W Af Lf (castL l) → SlE intE 1 W At Lt (castL a.1) → Lt ≤ ct' → ct' ≤ 9223372036854775807 → Lt ≤ 64 →
    Calls Try.prog 50 #[.slice A n c, .slice Af Lf cf, .slice At Lt ct', .int .i64 a.2.1, .bool a.2.2] W fun e W' => ∃ A' L' c', e = .returned (.tuple #[.slice A' L' c', .int .i64 (bruteF T m f l a).2.1, .bool (bruteF T m f l a).2.2]) ∧
      SlE intE 1 W' A' L' (castL (bruteF T m f l a).1) ∧ L' ≤ c' ∧ c' ≤ 9223372036854775807 ∧ L' ≤ 64 ∧ Below W.heap.size W W' := by
  intro f
  induction f with
  | zero =>
    intro l a Af At Lf cf Lt ct' W hlf hF hb hsf hst hc1 hc2 hL64
    refine calls_cps ?_
    intro R hR
    have hTW := hT.below hb
    have hln : l.length = n := by omega
    have hn := hT.1
    have hasg := hF.asg (by rw [hln, hn])
    have htot := totOk_asg hasg
    have hcost : totS T (castL l) n = costA T l := by rw [hn]; exact totS_asg hasg
    have hn64 : n ≤ 64 := by rw [hn]; exact Nat.le_trans hok.nm hok.m64
    have hLf : Lf = n := by rw [hsf.1, castL_len, hln]
    obtain ⟨s, hs⟩ : ∃ s, costA T l = s := ⟨_, rfl⟩
    obtain ⟨lt, sa, isa⟩ := a
    have hbr : bruteF T m 0 l (lt, sa, isa) = if isa = false ∨ s < sa then (l, s, true) else (lt, sa, isa) := by rw [bruteF, hs]
    rw [hbr] at hR
    rw [hs] at hcost
    have Htot := Lib.hid htot
    have Hcost := Lib.hid hcost
    have HTW := Lib.hid hTW
    have Hsf := Lib.hid hsf
    have Hst := Lib.hid hst
    have Hok := Lib.hid hok
    subst hLf
    clear htot hcost hTW hsf hst hok hbr hs hasg hT hb hF hn hln hlf
    have g0 : ((Lf : Int) == (Lf : Int)) = true := by simp
    dsimp only
    go_enter Try.func50, Try.ntmps50
    go_wp2_with fail
    refine (refTotal_any A Lf c m T Af Lf cf (castL l) W HTW.out Hok.out Hsf.out (by omega)).mono ?_
    rw [Hcost.out]
    rintro e w1 ⟨⟨_, rfl⟩ | ⟨h, _⟩, hq⟩
    · have hb1 := hq.below
      have Hb1 := Lib.hid hb1
      have Hsf1 := Lib.hid (Hsf.out.below hb1)
      have Hst1 := Lib.hid (Hst.out.below hb1)
      have h64 := own_new w1 #[] 3 1 0 w1.heap.size rfl (Nat.le_refl _) (by unfold maxLen; omega)
      have HO := Lib.hid h64
      clear hb1 hq h64
      cases isa with
      | false =>
        rw [if_pos (.inl rfl)] at hR
        go_wp2_with (at_builtin; refine wpList_app rfl (.tmp 40) (.tmp 41) _ rfl elemInt w1.heap.size _ _ _ rfl HO.out _ _ _ _ rfl (Hsf1.out.2.alloc _) (int_one _) (by unfold maxLen; omega) (by omega) (by simp) ?_; intro A3 c3 w3 ho3 hg3 _; rw [Nat.zero_add, List.nil_append] at ho3; have hb3 := app_below1 rfl hg3; clear hg3)
        go_ret3
        exact hR.out _ _ ⟨A3, Lf, c3, rfl, SlE.of_own ho3 Hsf1.out.1, (own_lo ho3).2.1, (own_lo ho3).2.2, hn64, Hb1.out.trans (hb3.mono Hb1.out.size)⟩
      | true =>
        by_cases hlt : s < sa
        · rw [if_pos (.inr hlt)] at hR
          go_wp2_with (at_builtin; refine wpList_app rfl (.tmp 40) (.tmp 41) _ rfl elemInt w1.heap.size _ _ _ rfl HO.out _ _ _ _ rfl (Hsf1.out.2.alloc _) (int_one _) (by unfold maxLen; omega) (by omega) (by simp) ?_; intro A3 c3 w3 ho3 hg3 _; rw [Nat.zero_add, List.nil_append] at ho3; have hb3 := app_below1 rfl hg3; clear hg3)
          go_ret3
          exact hR.out _ _ ⟨A3, Lf, c3, rfl, SlE.of_own ho3 Hsf1.out.1, (own_lo ho3).2.1, (own_lo ho3).2.2, hn64, Hb1.out.trans (hb3.mono Hb1.out.size)⟩
        · rw [if_neg (by simp; omega)] at hR
          have Hf := Lib.hid (hR.out (.returned (.tuple #[.slice At Lt ct', .int .i64 sa, .bool true])) w1 ⟨At, Lt, ct', rfl, Hst1.out, hc1, hc2, hL64, Hb1.out⟩)
          go_wp2
          go_ret3
          exact Hf.out
    · exact absurd Htot.out h
  | succ f ih =>
    intro l a Af At Lf cf Lt ct' W hlf hF hb hsf hst hc1 hc2 hL64
    refine calls_cps ?_
    intro R hR
    have hn := hT.1
    have hn64 : n ≤ 64 := by rw [hn]; exact Nat.le_trans hok.nm hok.m64
    have hm64 := hok.m64
    have hnm : n ≤ m := by rw [hn]; exact hok.nm
    have hLf : Lf = l.length := by rw [hsf.1, castL_len]
    obtain ⟨b, o, A0, c0, rfl, hh⟩ := hT.head (by omega)
    rw [hok.wid] at hh
    obtain ⟨b', o', hAb, hbl, _⟩ := hT.2 (by omega)
    simp only [Option.some.injEq, Addr.mk.injEq, and_true] at hAb
    obtain ⟨rfl, rfl⟩ := hAb
    have hlt0 : Lf < n := by omega
    have g0 : ((Lf : Int) == (n : Int)) = false := by simp; omega
    have i0 : 0 < n := by omega
    have i9 : (Lf : Int) < (n : Int) := by omega
    have Hst0 := Lib.hid (show bruteF T m (f + 1) l a = bruteL (bruteF T m f) T l ((List.range m).drop 0) a by rw [bruteF, List.drop_zero])
    have Hih := Lib.hid ih
    have Hhh := Lib.hid hh
    have HT := Lib.hid hT
    have Hb := Lib.hid hb
    have Hok := Lib.hid hok
    have HF := Lib.hid hF
    have Hsf := Lib.hid hsf
    have Hst := Lib.hid hst
    have HLf := Lib.hid hLf
    clear ih hh hT hb hok hF hsf hst hLf hn
    go_enter Try.func50, Try.ntmps50
    go_wp2_with fail
    go_loopg [2, 3, 4, 15] m (fun gk s2 s3 s4 s15 wr => ∃ (k : Nat) (ac : Acc) (A' : Option Addr) (L' c' : Nat), k + gk = m ∧ s15 = .int .i64 ((k : Nat) : Int) ∧ s2 = .slice A' L' c' ∧ s3 = .int .i64 ac.2.1 ∧ s4 = .bool ac.2.2 ∧ SlE intE 1 wr A' L' (castL ac.1) ∧ L' ≤ c' ∧ c' ≤ 9223372036854775807 ∧ L' ≤ 64 ∧ Below W.heap.size W wr ∧
      Hid (bruteF T m (f + 1) l a = bruteL (bruteF T m f) T l ((List.range m).drop k) ac))
    case atStart => exact ⟨0, a, At, Lt, ct', by omega, rfl, rfl, rfl, rfl, Hst.out, hc1, hc2, hL64, Below.refl _ _, Hst0⟩
    case round =>
      obtain ⟨k, ac, A', L', c', hgk, rfl, rfl, rfl, rfl, hs, hd1, hd2, hd3, hbw, He⟩ := hrel
      obtain ⟨wi, rfl⟩ : ∃ wi : World, wi = wr := ⟨_, rfl⟩
      have hb0 := Hb.out.trans (hbw.mono Hb.out.size)
      have hh : wi.cell? ⟨b, o, none⟩ = some (.slice A0 m c0) := (hb0.cell (p := ⟨b, o, none⟩) hbl).trans Hhh.out
      by_cases hlt : k < m
      · obtain ⟨g1, rfl⟩ : ∃ g1, gk = g1 + 1 := ⟨gk - 1, by omega⟩
        obtain ⟨b', o', Ai, ci, bi, oi, e, _, _, t1, rfl, t2⟩ := table_at HT.out Hok.out.rect hb0 hlt0 hlt
        simp only [Option.some.injEq, Addr.mk.injEq, and_true] at e
        obtain ⟨rfl, rfl⟩ := e
        obtain ⟨y, hy⟩ : ∃ y, ct T Lf k = y := ⟨_, rfl⟩
        rw [hy] at t2
        have Hy := Lib.hid hy
        have i1 : (k : Int) < (m : Int) := by omega
        have Hs := Lib.hid hs
        have Hbw := Lib.hid hbw
        have Hb0 := Lib.hid hb0
        clear hy hs hbw hb0
        go_wp2_with fail
        go_loopg [16, 17] Lf (fun g2 s16 s17 wr => ∃ i : Nat, i + g2 = Lf ∧ s17 = .int .i64 ((i : Nat) : Int) ∧ s16 = .bool (decide (0 ≤ y ∧ k ∉ l.take i)) ∧ wr = wi)
        case atStart => exact ⟨0, by omega, rfl, by simp, rfl⟩
        case round =>
          clear t1 t2 hh
          obtain ⟨i, hgi, rfl, rfl, rfl⟩ := hrel
          by_cases hli : i < Lf
          · obtain ⟨b2, o2, x, rfl, _, hx, q0⟩ := (Hsf.out.below Hbw.out).at1 hli
            have hil : i < l.length := by rw [← HLf.out]; exact hli
            obtain ⟨r, hr⟩ : ∃ r, l[i]? = some r := ⟨_, List.getElem?_eq_getElem hil⟩
            obtain rfl : x = (r : Int) := by
              unfold castL at hx
              rw [List.getElem?_map, hr] at hx
              simpa using hx.symm
            have Hmt := Lib.hid (mem_take_succ (k := k) hr)
            have i2 : (i : Int) < (Lf : Int) := by omega
            clear hx hr hil
            by_cases hc : 0 ≤ y ∧ k ∉ l.take i
            · rw [decide_eq_true hc]
              by_cases hrk : r = k
              · have g1 : ((r : Int) != (k : Int)) = false := by simp [hrk]
                have HD := Lib.hid (show decide (0 ≤ y ∧ k ∉ l.take (i + 1)) = false from decide_eq_false (fun h => h.2 (Hmt.out.2 (.inr hrk.symm))))
                clear hc hrk
                go_wp2_with fail
                go_roundg (gk - 1)
                case measure => omega
                case rel => exact ⟨i + 1, by omega, by go_num, by rw [HD.out], rfl⟩
              · have g1 : ((r : Int) != (k : Int)) = true := by simp; omega
                have HD := Lib.hid (show decide (0 ≤ y ∧ k ∉ l.take (i + 1)) = true from decide_eq_true ⟨hc.1, fun h => by
                  rcases Hmt.out.1 h with h | h
                  · exact hc.2 h
                  · exact hrk h.symm⟩)
                clear hc hrk
                go_wp2_with fail
                go_roundg (gk - 1)
                case measure => omega
                case rel => exact ⟨i + 1, by omega, by go_num, by rw [HD.out], rfl⟩
            · rw [decide_eq_false hc]
              have HD := Lib.hid (show decide (0 ≤ y ∧ k ∉ l.take (i + 1)) = false from decide_eq_false (fun h => hc ⟨h.1, fun h' => h.2 (Hmt.out.2 (.inl h'))⟩))
              clear hc
              go_wp2_with fail
              go_roundg (gk - 1)
              case measure => omega
              case rel => exact ⟨i + 1, by omega, by go_num, by rw [HD.out], rfl⟩
          · obtain rfl : i = Lf := by omega
            have htk : l.take i = l := List.take_of_length_le (by rw [← HLf.out]; exact Nat.le_refl _)
            rw [htk]
            clear htk
            by_cases hc : 0 ≤ y ∧ k ∉ l
            · rw [decide_eq_true hc]
              have hcl : 0 ≤ ct T l.length k ∧ k ∉ l := by rw [← HLf.out, Hy.out]; exact hc
              have HE := Lib.hid (show bruteF T m (f + 1) l a = bruteL (bruteF T m f) T l ((List.range m).drop (k + 1)) (bruteF T m f (l ++ [k]) ac) by rw [He.out, bruteL_take hlt hcl])
              have HFs := Lib.hid (HF.out.snoc hlt hcl.1 hcl.2)
              have Hlen := Lib.hid (show (l ++ [k]).length + f = n by simp; omega)
              have hown := own_new wr #[] 3 1 0 wr.heap.size rfl (Nat.le_refl _) (by unfold maxLen; omega)
              have HO := Lib.hid hown
              have Hsw := Lib.hid ((Hsf.out.below Hbw.out).alloc (.cells #[] 3))
              obtain ⟨nx, hnx⟩ : ∃ nx, bruteF T m f (l ++ [k]) ac = nx := ⟨_, rfl⟩
              have Hnx := Lib.hid hnx
              clear hc hcl hown hnx
              go_wp2_with (first
                | (at_builtin; refine wpList_app rfl (.tmp 80) (.tmp 81) _ rfl elemInt wr.heap.size _ _ _ rfl HO.out _ _ _ _ rfl Hsw.out.2 (int_one _) (by unfold maxLen; omega) (by omega) (by simp) ?_; intro A3 c3 w3 ho3 hg3 _; rw [Nat.zero_add, List.nil_append] at ho3; have hb3 := app_below1 rfl hg3)
                | (at_builtin; refine wpList_app rfl (.tmp 82) (.tmp 84) _ rfl elemInt wr.heap.size _ _ _ rfl (ho3.kept (World.grownBy_alloc w3 _ none) (by cases (Value.slice A3 i c3).ownBlock <;> simp)) _ _ _ _ rfl (Sl.new _ _ _ 1 1 rfl) (by simp [Value.oneCell']) (by unfold maxLen; omega) (by omega) (by have := hb3.size; simp; omega) ?_; intro A4 c4 w4 ho4 hg4 _; have hb4 : Below wr.heap.size wr w4 := below_own (hb3.alloc hb3.size _) (ho3.kept (World.grownBy_alloc w3 _ none) (by cases (Value.slice A3 i c3).ownBlock <;> simp)) (Nat.le_refl _) (by have := hb3.size; simp; omega) hg4))
              have hsn : SlE intE 1 w4 A4 (i + 1) (castL (l ++ [k])) := by
                refine SlE.of_own (base := wr.heap.size) (e := 3) (c := c4) (by rw [castL_snoc, List.flatMap_append]; exact ho4) (by rw [castL_len, List.length_append, ← HLf.out]; rfl)
              have Hsn := Lib.hid hsn
              have Hst4 := Lib.hid (Hs.out.below hb4)
              have Hb4 := Lib.hid hb4
              have Hbb4 := Lib.hid (Hb0.out.trans (hb4.mono Hb0.out.size))
              clear hsn ho3 hg3 hb3 ho4 hg4 hb4
              go_wp2_with fail
              refine (Hih.out (l ++ [k]) ac A4 A' (i + 1) c4 L' c' w4 Hlen.out HFs.out Hbb4.out Hsn.out Hst4.out hd1 hd2 hd3).mono ?_
              rw [Hnx.out]
              rintro e w5 ⟨A5, L5, c5, rfl, hs5, hd4, hd5, hd6, hb5⟩
              have HE2 := Lib.hid (show bruteF T m (f + 1) l a = bruteL (bruteF T m f) T l ((List.range m).drop (k + 1)) nx by rw [HE.out, Hnx.out])
              have Hs5 := Lib.hid hs5
              have Hb5 := Lib.hid ((Hbw.out.trans (Hb4.out.mono Hbw.out.size)).trans (hb5.mono (Nat.le_trans Hbw.out.size Hb4.out.size)))
              clear hs5 hb5
              go_wp2_with fail
              go_roundg g1
              case measure => omega
              case rel => exact ⟨k + 1, nx, A5, L5, c5, by omega, by go_num, rfl, rfl, rfl, Hs5.out, hd4, hd5, hd6, Hb5.out, HE2⟩
            · rw [decide_eq_false hc]
              have hcl : ¬ (0 ≤ ct T l.length k ∧ k ∉ l) := by rw [← HLf.out, Hy.out]; exact hc
              have HE := Lib.hid (show bruteF T m (f + 1) l a = bruteL (bruteF T m f) T l ((List.range m).drop (k + 1)) ac by rw [He.out, bruteL_skip hlt hcl])
              clear hc hcl
              go_wp2_with fail
              go_roundg g1
              case measure => omega
              case rel => exact ⟨k + 1, ac, A', L', c', by omega, by go_num, rfl, rfl, rfl, Hs.out, hd1, hd2, hd3, Hbw.out, HE⟩
      · obtain rfl : k = m := by omega
        have he := He.out
        rw [List.drop_of_length_le (by simp), bruteL] at he
        rw [he] at hR
        have Hf := Lib.hid (hR.out (.returned (.tuple #[.slice A' L' c', .int .i64 ac.2.1, .bool ac.2.2])) wi ⟨A', L', c', rfl, hs, hd1, hd2, hd3, hbw⟩)
        clear he hs hbw
        go_wp2
        go_ret3
        exact Hf.out
set_option maxRecDepth 100000 in
set_option maxHeartbeats 4000000 in
theorem refBest_any (w : World) (A : Option Addr) (n c m : Nat) (T : List (List Int)) (hT : SlR w A n T) (hok : TOk T m) :
    Calls Try.prog 25 #[.slice A n c] w fun e w' => ∃ A' L' c', e = .returned (.tuple #[.slice A' L' c', .int .i64 (bruteF T m n [] ([], 0, false)).2.1, .bool (bruteF T m n [] ([], 0, false)).2.2]) ∧
      SlE intE 1 w' A' L' (castL (bruteF T m n [] ([], 0, false)).1) ∧ L' ≤ c' ∧ c' ≤ 9223372036854775807 ∧ L' ≤ 64 ∧ Below w.heap.size w w' := by
  refine calls_cps ?_
  intro R hR
  have hn1 : 1 ≤ n := by rw [hT.1]; exact hok.n1
  have hb := below_two w (.cells #[] 3) (.cells #[] 3)
  have hB := Lib.hid (refbest_any w A n c m T hT hok n [] ([], 0, false) (some ⟨w.heap.size, 0, none⟩) (some ⟨w.heap.size + 1, 0, none⟩) 0 0 0 0 ((w.alloc (.cells #[] 3)).alloc (.cells #[] 3)) (by simp) ⟨List.nodup_nil, fun i hi => absurd hi (by simp)⟩ hb (SlE.nil _ _) (SlE.nil _ _) (Nat.le_refl _) (by omega) (by omega))
  have g0 : ((n : Int) == 0) = false := by simp; omega
  obtain ⟨X, hX⟩ : ∃ X, bruteF T m n [] ([], 0, false) = X := ⟨_, rfl⟩
  rw [hX] at hR hB
  clear hX hT hok
  go_enter Try.func25, Try.ntmps25
  go_wp2_with fail
  refine hB.out.mono ?_
  rintro e w1 ⟨A', L', c', rfl, hs, h1, h2, h3, hb1⟩
  have Hf := Lib.hid (hR.out (.returned (.tuple #[.slice A' L' c', .int .i64 X.2.1, .bool X.2.2])) w1 ⟨A', L', c', rfl, hs, h1, h2, h3, hb.trans (hb1.mono hb.size)⟩)
  clear hs hb1 hb hB
  go_wp2
  go_ret3
  exact Hf.out
theorem refBest_some (w : World) (A : Option Addr) (n c m : Nat) (T : List (List Int)) (hT : SlR w A n T) (hok : TOk T m) (l : List Nat) (s : Int) (h : bestO T m = some (l, s)) :
    Calls Try.prog 25 #[.slice A n c] w fun e w' => ∃ A' c', e = .returned (.tuple #[.slice A' n c', .int .i64 s, .bool true]) ∧ SlE intE 1 w' A' n (castL l) ∧ n ≤ c' ∧ c' ≤ 9223372036854775807 ∧ Below w.heap.size w w' := by
  have hn := hT.1
  have hl := (bestO_some h).asg.len
  unfold bestO at h
  rw [← hn] at h
  have h2 : (bruteF T m n [] ([], 0, false)).2.2 = true ∧ (bruteF T m n [] ([], 0, false)).1 = l ∧ (bruteF T m n [] ([], 0, false)).2.1 = s := by
    split at h
    · rename_i ht
      simp only [Option.some.injEq, Prod.mk.injEq] at h
      exact ⟨ht, h.1, h.2⟩
    · cases h
  refine (refBest_any w A n c m T hT hok).mono ?_
  rw [h2.1, h2.2.1, h2.2.2]
  rintro e w' ⟨A', L', c', rfl, hs, h3, h4, _, hb⟩
  have hL : L' = n := by rw [hs.1, castL_len, hl, hn]
  subst hL
  exact ⟨A', c', rfl, hs, h3, h4, hb⟩
theorem refBest_none (w : World) (A : Option Addr) (n c m : Nat) (T : List (List Int)) (hT : SlR w A n T) (hok : TOk T m) (h : bestO T m = none) :
    Calls Try.prog 25 #[.slice A n c] w fun e w' => ∃ v s, e = .returned (.tuple #[v, .int .i64 s, .bool false]) ∧ Below w.heap.size w w' := by
  unfold bestO at h
  rw [← hT.1] at h
  have h2 : (bruteF T m n [] ([], 0, false)).2.2 = false := by
    split at h
    · cases h
    · rename_i ht; simpa using ht
  refine (refBest_any w A n c m T hT hok).mono ?_
  rw [h2]
  rintro e w' ⟨A', L', c', rfl, _, _, _, _, hb⟩
  exact ⟨_, _, rfl, hb⟩
end Go.Proofs.Ytjdhcdoekfikpaa
