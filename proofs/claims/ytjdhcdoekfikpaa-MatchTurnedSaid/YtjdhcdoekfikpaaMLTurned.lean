/-
  The contract of clavecinlaw05.MatchTurned: true at every input.
-/
import Derived.Test.YtjdhcdoekfikpaaMCut
namespace Go.Proofs.Ytjdhcdoekfikpaa
open Go.RowKit

def colL (T : List (List Int)) (k n : Nat) : List Int := (List.range n).map fun i => ct T i k
def trL (T : List (List Int)) (n k : Nat) : List (List Int) := (List.range k).map fun j => colL T j n
theorem colL_len (T : List (List Int)) (k n : Nat) : (colL T k n).length = n := by simp [colL]
theorem trL_len (T : List (List Int)) (n k : Nat) : (trL T n k).length = k := by simp [trL]
theorem colL_succ (T : List (List Int)) (k n : Nat) : colL T k (n + 1) = colL T k n ++ [ct T n k] := by simp [colL, List.range_succ]
theorem trL_succ (T : List (List Int)) (n k : Nat) : trL T n (k + 1) = trL T n k ++ [colL T k n] := by simp [trL, List.range_succ]
theorem ct_bd {T : List (List Int)} {m : Nat} (h : TOk T m) {i k : Nat} (hi : i < T.length) (hk : k < m) : -1 ≤ ct T i k ∧ ct T i k ≤ 1000000000 := by
  have hm : T.getD i [] ∈ T := by rw [getD_get _ _ _ hi]; exact List.getElem_mem _
  have hl := h.rect _ hm
  refine h.cell _ hm _ ?_
  unfold ct
  rw [getD_get (T.getD i []) _ _ (by rw [hl]; exact hk)]
  exact List.getElem_mem _
theorem ct_tr (T : List (List Int)) {n i k : Nat} (hi : i < n) (hk : k < n) : ct (trL T n n) k i = ct T i k := by
  have h1 : (trL T n n).getD k [] = colL T k n := by rw [getD_get _ _ _ (by rw [trL_len]; exact hk)]; simp [trL]
  show ((trL T n n).getD k []).getD i (-1) = _
  rw [h1, getD_get _ _ _ (by rw [colL_len]; exact hi)]
  simp [colL]
theorem tr_ok {T : List (List Int)} {n : Nat} (h : TOk T n) (hl : T.length = n) : TOk (trL T n n) n := by
  refine ⟨by rw [trL_len]; have := h.n1; omega, by rw [trL_len]; exact Nat.le_refl _, h.m64, fun x hx => ?_, fun x hx c hc => ?_⟩
  · obtain ⟨j, _, rfl⟩ := List.mem_map.1 hx
    exact colL_len _ _ _
  · obtain ⟨j, hj, rfl⟩ := List.mem_map.1 hx
    obtain ⟨i, hi, rfl⟩ := List.mem_map.1 hc
    exact ct_bd h (by rw [hl]; exact List.mem_range.1 hi) (List.mem_range.1 hj)
theorem tabL_w {R C : Nat} {T : List (List Int)} {x : List Int} (h : x ∈ tabL R C T) : x.length ≤ C := by
  obtain ⟨r, _, rfl⟩ := List.mem_map.1 h
  rw [List.length_take]; omega
/-- What Best tells of the cost alone. -/
def sumO (T : List (List Int)) (m : Nat) : Int := ((bestO T m).map (·.2)).getD 0
def codeO (T : List (List Int)) (m : Nat) : Int := if ((bestO T m).map (·.2)).isSome = true then 0 else 6
theorem best_sum (A : Option Addr) (L c m : Nat) (T : List (List Int)) (w : World) (hT : SlR w A L T) (hok : TOk T m) : Calls Try.prog 22 #[.slice A L c] w fun e w' =>
    ∃ (B1 B2 B3 : Option Addr) (k1 d1 k2 d2 k3 d3 : Nat), e = .returned (.tuple #[.agg #[.slice B1 k1 d1, .slice B2 k2 d2, .slice B3 k3 d3, .int .i64 (sumO T m)], .int .i64 (codeO T m)]) ∧ Below w.heap.size w w' := by
  have hl := hT.1
  by_cases hk : kuhn (gT T) m (List.range L) = L
  · refine (best_yes A L c m T w hT hok hk).mono ?_
    rintro e w1 ⟨B1, B2, B3, d1, d2, d3, f, s, lu, lv, rfl, hB, _, _, _, _, _, _, _, _, _, hb⟩
    have hs : sumO T m = s := by rw [sumO, bestO_eq hB.best]; rfl
    have hc : codeO T m = 0 := by rw [codeO, bestO_eq hB.best]; rfl
    rw [hs, hc]
    exact ⟨_, _, _, _, _, _, _, _, _, rfl, hb⟩
  · refine (best_none A L c m T w hT hok hk).mono ?_
    rintro e w1 ⟨rfl, hb⟩
    have hn : bestO T m = none := (bestO_iff T m).2 (by rw [← hl]; exact hk)
    have hs : sumO T m = 0 := by rw [sumO, hn]; rfl
    have hc : codeO T m = 6 := by rw [codeO, hn]; rfl
    rw [hs, hc]
    exact ⟨_, _, _, _, _, _, _, _, _, rfl, hb⟩
set_option maxRecDepth 100000 in
set_option maxHeartbeats 8000000 in
theorem turned_any (A : Option Addr) (n c : Nat) (T : List (List Int)) (w : World) (hT : SlRc w A n T) (hn : n ≤ 9223372036854775807) :
    Calls Try.prog 12 #[.slice A n c] w fun e w' => e = .returned (.bool true) ∧ Below w.heap.size w w' := by
  refine calls_cps ?_
  intro R hR
  obtain ⟨T1, hT1⟩ : ∃ T1, tabL 20 20 T = T1 := ⟨_, rfl⟩
  obtain ⟨L, hL⟩ : ∃ L, T1.length = L := ⟨_, rfl⟩
  have HT1 := Lib.hid hT1
  have HL := Lib.hid hL
  have HT := Lib.hid hT
  clear hT1 hL hT
  go_enter Try.func12, Try.ntmps12
  go_wp2_with fail
  refine (table_tc A n c T _ _ 20 20 rfl rfl (by omega) (by omega) _ HT.out hn).mono ?_
  rw [HT1.out, HL.out]
  rintro e w1 ⟨A1, c1, rfl, h1⟩
  by_cases hL0 : L = 0
  · subst hL0
    have hb : tabB T1 = false := by simp [tabB, HL.out]
    have Hb := Lib.hid hb
    clear hb
    go_wp2_with fail
    refine (refCheck_noT w A1 0 c1 T1 _ h1 Hb.out).mono ?_
    rintro e w3 ⟨rfl, h3⟩
    go_wp2_with fail
    refine (lives_T w A1 0 c1 T1 _ h3).mono ?_
    rintro e w6 ⟨rfl, h6⟩
    have Hf := Lib.hid (hR.out (.returned (.bool true)) w6 ⟨rfl, h6.bel⟩)
    clear h1 h3 h6
    go_wp2
    exact Hf.out
  · obtain ⟨T2, hT2⟩ : ∃ T2, tabL L L T1 = T2 := ⟨_, rfl⟩
    have hl2 : T2.length = L := by rw [← hT2, tabL_len, HL.out]; exact Nat.min_self _
    have hw2 : ∀ x ∈ T2, x.length ≤ L := fun x hx => tabL_w (by rw [hT2]; exact hx)
    have i0 : (0 : Int) < (L : Int) := by omega
    have HT2 := Lib.hid hT2
    have Hl2 := Lib.hid hl2
    have hL66 := h1.l66
    have Hw2 := Lib.hid hw2
    clear hT2 hl2 hw2 hL0
    go_wp2_with fail
    refine (table_tc A1 L c1 T1 _ _ L L rfl rfl hL66 hL66 _ h1.rc (by omega)).mono ?_
    rw [HT2.out, Hl2.out]
    rintro e w2 ⟨A2, c2, rfl, h2⟩
    have h2 : Tc w w2 A2 L c2 T2 := ⟨h2.rc, h2.l66, h1.bel.trans (h2.bel.mono h1.bel.size)⟩
    clear h1
    by_cases hb : tabB T2 = true
    · obtain ⟨m, hok⟩ := tok_of hb
      have hmL : m = L := by
        have h3 := hok.nm
        have h4 := hok.n1
        obtain ⟨x, hx⟩ : ∃ x, x ∈ T2 := ⟨T2[0], List.getElem_mem _⟩
        have h5 := hok.rect x hx
        have h6 := Hw2.out x hx
        rw [Hl2.out] at h3
        omega
      subst hmL
      have Hok := Lib.hid hok
      have Hb := Lib.hid hb
      clear hok hb
      go_wp2_with fail
      refine (refCheck_yesT w A2 m c2 T2 _ h2 Hb.out).mono ?_
      rintro e w3 ⟨rfl, h3⟩
      have H3 := Lib.hid h3
      clear h2 h3
      go_wp2_with fail
      go_loopg [4, 5, 6, 7] m (fun gk s4 s5 s6 s7 wr => ∃ (k : Nat) (A4 : Option Addr) (c4 : Nat), k + gk = m ∧ s5 = .int .i64 ((k : Nat) : Int) ∧ s4 = .slice A4 k c4 ∧ TblR wr w3.heap.size 26 3 (.slice A4 k c4) k (trL T2 m k) ∧ Below w3.heap.size w3 wr)
      case atStart => exact ⟨0, _, _, by omega, rfl, rfl, ⟨[], by simp [trL]; exact TblO.start (own_new w3 #[] 26 1 0 w3.heap.size rfl (Nat.le_refl _) (by unfold maxLen; omega))⟩, below_new w3 _⟩
      case round =>
        obtain ⟨k, A4, c4, hgk, rfl, rfl, ht, hb⟩ := hrel
        obtain ⟨wi, rfl⟩ : ∃ wi : World, wi = wr := ⟨_, rfl⟩
        by_cases hlt : k < m
        · obtain ⟨g1, rfl⟩ : ∃ g1, gk = g1 + 1 := ⟨gk - 1, by omega⟩
          have i1 : (k : Int) < (m : Int) := by omega
          have hsz := hb.size
          obtain ⟨outer, ht⟩ := ht
          have Ht := Lib.hid ht
          have Hb2 := Lib.hid hb
          clear ht hb
          go_wp2_with fail
          go_loopg [6, 7] m (fun gk s6 s7 wx => ∃ (i : Nat) (A6 : Option Addr) (c6 : Nat), i + gk = m ∧ s7 = .int .i64 ((i : Nat) : Int) ∧ s6 = .slice A6 i c6 ∧ wx.ownsRow wi.heap.size 3 1 (.slice A6 i c6) i ((colL T2 k i).flatMap intE) ∧ Below wi.heap.size wi wx)
          case atStart => exact ⟨0, _, _, by omega, rfl, rfl, own_new wi #[] 3 1 0 wi.heap.size rfl (Nat.le_refl _) (by unfold maxLen; omega), below_new wi _⟩
          case round =>
            obtain ⟨i, A6, c6, hgi, rfl, rfl, ho, hb⟩ := hrel
            obtain ⟨wx, rfl⟩ : ∃ wx : World, wx = wr := ⟨_, rfl⟩
            by_cases hli : i < m
            · have i2 : (i : Int) < (m : Int) := by omega
              have hsx := hb.size
              obtain ⟨b, o, r, Ai, ci, rfl, _, hr, hcell, _, _, hsl⟩ := (H3.out.rc.below (Hb2.out.trans (hb.mono hsz))).at_ hli
              have hrl : r.length = m := Hok.out.rect r (List.mem_of_getElem? hr)
              rw [hrl] at hcell hsl
              obtain ⟨b', o', x, rfl, _, hx, hcx⟩ := hsl.at1 hlt
              have hxc : ct T2 i k = x := by
                show (T2.getD i []).getD k (-1) = x
                rw [List.getD_eq_getElem?_getD (l := T2), hr]
                show r.getD k (-1) = x
                rw [List.getD_eq_getElem?_getD, hx]; rfl
              have Hst := Lib.hid (show colL T2 k (i + 1) = colL T2 k i ++ [x] by rw [colL_succ, hxc])
              have Ho := Lib.hid ho
              have Hb3 := Lib.hid hb
              clear hr hrl hsl hx hxc ho hb
              go_wp2_with (at_builtin; refine wpList_app rfl (.tmp 45) (.tmp 53) _ rfl elemInt wi.heap.size _ _ _ rfl (Ho.out.kept (World.grownBy_alloc wx _ none) (by cases (Value.slice A6 i c6).ownBlock <;> simp)) _ _ _ _ rfl (Sl.new _ _ _ 1 1 rfl) (by simp [Value.oneCell']) (by unfold maxLen; omega) (by omega) (by simp; omega) ?_; intro A7 c7 w7 ho7 hg7 _; have HB := Lib.hid (below_own (Hb3.out.alloc hsx _) (Ho.out.kept (World.grownBy_alloc wx _ none) (by cases (Value.slice A6 i c6).ownBlock <;> simp)) (Nat.le_refl _) (by simp; omega) hg7); have HO := Lib.hid (show w7.ownsRow wi.heap.size 3 1 (.slice A7 (i + 1) c7) (i + 1) ((colL T2 k (i + 1)).flatMap intE) from by rw [Hst.out, List.flatMap_append]; exact ho7); clear ho7 hg7)
              go_roundg (gk - 1)
              case measure => omega
              case rel => exact ⟨i + 1, A7, c7, by omega, by go_num, rfl, HO.out, HB.out⟩
            · obtain rfl : i = m := by omega
              have Ho := Lib.hid ho
              have Hb3 := Lib.hid hb
              have hsx := hb.size
              have Hst := Lib.hid (trL_succ T2 i k)
              clear ho hb
              go_wp2_with (at_builtin; refine wpList_app rfl (.tmp 55) (.tmp 57) _ rfl elemRow w3.heap.size _ _ _ rfl ((Ht.out.below Hb3.out).own.kept (World.grownBy_alloc wx _ none) (by cases (Value.slice A4 k c4).ownBlock <;> simp)) _ _ _ _ rfl (Sl.new _ _ _ 1 1 rfl) (one1s _ _ _) (by unfold maxLen; omega) (by omega) (by simp; omega) ?_; intro A8 c8 w8 ho8 hg8 _)
              have ht2 := (Ht.out.below (Hb3.out.trans ((below_new wx (.cells #[.slice A6 i c6] 26)).mono hsx))).snoc (by decide) (colL_len T2 k i) ((own_base' Ho.out hsz).kept (World.grownBy_alloc wx _ none) (by cases (Value.slice A6 i c6).ownBlock <;> simp)) (own_lo Ho.out).2.1 ho8 hg8
              have hb2 : Below w3.heap.size w3 w8 := below_own ((Hb2.out.trans (Hb3.out.mono hsz)).alloc (Nat.le_trans hsz hsx) (.cells #[.slice A6 i c6] 26)) ((Ht.out.below Hb3.out).own.kept (World.grownBy_alloc wx _ none) (by cases (Value.slice A4 k c4).ownBlock <;> simp)) (Nat.le_refl _) (by simp; omega) hg8
              rw [← Hst.out] at ht2
              have HT3 := Lib.hid ht2
              have HB3 := Lib.hid hb2
              clear ho8 hg8 ht2 hb2
              go_roundg g1
              case measure => omega
              case rel => exact ⟨k + 1, A8, c8, by omega, by go_num, rfl, ⟨_, HT3.out⟩, HB3.out⟩
        · obtain rfl : k = m := by omega
          have hd := ht.slr
          obtain ⟨D, hD⟩ : ∃ D, trL T2 k k = D := ⟨_, rfl⟩
          have hokD : TOk D k := by rw [← hD]; exact tr_ok Hok.out Hl2.out
          have hDl : D.length = k := by rw [← hD]; exact trL_len _ _ _
          have hct : ∀ i j, i < T2.length → j < T2.length → ct D j i = ct T2 i j := fun i j hi hj => by
            rw [Hl2.out] at hi hj
            rw [← hD]; exact ct_tr T2 hi hj
          have hlaw := turned_law (T := T2) (T' := D) (by rw [hDl, Hl2.out]) hct
          rw [hDl, Hl2.out] at hlaw
          have hs : sumO D k = sumO T2 k := by rw [sumO, hlaw, sumO]
          have hc : codeO D k = codeO T2 k := by rw [codeO, hlaw, codeO]
          have hq : kuhn (gT D) k (List.range k) = kuhn (gT T2) k (List.range k) := turned_kuhn fun i j hi hj => by
            unfold gT; rw [hct i j (by rw [Hl2.out]; exact hi) (by rw [Hl2.out]; exact hj)]
          rw [hD] at hd
          obtain ⟨K, hK⟩ : ∃ K, kuhn (gT T2) k (List.range k) = K := ⟨_, rfl⟩
          rw [hK] at hq
          obtain ⟨s, hs2⟩ : ∃ s, sumO T2 k = s := ⟨_, rfl⟩
          obtain ⟨e0, hc2⟩ : ∃ e0, codeO T2 k = e0 := ⟨_, rfl⟩
          rw [hs2] at hs
          rw [hc2] at hc
          have Hs := Lib.hid hs
          have Hs2 := Lib.hid hs2
          have Hc := Lib.hid hc
          have Hc2 := Lib.hid hc2
          have Hq := Lib.hid hq
          have HK := Lib.hid hK
          have HokD := Lib.hid hokD
          have Hd := Lib.hid hd
          have H4 := Lib.hid (H3.out.below hb)
          clear hd hD hokD hDl hct hlaw hs hc hq hK hs2 hc2 ht hb
          go_wp2_with fail
          refine (best_sum A2 k c2 k T2 _ H4.out.rc.slr Hok.out).mono ?_
          rw [Hs2.out, Hc2.out]
          rintro e w5 ⟨B1, B2, B3, k1, d1, k2, d2, k3, d3, rfl, hb5⟩
          have hba := hb5.trans ((below_new w5 (.cells #[.slice B1 k1 d1, .slice B2 k2 d2, .slice B3 k3 d3, .int .i64 s] 28)).mono hb5.size)
          have H5 := Lib.hid (H4.out.below hba)
          have Hd5 := Lib.hid (Hd.out.below hba)
          have Hx5 := Lib.hid (heap_alloc_new w5 (.cells #[.slice B1 k1 d1, .slice B2 k2 d2, .slice B3 k3 d3, .int .i64 s] 28))
          clear hb5 hba
          go_wp2_with fail
          refine (best_sum A4 k c4 k D _ Hd5.out HokD.out).mono ?_
          rw [Hs.out, Hc.out]
          rintro e w6 ⟨C1, C2, C3, m1, f1, m2, f2, m3, f3, rfl, hb6⟩
          have hba := hb6.trans ((below_new w6 (.cells #[.slice C1 m1 f1, .slice C2 m2 f2, .slice C3 m3 f3, .int .i64 s] 28)).mono hb6.size)
          have H6 := Lib.hid (H5.out.below hba)
          have Hd6 := Lib.hid (Hd5.out.below hba)
          have Hx6 := Lib.hid ((hba.block _ (Array.getElem?_eq_some_iff.1 Hx5.out).1).trans Hx5.out)
          have Hy6 := Lib.hid (heap_alloc_new w6 (.cells #[.slice C1 m1 f1, .slice C2 m2 f2, .slice C3 m3 f3, .int .i64 s] 28))
          clear hb6 hba
          go_wp2_with fail
          refine (most_yes A2 k c2 k T2 _ H6.out.rc.slr Hok.out).mono ?_
          rw [HK.out]
          rintro e w7 ⟨rfl, hb7⟩
          have H7 := Lib.hid (H6.out.below hb7)
          have Hd7 := Lib.hid (Hd6.out.below hb7)
          have Hx7 := Lib.hid ((hb7.block _ (Array.getElem?_eq_some_iff.1 Hx6.out).1).trans Hx6.out)
          have Hy7 := Lib.hid ((hb7.block _ (Array.getElem?_eq_some_iff.1 Hy6.out).1).trans Hy6.out)
          clear hb7
          go_wp2_with fail
          refine (most_yes A4 k c4 k D _ Hd7.out HokD.out).mono ?_
          rw [Hq.out]
          rintro e w8 ⟨rfl, hb8⟩
          have H8 := Lib.hid (H7.out.below hb8)
          have Hx8 := Lib.hid ((hb8.block _ (Array.getElem?_eq_some_iff.1 Hx7.out).1).trans Hx7.out)
          have Hy8 := Lib.hid ((hb8.block _ (Array.getElem?_eq_some_iff.1 Hy7.out).1).trans Hy7.out)
          clear hb8
          obtain ⟨r0, r1, r2, r3, r4⟩ := cells4 Hx8.out
          obtain ⟨q0, q1, q2, q3, q4⟩ := cells4 Hy8.out
          have g1 : (e0 == e0) = true := by simp
          have g2 : (s == s) = true := by simp
          have g3 : ((K : Int) == (K : Int)) = true := by simp
          go_wp2_with fail
          refine (lives_T w A2 k c2 T2 _ H8.out).mono ?_
          rintro e w9 ⟨rfl, h9⟩
          have Hf := Lib.hid (hR.out (.returned (.bool true)) w9 ⟨rfl, h9.bel⟩)
          clear h9
          go_wp2
          exact Hf.out
    · have hb' : tabB T2 = false := by simpa using hb
      have Hb := Lib.hid hb'
      clear hb hb'
      go_wp2_with fail
      refine (refCheck_noT w A2 L c2 T2 _ h2 Hb.out).mono ?_
      rintro e w3 ⟨rfl, h3⟩
      go_wp2_with fail
      refine (lives_T w A2 L c2 T2 _ h3).mono ?_
      rintro e w6 ⟨rfl, h6⟩
      have Hf := Lib.hid (hR.out (.returned (.bool true)) w6 ⟨rfl, h6.bel⟩)
      clear h2 h3 h6
      go_wp2
      exact Hf.out
end Go.Proofs.Ytjdhcdoekfikpaa
