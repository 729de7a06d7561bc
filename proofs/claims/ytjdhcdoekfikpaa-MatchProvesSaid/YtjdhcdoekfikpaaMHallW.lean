/-
  The contract of match.Hall: rows that have too few columns; condition: the table reads.
-/
import Derived.Test.YtjdhcdoekfikpaaMDel
import Derived.Test.YtjdhcdoekfikpaaMHall
namespace Go.Proofs.Ytjdhcdoekfikpaa
open Go.RowKit

def castL (S : List Nat) : List Int := S.map fun (i : Nat) => (i : Int)
theorem castL_len (S : List Nat) : (castL S).length = S.length := by simp [castL]
theorem idxL_mem {S : List Nat} {r : Nat} (h : r ∈ S) : ∃ j, idxL (r : Int) (castL S) 0 = ((j : Nat) : Int) ∧ S[j]? = some r := by
  rcases idxL_spec (r : Int) (castL S) 0 with ⟨_, h2⟩ | ⟨j, h1, h2⟩
  · exact absurd (List.mem_map.2 ⟨r, h, rfl⟩) h2
  · refine ⟨j, by rw [h1, Nat.zero_add], ?_⟩
    unfold castL at h2
    rw [List.getElem?_map] at h2
    cases hx : S[j]? with
    | none => rw [hx] at h2; simp at h2
    | some x => rw [hx] at h2; simp at h2; rw [show x = r by omega]
theorem erase_idx : ∀ {S : List Nat} {j r : Nat}, S.Nodup → S[j]? = some r → S.eraseIdx j = S.erase r
  | [], j, r, _, h => by simp at h
  | a :: l, 0, r, _, h => by simp at h; subst h; simp
  | a :: l, j + 1, r, hn, h => by
    have h' : l[j]? = some r := by simpa using h
    have hr : r ∈ l := List.mem_of_getElem? h'
    have hne : a ≠ r := fun e => (List.nodup_cons.1 hn).1 (e ▸ hr)
    rw [List.eraseIdx_cons_succ, List.erase_cons_tail (by simpa using hne), erase_idx (List.nodup_cons.1 hn).2 h']
theorem castL_eraseIdx (S : List Nat) (j : Nat) : (castL S).eraseIdx j = castL (S.eraseIdx j) := by
  apply List.ext_getElem?
  intro a
  simp only [castL, List.getElem?_eraseIdx, List.getElem?_map]
  split <;> rfl
/-- The graph in its block, and the table. -/
structure HG (w W : World) (gb g n c m : Nat) (A : Option Addr) (T : List (List Int)) : Prop where
  gbx : W.heap[gb]? = some (.cells #[.int .i64 (n : Int), .int .i64 (m : Int), .func (.func 65) #[] #[.pointer (some ⟨g, 0, none⟩)]] 83 (0, 0))
  bx : W.heap[g]? = some (.cells #[.slice A n c] 22 (0, 0))
  tb : SlR W A n T
  bel : Below w.heap.size w W
theorem HG.below {w W W1 : World} {gb g n c m : Nat} {A : Option Addr} {T : List (List Int)} (h : HG w W gb g n c m A T) (hb : Below W.heap.size W W1) : HG w W1 gb g n c m A T :=
  ⟨(hb.block gb (Array.getElem?_eq_some_iff.1 h.gbx).1).trans h.gbx, (hb.block g (Array.getElem?_eq_some_iff.1 h.bx).1).trans h.bx, h.tb.below hb, h.bel.trans (hb.mono h.bel.size)⟩
theorem below_grown_new {W0 W W1 : World} {g : Nat} (hb : Below W0.heap.size W0 W) (hg : W.grownBy W1 (some g)) (hl : W0.heap.size ≤ g) : Below W0.heap.size W0 W1 := hb.grown hg hb.size (fun k hk => by injection hk with hk; omega)
set_option maxRecDepth 100000 in
set_option maxHeartbeats 2000000 in
theorem hall_no (A : Option Addr) (n c : Nat) (T : List (List Int)) (w : World) (hT : SlR w A n T) (hn : n ≤ 9223372036854775807) (hrow : ∀ r ∈ T, r.length ≤ 9223372036854775807) (ht : tabB T = false) :
    Calls Try.prog 28 #[.slice A n c] w fun e w' => e = .returned (.tuple #[.slice none 0 0, .int .i64 1]) ∧ Below w.heap.size w w' := by
  refine calls_cps ?_
  intro R hR
  go_enter Try.func28, Try.ntmps28
  go_wp2_with (go_at_call 36; refine (check_any _ _ _ T _ hT hn hrow).mono ?_; rw [ht]; rintro e w1 ⟨rfl, rfl⟩)
  exact hR.out _ _ ⟨rfl, Below.refl _ _⟩
set_option maxRecDepth 100000 in
set_option maxHeartbeats 4000000 in
theorem hall_yes (A : Option Addr) (n c m : Nat) (T : List (List Int)) (w : World) (hT : SlR w A n T) (hok : TOk T m) :
    Calls Try.prog 28 #[.slice A n c] w fun e w' => (if kuhn (gT T) m (List.range n) = n then e = .returned (.tuple #[.slice none 0 0, .int .i64 6])
      else ∃ A' c', e = .returned (.tuple #[.slice A' (hallF (gT T) m (List.range n) (List.range n)).length c', .int .i64 0]) ∧ SlE intE 1 w' A' (hallF (gT T) m (List.range n) (List.range n)).length (castL (hallF (gT T) m (List.range n) (List.range n))) ∧
        (hallF (gT T) m (List.range n) (List.range n)).length ≤ c' ∧ c' ≤ 9223372036854775807) ∧ Below w.heap.size w w' := by
  refine calls_cps ?_
  intro R hR
  have hn64 : n ≤ 64 := by rw [hT.1]; exact Nat.le_trans hok.nm hok.m64
  have hrow : ∀ r ∈ T, r.length ≤ 9223372036854775807 := fun r hr => by rw [hok.rect r hr]; have := hok.m64; omega
  have ht : tabB T = true := tabB_iff.2 (by rw [hok.wid]; exact hok)
  have hn1 : 1 ≤ n := by rw [hT.1]; exact hok.n1
  have hm1 : 1 ≤ m := Nat.le_trans hok.n1 hok.nm
  have hm64 := hok.m64
  obtain ⟨K, hK⟩ : ∃ K, kuhn (gT T) m (List.range n) = K := ⟨_, rfl⟩
  obtain ⟨Hs, hHs⟩ : ∃ Hs, hallF (gT T) m (List.range n) (List.range n) = Hs := ⟨_, rfl⟩
  rw [hK, hHs] at hR
  have HK := Lib.hid hK
  have HHs := Lib.hid hHs
  have HT := Lib.hid hT
  have Hok := Lib.hid hok
  have Hrow := Lib.hid hrow
  have Ht := Lib.hid ht
  clear hK hT hok hrow ht hHs
  go_enter Try.func28, Try.ntmps28
  go_wp2_with fail
  refine (check_any _ _ _ T _ HT.out (by omega) Hrow.out).mono ?_
  rw [if_pos Ht.out]
  rintro e w0 ⟨rfl, rfl⟩
  go_wp2_with fail
  refine (allowed_any _ _ _ m T _ HT.out Hok.out).mono ?_
  rintro e w1 ⟨g, rfl, hbx, hg, hb1⟩
  have hG : HG w (w1.alloc (.cells #[.int .i64 (n : Int), .int .i64 (m : Int), .func (.func 65) #[] #[.pointer (some ⟨g, 0, none⟩)]] 83)) w1.heap.size g n c m A T :=
    ⟨heap_alloc_new w1 _, ((below_new w1 _).block g (Array.getElem?_eq_some_iff.1 hbx).1).trans hbx, (HT.out.below hb1).below (below_new w1 _), hb1.alloc hb1.size _⟩
  have HG0 := Lib.hid hG
  clear hbx hb1 hG hg
  go_wp2_with fail
  refine (numbers_any n (by omega) _).mono ?_
  rintro e w2 ⟨g2, rfl, hg2, hblk, hb2⟩
  have hG := HG0.out.below hb2
  obtain ⟨q0, q1, q2, q3⟩ := cells3' hG.gbx
  have HG2 := Lib.hid hG
  have HN := Lib.hid (slE_of_block (n := n) hblk (by simp))
  obtain ⟨gb, hgb⟩ : ∃ gb, w1.heap.size = gb := ⟨_, rfl⟩
  rw [hgb] at HG2 q0 q1 q2 q3
  have Hgb := Lib.hid hgb
  clear hb2 hG hg2 hblk hgb
  go_wp2_with (rw [Hgb.out])
  refine (matched_any n m n _ _ (gT T) Enters65 w2 (allowed_may w2 g n c m _ T HG2.out.tb Hok.out HG2.out.bx) hm1 (by omega) (by omega) _ _ n (List.range n) (by omega) (range_lt n) HN.out).mono ?_
  rw [HK.out]
  rintro e w3 ⟨bp, rfl, hb3⟩
  have HG3 := Lib.hid (HG2.out.below hb3)
  have HN3 := Lib.hid (HN.out.below hb3)
  clear hb3 q0 q1 q2 q3
  by_cases hKn : K = n
  · have g0 : ((K : Int) == n) = true := by simp [hKn]
    have Hf := Lib.hid (hR.out (.returned (.tuple #[.slice none 0 0, .int .i64 6])) w3 (by rw [if_pos hKn]; exact ⟨rfl, HG3.out.bel⟩))
    clear hKn
    go_wp2
    exact Hf.out
  have g0 : ((K : Int) == n) = false := by simp; omega
  have Hfin := Lib.hid (show ∀ (A' : Option Addr) (c' : Nat) (W' : World), SlE intE 1 W' A' Hs.length (castL Hs) → Hs.length ≤ c' → c' ≤ 9223372036854775807 → Below w.heap.size w W' → R (.returned (.tuple #[.slice A' Hs.length c', .int .i64 0])) W' from
    fun A' c' W' h1 h2 h3 h4 => hR.out _ _ (by rw [if_neg hKn]; exact ⟨⟨A', c', rfl, h1, h2, h3⟩, h4⟩))
  have Hlt := Lib.hid (show kuhn (gT T) m (List.range n) < (List.range n).length by
    have := kuhn_le (gT T) m (List.range n) (nodup_range n)
    rw [HK.out] at this ⊢
    rw [List.length_range] at this ⊢
    omega)
  clear hKn hR
  go_wp2_with fail
  refine (numbers_any n (by omega) _).mono ?_
  rintro e w4 ⟨g4, rfl, hg4, hblk, hb4⟩
  have HG4 := Lib.hid (HG3.out.below hb4)
  have HN4 := Lib.hid (HN3.out.below hb4)
  have HM4 := Lib.hid (slE_of_block (n := n) hblk (by simp))
  clear hb4 hg4 hblk
  go_wp2_with fail
  go_loopg [6, 10, 39] n (fun gk s6 s10 s39 wr => ∃ (k L ga ca : Nat) (S : List Nat), k + gk = n ∧ s39 = .int .i64 ((k : Nat) : Int) ∧ s6 = .slice (some ⟨ga, 0, none⟩) L ca ∧ L ≤ n ∧ L ≤ ca ∧ ca ≤ 9223372036854775807 ∧ HG w wr gb g n c m A T ∧ SlE intE 1 wr (some ⟨g4, 0, none⟩) n (numL n) ∧
    SlE intE 1 wr (some ⟨ga, 0, none⟩) L (castL S) ∧ Hid (S.Nodup ∧ (∀ r ∈ S, r < n) ∧ (∀ r ∈ (List.range n).drop k, r ∈ S) ∧ hallF (gT T) m (List.range n) (List.range n) = hallF (gT T) m ((List.range n).drop k) S))
  case atStart => exact ⟨0, n, g2, n, List.range n, by omega, rfl, rfl, Nat.le_refl _, Nat.le_refl _, by omega, HG4.out, HM4.out, HN4.out, Lib.hid ⟨nodup_range n, range_lt n, fun r hr => hr, rfl⟩⟩
  case round =>
    obtain ⟨k, L, ga, ca, S, hgk, rfl, rfl, hLn, hLc, hc63, hG, hM, hN, HS⟩ := hrel
    obtain ⟨wi, rfl⟩ : ∃ wi : World, wi = wr := ⟨_, rfl⟩
    by_cases hlt : k < n
    · obtain ⟨b, o, x, e, hbl, hxk, hcell⟩ := hM.at1 hlt
      simp only [Option.some.injEq, Addr.mk.injEq, and_true] at e
      obtain ⟨rfl, rfl⟩ := e
      obtain rfl : x = (k : Int) := by
        unfold numL at hxk
        rw [List.getElem?_map, List.getElem?_range hlt] at hxk
        simpa using hxk.symm
      rw [Nat.zero_add] at hcell
      have hkS : k ∈ S := HS.out.2.2.1 k (by rw [drop_range_cons hlt]; simp)
      obtain ⟨j, hj, hjS⟩ := idxL_mem hkS
      have hLS : L = S.length := by rw [hN.1, castL_len]
      have hjL : j < L := by rw [hLS]; exact (List.getElem?_eq_some_iff.1 hjS).1
      have i1 : (k : Int) < (n : Int) := by omega
      have z1 : IntKind.i64.wrap ((j : Int) + 1) = (j : Int) + 1 := IntWalk.i64_in _ (by omega)
      obtain ⟨L1, rfl⟩ : ∃ L1, L = L1 + 1 := ⟨L - 1, by omega⟩
      have hS' : (castL S).eraseIdx j = castL (S.erase k) := by rw [castL_eraseIdx, erase_idx HS.out.1 hjS]
      have hSl : L1 = (S.erase k).length := by rw [List.length_erase_of_mem hkS]; omega
      have hSn : (S.erase k).Nodup := erase_nodup HS.out.1 k
      have hSm : ∀ r ∈ S.erase k, r < n := fun r hr => HS.out.2.1 r ((mem_erase HS.out.1).1 hr).2
      have hSd : ∀ r ∈ (List.range n).drop (k + 1), r ∈ S.erase k := fun r hr => (mem_erase HS.out.1).2 ⟨by have := (mem_drop_range.1 hr).1; omega, HS.out.2.2.1 r (by rw [drop_range_cons hlt]; simp [hr])⟩
      have hSd2 : ∀ r ∈ (List.range n).drop (k + 1), r ∈ S := fun r hr => HS.out.2.2.1 r (by rw [drop_range_cons hlt]; simp [hr])
      obtain ⟨K', hK'⟩ : ∃ K', kuhn (gT T) m (S.erase k) = K' := ⟨_, rfl⟩
      have hst : hallF (gT T) m (List.range n) (List.range n) = if K' < L1 then hallF (gT T) m ((List.range n).drop (k + 1)) (S.erase k) else hallF (gT T) m ((List.range n).drop (k + 1)) S := by
        rw [HS.out.2.2.2, drop_range_cons hlt, hallF, hK', ← hSl]
      have Hj := Lib.hid hj
      have HX := Lib.hid (And.intro hSn (And.intro hSm (And.intro hSd hSd2)))
      have HS' := Lib.hid hS'
      have HSl := Lib.hid hSl
      have HK' := Lib.hid hK'
      have Hst := Lib.hid hst
      have HG5 := Lib.hid hG
      have HM5 := Lib.hid hM
      have HN5 := Lib.hid hN
      have HLS := Lib.hid hLS
      clear hj hkS hjS hS' hSl hSn hSm hSd hSd2 hK' hst hG hM hN hLS hxk
      go_wp2_with fail
      refine (index_any _ _ _ (castL S) _ _ HN5.out (by omega)).mono ?_
      rw [Hj.out]
      rintro e w5 ⟨rfl, rfl⟩
      go_wp2_with fail
      refine (clone_any _ _ _ (castL S) _ HN5.out (by omega)).mono ?_
      rintro e w5 ⟨A5, c5, rfl, ho5, hb5⟩
      obtain ⟨g5, c6, hv5, hg5, hgl5⟩ := ho5.form (by omega)
      simp only [Value.slice.injEq, true_and] at hv5
      obtain ⟨rfl, rfl⟩ := hv5
      have HG6 := Lib.hid (HG5.out.below hb5)
      have Ho5 := Lib.hid ho5
      have Hb5 := Lib.hid hb5
      clear ho5 hb5
      go_wp2_with fail
      refine (del_any' g5 L1 _ j _ (castL S) _ Ho5.out (by rw [HLS.out, castL_len]) hjL).mono ?_
      rw [HS'.out]
      rintro e w6 ⟨rfl, ho6, hg6⟩
      have hb6 : Below wi.heap.size wi w6 := below_grown_new Hb5.out hg6 hg5
      have HG7 := Lib.hid (HG5.out.below hb6)
      have HM7 := Lib.hid (HM5.out.below hb6)
      have HN7 := Lib.hid (HN5.out.below hb6)
      have HE7 := Lib.hid (SlE.of_own ho6 (by rw [castL_len]; exact HSl.out))
      obtain ⟨q0, q1, q2, q3⟩ := cells3' HG7.out.gbx
      clear ho6 hg6 hb6
      go_wp2_with fail
      refine (matched_any n m n _ _ (gT T) Enters65 w6 (allowed_may w6 g n c m _ T HG7.out.tb Hok.out HG7.out.bx) hm1 (by omega) (by omega) _ _ L1 (S.erase k) (by omega) HX.out.2.1 HE7.out).mono ?_
      rw [HK'.out]
      rintro e w7 ⟨bp7, rfl, hb7⟩
      have hG8 := HG7.out.below hb7
      have hM8 := HM7.out.below hb7
      have hN8 := HN7.out.below hb7
      have hE8 := HE7.out.below hb7
      have hst := Hst.out
      obtain ⟨_, _, _, _, hc1, hc2⟩ := row_heap Ho5.out
      have hc3 : c5 ≤ 9223372036854775807 := by unfold maxLen at hc2; omega
      clear hb7 q0 q1 q2 q3 hc2
      by_cases hlk : K' < L1
      · rw [if_pos hlk] at hst
        have HR := Lib.hid (show (S.erase k).Nodup ∧ (∀ r ∈ S.erase k, r < n) ∧ (∀ r ∈ (List.range n).drop (k + 1), r ∈ S.erase k) ∧ hallF (gT T) m (List.range n) (List.range n) = hallF (gT T) m ((List.range n).drop (k + 1)) (S.erase k) from ⟨HX.out.1, HX.out.2.1, HX.out.2.2.1, hst⟩)
        clear hst
        go_wp2_with fail
        go_roundg (gk - 1)
        case measure => omega
        case rel => exact ⟨k + 1, L1, g5, c5, S.erase k, by omega, by go_num, rfl, by omega, by omega, hc3, hG8, hM8, hE8, HR⟩
      · rw [if_neg hlk] at hst
        have HR := Lib.hid (show S.Nodup ∧ (∀ r ∈ S, r < n) ∧ (∀ r ∈ (List.range n).drop (k + 1), r ∈ S) ∧ hallF (gT T) m (List.range n) (List.range n) = hallF (gT T) m ((List.range n).drop (k + 1)) S from ⟨HS.out.1, HS.out.2.1, HX.out.2.2.2, hst⟩)
        clear hst
        go_wp2_with fail
        go_roundg (gk - 1)
        case measure => omega
        case rel => exact ⟨k + 1, L1 + 1, ga, ca, S, by omega, by go_num, rfl, hLn, hLc, hc63, hG8, hM8, hN8, HR⟩
    · obtain rfl : n = k := by omega
      have hst := HS.out.2.2.2
      rw [List.drop_of_length_le (by simp), hallF, HHs.out] at hst
      subst hst
      have hL := hN.1
      rw [castL_len] at hL
      subst hL
      have Hf := Lib.hid (Hfin.out _ ca wi hN hLc hc63 hG.bel)
      clear hG hM hN
      go_wp2
      exact Hf.out
end Go.Proofs.Ytjdhcdoekfikpaa
