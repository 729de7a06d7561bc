/-
  The contract of clavecinlaw05.MatchDual: true at every input.
-/
import Derived.Test.YtjdhcdoekfikpaaMProvesW
import Derived.Test.YtjdhcdoekfikpaaMLProves
namespace Go.Proofs.Ytjdhcdoekfikpaa
open Go.RowKit

theorem sumN_bd2 {f : Nat → Int} {M : Int} : ∀ m : Nat, (∀ i, i < m → -M ≤ f i ∧ f i ≤ 0) → -M * m ≤ sumN f m ∧ sumN f m ≤ 0
  | 0, _ => by simp [sumN]
  | n + 1, h => by
    have h1 := sumN_bd2 n (fun i hi => h i (by omega))
    have h2 := h n (by omega)
    have e : -M * ((n + 1 : Nat) : Int) = -M * (n : Int) + -M := by
      rw [Int.natCast_add, Int.mul_add]; simp
    rw [sumN, e]
    omega
theorem getD_in {l : List Int} {P : Int → Prop} (h : ∀ x ∈ l, P x) {i : Nat} {x : Int} (hx : l[i]? = some x) : P x := h x (List.mem_of_getElem? hx)
/-- A matching that is boxed, beside its table. -/
structure Bx (w0 w : World) (A : Option Addr) (L c : Nat) (T : List (List Int)) (g m : Nat) (A1 A2 A3 : Option Addr) (c1 c2 c3 : Nat) (l : List Nat) (lu lv : List Int) (s : Int) : Prop where
  tc : Tc w0 w A L c T
  x : w.heap[g]? = some (.cells #[.slice A1 L c1, .slice A2 L c2, .slice A3 m c3, .int .i64 s] 28 (0, 0))
  mm : Mm w A1 A2 A3 L m c1 c2 c3 l lu lv
theorem Bx.below {w0 w w' : World} {A : Option Addr} {L c : Nat} {T : List (List Int)} {g m : Nat} {A1 A2 A3 : Option Addr} {c1 c2 c3 : Nat} {l : List Nat} {lu lv : List Int} {s : Int} (h : Bx w0 w A L c T g m A1 A2 A3 c1 c2 c3 l lu lv s) (hb : Below w.heap.size w w') :
    Bx w0 w' A L c T g m A1 A2 A3 c1 c2 c3 l lu lv s := ⟨h.tc.below hb, (hb.block g (Array.getElem?_eq_some_iff.1 h.x).1).trans h.x, h.mm.below hb⟩
theorem Bx.new {w0 w : World} {A : Option Addr} {L c : Nat} {T : List (List Int)} {m : Nat} {A1 A2 A3 : Option Addr} {c1 c2 c3 : Nat} {l : List Nat} {lu lv : List Int} {s : Int} (ht : Tc w0 w A L c T) (hm : Mm w A1 A2 A3 L m c1 c2 c3 l lu lv) :
    Bx w0 (w.alloc (.cells #[.slice A1 L c1, .slice A2 L c2, .slice A3 m c3, .int .i64 s] 28)) A L c T w.heap.size m A1 A2 A3 c1 c2 c3 l lu lv s :=
  ⟨ht.below (below_new w _), heap_alloc_new w _, hm.below (below_new w _)⟩
set_option maxRecDepth 100000 in
set_option maxHeartbeats 8000000 in
theorem dual_any (A : Option Addr) (n c : Nat) (T : List (List Int)) (w : World) (hT : SlRc w A n T) (hn : n ≤ 9223372036854775807) :
    Calls Try.prog 19 #[.slice A n c] w fun e w' => e = .returned (.bool true) ∧ Below w.heap.size w w' := by
  refine calls_cps ?_
  intro R hR
  obtain ⟨T1, hT1⟩ : ∃ T1, tabL 40 44 T = T1 := ⟨_, rfl⟩
  obtain ⟨L, hL⟩ : ∃ L, T1.length = L := ⟨_, rfl⟩
  have HT1 := Lib.hid hT1
  have HL := Lib.hid hL
  have HT := Lib.hid hT
  clear hT1 hL hT
  go_enter Try.func19, Try.ntmps19
  go_wp2_with fail
  refine (table_tc A n c T _ _ 40 44 rfl rfl (by omega) (by omega) _ HT.out hn).mono ?_
  rw [HT1.out, HL.out]
  rintro e w1 ⟨A1, c1, rfl, h1⟩
  have H1 := Lib.hid h1
  clear h1
  by_cases hb : tabB T1 = true
  · obtain ⟨m, hok⟩ := tok_of hb
    have Hok := Lib.hid hok
    have Hb := Lib.hid hb
    have hL64 : L ≤ 64 := by rw [← HL.out]; exact Nat.le_trans hok.nm hok.m64
    have hm64 := hok.m64
    clear hok hb
    by_cases hKL : kuhn (gT T1) m (List.range L) = L
    · have Hyes := Lib.hid hKL
      clear hKL
      go_wp2_with fail
      refine (best_yesT w A1 L c1 m T1 _ H1.out Hok.out Hyes.out).mono ?_
      rintro e w2 ⟨B1, B2, B3, d1, d2, d3, l, s, lu, lv, rfl, hB, hM, h2⟩
      have P2 := Lib.hid (Bx.new (s := s) h2 hM)
      have HB := Lib.hid hB
      clear h2 hM hB
      go_wp2_with fail
      refine (refCheck_any A1 L c1 T1 _ P2.out.tc.rc.slr (by omega) P2.out.tc.rc.rowle).mono ?_
      rw [if_pos Hb.out]
      rintro e w3 ⟨rfl, hq3⟩
      have P3 := Lib.hid (P2.out.below hq3.below)
      clear hq3
      obtain ⟨r0, r1, r2, r3, r4⟩ := cells4 P3.out.x
      go_wp2_with fail
      refine (lawProves_yes A1 L c1 m T1 B1 B2 B3 d1 d2 d3 l lu lv s _ P3.out.tc.rc.slr Hok.out P3.out.mm.s1 P3.out.mm.s2 P3.out.mm.s3 HB.out).mono ?_
      rintro e w4 ⟨rfl, hb4⟩
      have P4 := Lib.hid (P3.out.below hb4)
      clear hb4 r0 r1 r2 r3 r4
      go_wp2_with fail
      refine (lives_any _).mono ?_
      rintro e w5 ⟨rfl, hb5⟩
      have P5 := Lib.hid (P4.out.below hb5)
      clear hb5
      obtain ⟨r0, r1, r2, r3, r4⟩ := cells4 P5.out.x
      have Hu := Lib.hid (show ∀ k, k ≤ L → 0 ≤ sumN (fun i => lu.getD i 0) k ∧ sumN (fun i => lu.getD i 0) k ≤ 64000000000000 * (k : Int) from fun k hk => sumN_bd k fun i hi => by
        have h1 : i < lu.length := by rw [← P5.out.mm.s2.1]; omega
        rw [getD_get _ _ _ h1]
        exact HB.out.ub _ (List.getElem_mem h1))
      have Hv := Lib.hid (show ∀ k, k ≤ m → -64000000000000 * (k : Int) ≤ sumN (fun i => lv.getD i 0) k ∧ sumN (fun i => lv.getD i 0) k ≤ 0 from fun k hk => sumN_bd2 k fun i hi => by
        have h1 : i < lv.length := by rw [← P5.out.mm.s3.1]; omega
        rw [getD_get _ _ _ h1]
        exact HB.out.vb _ (List.getElem_mem h1))
      have Hsum := Lib.hid (show s = sumN (fun i => lu.getD i 0) L + sumN (fun j => lv.getD j 0) m by rw [HB.out.sum, dual, HL.out])
      go_wp2_with fail
      go_loop [6, 7] (fun s6 s7 => ∃ i : Nat, i ≤ L ∧ s7 = .int .i64 ((i : Nat) : Int) ∧ s6 = .int .i64 (sumN (fun i => lu.getD i 0) i)) (fun _ s7 => L - (intOf s7).toNat)
      case atStart => exact ⟨0, by omega, rfl, rfl⟩
      case round =>
        obtain ⟨i, hi, rfl, rfl⟩ := hrel
        by_cases hlt : i < L
        · obtain ⟨b, o, x, rfl, _, hx, q0⟩ := P5.out.mm.s2.at1 hlt
          have hgx : lu.getD i 0 = x := by rw [List.getD_eq_getElem?_getD, hx]; rfl
          obtain ⟨S, hS⟩ : ∃ S, sumN (fun i => lu.getD i 0) i = S := ⟨_, rfl⟩
          have HS := Lib.hid (show sumN (fun i => lu.getD i 0) (i + 1) = S + x by rw [sumN, hS, hgx])
          have hb1 := Hu.out i hi
          have hb2 := HB.out.ub x (List.mem_of_getElem? hx)
          rw [hS] at hb1 ⊢
          have i1 : (i : Int) < (L : Int) := by omega
          have e1 := hb1.1
          have e2 : S ≤ 4096000000000000 := by have := hb1.2; omega
          have e3 := hb2.1
          have e4 := hb2.2
          clear hx hgx hS hb1 hb2
          go_wp2
          exact ⟨⟨i + 1, by omega, by go_num, by rw [HS.out]⟩, by simp [intOf]; omega⟩
        · obtain rfl : i = L := by omega
          obtain ⟨U, hU⟩ : ∃ U, sumN (fun i => lu.getD i 0) i = U := ⟨_, rfl⟩
          have hb1 := Hu.out i hi
          rw [hU] at hb1 ⊢
          have hsum := Hsum.out
          rw [hU] at hsum
          have HSU := Lib.hid hsum
          have u1 := hb1.1
          have u2 : U ≤ 4096000000000000 := by have := hb1.2; omega
          clear hU hb1 hlt hi hsum
          go_wp2_with fail
          go_loop [6, 8] (fun s6 s8 => ∃ j : Nat, j ≤ m ∧ s8 = .int .i64 ((j : Nat) : Int) ∧ s6 = .int .i64 (U + sumN (fun i => lv.getD i 0) j)) (fun _ s8 => m - (intOf s8).toNat)
          case atStart => exact ⟨0, by omega, rfl, by simp [sumN]⟩
          case round =>
            obtain ⟨j, hj, rfl, rfl⟩ := hrel
            by_cases hlt : j < m
            · obtain ⟨b, o, x, rfl, _, hx, q0⟩ := P5.out.mm.s3.at1 hlt
              have hgx : lv.getD j 0 = x := by rw [List.getD_eq_getElem?_getD, hx]; rfl
              obtain ⟨S, hS⟩ : ∃ S, sumN (fun i => lv.getD i 0) j = S := ⟨_, rfl⟩
              have HS := Lib.hid (show sumN (fun i => lv.getD i 0) (j + 1) = S + x by rw [sumN, hS, hgx])
              have hb1 := Hv.out j hj
              have hb2 := HB.out.vb x (List.mem_of_getElem? hx)
              rw [hS] at hb1 ⊢
              have i1 : (j : Int) < (m : Int) := by omega
              have e1 := hb1.2
              have e2 : -4096000000000000 ≤ S := by have := hb1.1; omega
              have e3 := hb2.1
              have e4 := hb2.2
              clear hx hgx hS hb1 hb2
              go_wp2
              exact ⟨⟨j + 1, by omega, by go_num, by rw [HS.out, ← Int.add_assoc]⟩, by simp [intOf]; omega⟩
            · obtain rfl : j = m := by omega
              have hUS := HSU.out
              rw [← hUS]
              have hp := Lib.hid (prOk_bst HB.out)
              rw [HL.out] at hp
              clear hlt hj hUS
              go_wp2_with fail
              refine (mProves_any A1 i c1 j T1 B1 B2 B3 d1 d2 d3 (castL l) lu lv s _ P5.out.tc.rc.slr Hok.out P5.out.mm.s1 P5.out.mm.s2 P5.out.mm.s3 hp.out.1).mono ?_
              rintro e w6 ⟨⟨_, rfl⟩ | ⟨hno, _⟩, hb6⟩
              rotate_left
              · exact absurd hp.out.2 hno
              have P6 := Lib.hid (P5.out.below hb6)
              have Hf := Lib.hid (hR.out (.returned (.bool true)) w6 ⟨rfl, P6.out.tc.bel⟩)
              clear hb6 r0 r1 r2 r3 r4
              obtain ⟨r0, r1, r2, r3, r4⟩ := cells4 P6.out.x
              have g1 : (s == s) = true := by simp
              go_wp2
              exact Hf.out
    · have Hno := Lib.hid hKL
      clear hKL
      go_wp2_with fail
      refine (best_noneT w A1 L c1 m T1 _ H1.out Hok.out Hno.out).mono ?_
      rintro e w4 ⟨rfl, h4⟩
      have hbx := below_new w4 (.cells #[.slice none 0 0, .slice none 0 0, .slice none 0 0, .int .i64 0] 28)
      have H4 := Lib.hid (h4.below hbx)
      have HX4 := Lib.hid (heap_alloc_new w4 (.cells #[.slice none 0 0, .slice none 0 0, .slice none 0 0, .int .i64 0] 28))
      clear h4 hbx
      go_wp2_with fail
      refine (refCheck_any A1 L c1 T1 _ H4.out.rc.slr (by omega) H4.out.rc.rowle).mono ?_
      rw [if_pos Hb.out]
      rintro e w5 ⟨rfl, hq5⟩
      have hx5 := (hq5.below.block _ (Array.getElem?_eq_some_iff.1 HX4.out).1).trans HX4.out
      have H5 := Lib.hid (H4.out.qt hq5)
      clear hq5
      obtain ⟨r0, r1, r2, r3, r4⟩ := cells4 hx5
      clear hx5
      go_wp2_with fail
      refine (empty_yes _).mono ?_
      rintro e w6 ⟨rfl, hb6⟩
      have H6 := Lib.hid (H5.out.below hb6)
      clear hb6 r0 r1 r2 r3 r4
      go_wp2_with fail
      refine (lives_T w A1 L c1 T1 _ H6.out).mono ?_
      rintro e w8 ⟨rfl, h8⟩
      have Hf := Lib.hid (hR.out (.returned (.bool true)) w8 ⟨rfl, h8.bel⟩)
      clear h8
      go_wp2
      exact Hf.out
  · have hb' : tabB T1 = false := by simpa using hb
    have Hb := Lib.hid hb'
    clear hb hb'
    go_wp2_with fail
    refine (best_noT w A1 L c1 T1 _ H1.out Hb.out).mono ?_
    rintro e w4 ⟨rfl, h4⟩
    have hbx := below_new w4 (.cells #[.slice none 0 0, .slice none 0 0, .slice none 0 0, .int .i64 0] 28)
    have H4 := Lib.hid (h4.below hbx)
    have HX4 := Lib.hid (heap_alloc_new w4 (.cells #[.slice none 0 0, .slice none 0 0, .slice none 0 0, .int .i64 0] 28))
    have hl66 := h4.l66
    clear h4 hbx
    go_wp2_with fail
    refine (refCheck_any A1 L c1 T1 _ H4.out.rc.slr (by omega) H4.out.rc.rowle).mono ?_
    rw [if_neg (by rw [Hb.out]; simp)]
    rintro e w5 ⟨rfl, hq5⟩
    have hx5 := (hq5.below.block _ (Array.getElem?_eq_some_iff.1 HX4.out).1).trans HX4.out
    have H5 := Lib.hid (H4.out.qt hq5)
    clear hq5
    obtain ⟨r0, r1, r2, r3, r4⟩ := cells4 hx5
    clear hx5
    go_wp2_with fail
    refine (empty_yes _).mono ?_
    rintro e w6 ⟨rfl, hb6⟩
    have H6 := Lib.hid (H5.out.below hb6)
    clear hb6 r0 r1 r2 r3 r4
    go_wp2_with fail
    refine (lives_T w A1 L c1 T1 _ H6.out).mono ?_
    rintro e w8 ⟨rfl, h8⟩
    have Hf := Lib.hid (hR.out (.returned (.bool true)) w8 ⟨rfl, h8.bel⟩)
    clear h8
    go_wp2
    exact Hf.out
end Go.Proofs.Ytjdhcdoekfikpaa
