/-
  The contract of clavecinlaw05.MatchTables: true at every input.
-/
import Derived.Test.YtjdhcdoekfikpaaMShop
namespace Go.Proofs.Ytjdhcdoekfikpaa
open Go.RowKit

set_option maxRecDepth 100000 in
set_option maxHeartbeats 2000000 in
theorem tables_yes (A B : Option Addr) (n c d : Nat) (T : List (List Int)) (w : World) (hA : SlR w A n T) (hB : SlR w B n T) (hn : n ≤ 9223372036854775807) (hrow : ∀ r ∈ T, r.length ≤ 9223372036854775807) :
    Calls Try.prog 40 #[.slice A n c, .slice B n d] w fun e w' => e = .returned (.bool true) ∧ Qt w w' := by
  refine calls_cps ?_
  intro R hR
  have HA := Lib.hid hA
  have HB := Lib.hid hB
  have Hrow := Lib.hid hrow
  have Hyes := Lib.hid (show ∀ W', Qt w W' → R (.returned (.bool true)) W' from fun _ hq => hR.out _ _ ⟨rfl, hq⟩)
  have g0 : ((n : Int) != (n : Int)) = false := by simp
  clear hR hA hB hrow
  go_enter Try.func40, Try.ntmps40
  go_wp2_with fail
  go_loopw [5] (fun i wr => ∃ (k : Nat), k ≤ n ∧ i = .int .i64 k ∧ Qt w wr) (fun i _ => n - (intOf i).toNat)
  case atStart => exact ⟨0, Nat.zero_le _, rfl, Qt.refl _⟩
  case round =>
    obtain ⟨k, hk, rfl, hq⟩ := hrel
    by_cases hlt : k < n
    · obtain ⟨b, o, r, Ai, ci, rfl, _, hr, q0, s0⟩ := (hq.slr HA.out).at_ hlt
      obtain ⟨b', o', r', Bi, di, rfl, _, hr', q1, s1⟩ := (hq.slr HB.out).at_ hlt
      rw [hr] at hr'
      injection hr' with hr'
      subst hr'
      have hrl := Hrow.out r (List.mem_of_getElem? hr)
      obtain ⟨l, hl⟩ : ∃ l, r.length = l := ⟨_, rfl⟩
      rw [hl] at q0 q1 s0 s1 hrl
      have i1 : (k : Int) < (n : Int) := by omega
      have Hq := Lib.hid hq
      have S0 := Lib.hid s0
      have S1 := Lib.hid s1
      clear hr hl hq s0 s1
      go_wp2_with fail
      go_quiet ((go_at_call 26; exact same_quietT Ai Bi l ci di r wr _ S0.out S1.out hrl))
      go_wp2_with fail
      exact ⟨⟨k + 1, by omega, by go_num, Hq.out.step _⟩, by simp [intOf]; omega⟩
    · obtain rfl : k = n := by omega
      have Hf := Lib.hid (Hyes.out wr hq)
      clear hq
      go_wp2
      exact Hf.out
/-- A shop that is boxed. -/
structure Sx (w0 w : World) (g : Nat) (B1 B2 : Option Addr) (k1 k2 d1 d2 : Nat) (js qs : List (Int × Int)) (be tr : Int) : Prop where
  x : w.heap[g]? = some (.cells #[.slice B1 k1 d1, .slice B2 k2 d2, .int .i64 be, .int .i64 tr] 56 (0, 0))
  s1 : SlE prE 2 w B1 k1 js
  s2 : SlE prE 2 w B2 k2 qs
  b1 : k1 ≤ 66
  b2 : k2 ≤ 66
  bel : Below w0.heap.size w0 w
theorem Sx.below {w0 w w' : World} {g : Nat} {B1 B2 : Option Addr} {k1 k2 d1 d2 : Nat} {js qs : List (Int × Int)} {be tr : Int} (h : Sx w0 w g B1 B2 k1 k2 d1 d2 js qs be tr) (hb : Below w.heap.size w w') : Sx w0 w' g B1 B2 k1 k2 d1 d2 js qs be tr :=
  ⟨(hb.block g (Array.getElem?_eq_some_iff.1 h.x).1).trans h.x, h.s1.below hb, h.s2.below hb, h.b1, h.b2, h.bel.trans (hb.mono h.bel.size)⟩
set_option maxRecDepth 100000 in
set_option maxHeartbeats 8000000 in
theorem ltables_any (A1 A2 : Option Addr) (n1 n2 c1 c2 : Nat) (js qs : List (Int × Int)) (be tr : Int) (w : World) (h1 : SlE prE 2 w A1 n1 js) (h2 : SlE prE 2 w A2 n2 qs) (hn1 : n1 ≤ c1) (hn2 : n2 ≤ c2) (hc1 : c1 ≤ 9223372036854775807) (hc2 : c2 ≤ 9223372036854775807) :
    Calls Try.prog 14 #[.agg #[.slice A1 n1 c1, .slice A2 n2 c2, .int .i64 be, .int .i64 tr]] w fun e w' => e = .returned (.bool true) ∧ Below w.heap.size w w' := by
  refine calls_cps ?_
  intro R hR
  obtain ⟨j1, hj1⟩ : ∃ l, js.take 66 = l := ⟨_, rfl⟩
  obtain ⟨q1, hq1⟩ : ∃ l, qs.take 66 = l := ⟨_, rfl⟩
  obtain ⟨k1, hk1⟩ : ∃ k, j1.length = k := ⟨_, rfl⟩
  obtain ⟨k2, hk2⟩ : ∃ k, q1.length = k := ⟨_, rfl⟩
  have hb1 : k1 ≤ 66 := by rw [← hk1, ← hj1, List.length_take]; omega
  have hb2 : k2 ≤ 66 := by rw [← hk2, ← hq1, List.length_take]; omega
  have hbl := below_new w (.cells #[.slice A1 n1 c1, .slice A2 n2 c2, .int .i64 be, .int .i64 tr] 56)
  obtain ⟨r0, r1, r2, r3, r4⟩ := cells4 (heap_alloc_new w (.cells #[.slice A1 n1 c1, .slice A2 n2 c2, .int .i64 be, .int .i64 tr] 56))
  have H1 := Lib.hid (h1.below hbl)
  have H2 := Lib.hid (h2.below hbl)
  have Hbl := Lib.hid hbl
  have Hj1 := Lib.hid hj1
  have Hq1 := Lib.hid hq1
  have Hk1 := Lib.hid hk1
  have Hk2 := Lib.hid hk2
  clear h1 h2 hbl hj1 hq1 hk1 hk2
  go_enter Try.func14, Try.ntmps14
  go_wp2_with fail
  refine (shop_any A1 A2 n1 n2 c1 c2 js qs be tr _ H1.out H2.out hn1 hn2 hc1 hc2).mono ?_
  rw [Hj1.out, Hq1.out, Hk1.out, Hk2.out]
  rintro e w1 ⟨B1, B2, d1, d2, rfl, ⟨s1, g1, u1⟩, ⟨s2, g2, u2⟩, hb⟩
  have hba := hb.trans ((below_new w1 (.cells #[.slice B1 k1 d1, .slice B2 k2 d2, .int .i64 be, .int .i64 tr] 56)).mono hb.size)
  have P1 := Lib.hid (show Sx w (w1.alloc (.cells #[.slice B1 k1 d1, .slice B2 k2 d2, .int .i64 be, .int .i64 tr] 56)) w1.heap.size B1 B2 k1 k2 d1 d2 j1 q1 be tr from
    ⟨heap_alloc_new w1 _, s1.below (below_new w1 _), s2.below (below_new w1 _), hb1, hb2, Hbl.out.trans (hba.mono Hbl.out.size)⟩)
  clear hb hba s1 s2 r0 r1 r2 r3 r4
  obtain ⟨r0, r1, r2, r3, r4⟩ := cells4 P1.out.x
  go_wp2_with fail
  refine (mTable_any B1 B2 k1 k2 d1 d2 j1 q1 be tr _ P1.out.s1 P1.out.s2 (by omega) (by omega)).mono ?_
  rintro e w2 ⟨hcase, hb2'⟩
  have P2 := Lib.hid (P1.out.below hb2')
  clear r0 r1 r2 r3 r4
  obtain ⟨r0, r1, r2, r3, r4⟩ := cells4 P2.out.x
  rcases hcase with ⟨hno, rfl⟩ | ⟨hyes, A, c, rfl, hs⟩
  · have Hno := Lib.hid hno
    clear hno hb2'
    go_wp2_with fail
    refine (refTable_any B1 B2 k1 k2 d1 d2 j1 q1 be tr _ P2.out.s1 P2.out.s2 (by omega) (by omega)).mono ?_
    rintro e w3 ⟨⟨_, rfl⟩ | ⟨hy, _⟩, hb3⟩
    rotate_left
    · rw [Hno.out] at hy; cases hy
    have P3 := Lib.hid (P2.out.below hb3)
    clear hb3 r0 r1 r2 r3 r4
    go_wp2_with fail
    refine (tables_yes none none 0 0 0 [] w3 ⟨rfl, fun h => absurd h (by omega)⟩ ⟨rfl, fun h => absurd h (by omega)⟩ (by omega) (fun r hr => by simp at hr)).mono ?_
    rintro e w4 ⟨rfl, hq4⟩
    have P4 := Lib.hid (P3.out.below hq4.below)
    clear hq4
    go_wp2_with fail
    refine (lives_any _).mono ?_
    rintro e w5 ⟨rfl, hb5⟩
    have Hf := Lib.hid (hR.out (.returned (.bool true)) w5 ⟨rfl, (P4.out.below hb5).bel⟩)
    clear hb5
    go_wp2
    exact Hf.out
  · have Hyes := Lib.hid hyes
    have Hs := Lib.hid hs
    have Hok := Lib.hid (tbl_ok hyes)
    clear hyes hs hb2'
    go_wp2_with fail
    refine (refTable_any B1 B2 k1 k2 d1 d2 j1 q1 be tr _ P2.out.s1 P2.out.s2 (by omega) (by omega)).mono ?_
    rintro e w3 ⟨⟨hno, _⟩ | ⟨_, A', c', rfl, hs'⟩, hb3⟩
    · rw [Hyes.out] at hno; cases hno
    have P3 := Lib.hid (P2.out.below hb3)
    have Hs3 := Lib.hid (Hs.out.below hb3)
    have Hs' := Lib.hid hs'
    clear hb3 hs' r0 r1 r2 r3 r4
    go_wp2_with fail
    refine (tables_yes A A' k1 c c' _ w3 Hs3.out Hs'.out (by omega) (fun r hr => by rw [Hok.out.rect r hr]; have := Hok.out.m64; omega)).mono ?_
    rintro e w4 ⟨rfl, hq4⟩
    have P4 := Lib.hid (P3.out.below hq4.below)
    clear hq4
    go_wp2_with fail
    refine (lives_any _).mono ?_
    rintro e w5 ⟨rfl, hb5⟩
    have Hf := Lib.hid (hR.out (.returned (.bool true)) w5 ⟨rfl, (P4.out.below hb5).bel⟩)
    clear hb5
    go_wp2
    exact Hf.out
end Go.Proofs.Ytjdhcdoekfikpaa
