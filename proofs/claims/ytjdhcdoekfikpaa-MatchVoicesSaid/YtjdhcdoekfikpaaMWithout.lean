/-
  The contracts of match.Without and of the document's Without and its Best of an empty table; condition: the table reads.
-/
import Derived.Test.YtjdhcdoekfikpaaMFg
import Derived.Test.YtjdhcdoekfikpaaMFe
namespace Go.Proofs.Ytjdhcdoekfikpaa
open Go.RowKit

/-- A table's outer cells. -/
def Hdr (w : World) (T : List (List Int)) (xs : List Value) : Prop := xs.length = T.length ∧ ∀ (i : Nat) (r : List Int), T[i]? = some r → ∃ (Ai : Option Addr) (ci : Nat), xs[i]? = some (Value.slice Ai r.length ci) ∧ SlE intE 1 w Ai r.length r
section
variable {w w' : World} {A : Option Addr} {n : Nat} {T : List (List Int)} {xs : List Value}
theorem SlR.hdr (h : SlR w A n T) : ∃ xs, Sl w 1 A n xs ∧ Hdr w T xs := by
  by_cases h0 : n = 0
  · subst h0
    have : T = [] := List.length_eq_zero_iff.1 h.1.symm
    subst this
    exact ⟨[], Sl.nil _ _ _, rfl, fun i r hr => by simp at hr⟩
  · obtain ⟨b, o, rfl, hb, hc⟩ := h.2 (by omega)
    refine ⟨(List.range n).map fun i => (w.cell? ⟨b, o + i, none⟩).getD default, ⟨by simp, fun _ => ⟨b, o, rfl, hb, fun j u hu => ?_⟩⟩, by simp [h.1], fun i r hr => ?_⟩
    · have hj : j < n := by have := (List.getElem?_eq_some_iff.1 hu).1; simpa using this
      obtain ⟨r, hr⟩ : ∃ r, T[j]? = some r := ⟨T[j]'(by rw [← h.1]; exact hj), List.getElem?_eq_getElem _⟩
      obtain ⟨Ai, ci, hcc, _⟩ := hc j r hr
      rw [List.getElem?_map, List.getElem?_range hj] at hu
      simp only [Option.map_some, hcc, Option.getD_some, Option.some.injEq] at hu
      rw [hcc, hu]
    · have hi : i < n := by rw [h.1]; exact (List.getElem?_eq_some_iff.1 hr).1
      obtain ⟨Ai, ci, hcc, hs⟩ := hc i r hr
      refine ⟨Ai, ci, ?_, hs⟩
      rw [List.getElem?_map, List.getElem?_range hi]
      simp [hcc]
theorem slR_of (hs : Sl w 1 A n xs) (hh : Hdr w T xs) (hn : n = T.length) : SlR w A n T := by
  refine ⟨hn, fun h0 => ?_⟩
  obtain ⟨b, o, rfl, hb, hc⟩ := hs.2 h0
  refine ⟨b, o, rfl, hb, fun i r hr => ?_⟩
  obtain ⟨Ai, ci, h1, h2⟩ := hh.2 i r hr
  exact ⟨Ai, ci, hc i _ h1, h2⟩
theorem Hdr.below (h : Hdr w T xs) (hb : Below w.heap.size w w') : Hdr w' T xs := ⟨h.1, fun i r hr => by
  obtain ⟨Ai, ci, h1, h2⟩ := h.2 i r hr
  exact ⟨Ai, ci, h1, h2.below hb⟩⟩
theorem Hdr.erase (h : Hdr w T xs) (k : Nat) : Hdr w (T.eraseIdx k) (xs.eraseIdx k) := by
  refine ⟨by rw [List.length_eraseIdx, List.length_eraseIdx, h.1], fun i r hr => ?_⟩
  rw [List.getElem?_eraseIdx] at hr
  rw [List.getElem?_eraseIdx]
  split at hr
  · rename_i hi; rw [if_pos hi]; exact h.2 i r hr
  · rename_i hi; rw [if_neg hi]; exact h.2 (i + 1) r hr
theorem Hdr.one (h : Hdr w T xs) : ∀ u ∈ xs, u.oneCell' = true := by
  intro u hu
  obtain ⟨i, hi, rfl⟩ := List.getElem_of_mem hu
  obtain ⟨r, hr⟩ : ∃ r, T[i]? = some r := ⟨T[i]'(by rw [← h.1]; exact hi), List.getElem?_eq_getElem _⟩
  obtain ⟨Ai, ci, h1, _⟩ := h.2 i r hr
  rw [List.getElem?_eq_getElem hi] at h1
  injection h1 with h1
  rw [h1]; rfl
theorem Sl.take1 (h : Sl w 1 A n xs) {k : Nat} (hk : k ≤ n) : Sl w 1 A k (xs.take k) := by
  refine ⟨by rw [List.length_take, h.1]; omega, fun h0 => ?_⟩
  obtain ⟨b, o, hA, hb, hc⟩ := h.2 (by omega)
  refine ⟨b, o, hA, hb, fun j u hu => hc j u ?_⟩
  rw [List.getElem?_take] at hu
  split at hu
  · exact hu
  · cases hu
theorem Sl.drop1 {b o : Nat} (h : Sl w 1 (some ⟨b, o, none⟩) n xs) {k m o' : Nat} (hk : k + m = n) (ho : 0 < m → o' = o + k) : Sl w 1 (some ⟨b, o', none⟩) m (xs.drop k) := by
  refine ⟨by rw [List.length_drop, h.1]; omega, fun h0 => ?_⟩
  obtain ⟨b', o'', hA, hb, hc⟩ := h.2 (by omega)
  simp only [Option.some.injEq, Addr.mk.injEq, and_true] at hA
  obtain ⟨rfl, rfl⟩ := hA
  refine ⟨b, o', rfl, hb, fun j u hu => ?_⟩
  rw [List.getElem?_drop] at hu
  rw [ho h0, Nat.add_assoc]
  exact hc _ _ hu
end
theorem tok_erase {T : List (List Int)} {m k : Nat} (h : TOk T m) (h2 : 2 ≤ T.length) (hk : k < T.length) : TOk (T.eraseIdx k) m := by
  have a := h.nm
  have hl : (T.eraseIdx k).length = T.length - 1 := List.length_eraseIdx_of_lt hk
  exact ⟨by omega, by omega, h.m64, fun x hx => h.rect x (List.mem_of_mem_eraseIdx hx), fun x hx => h.cell x (List.mem_of_mem_eraseIdx hx)⟩
theorem erase_eq {α : Type} (xs : List α) (k : Nat) : xs.take k ++ xs.drop (k + 1) = xs.eraseIdx k := (List.eraseIdx_eq_take_drop_succ xs k).symm
set_option maxRecDepth 100000 in
set_option maxHeartbeats 2000000 in
theorem mWithout_no (A : Option Addr) (n c : Nat) (T : List (List Int)) (k : Int) (w : World) (hT : SlR w A n T) (hn : n ≤ 9223372036854775807) (hrow : ∀ r ∈ T, r.length ≤ 9223372036854775807) (ht : tabB T = false ∨ k < 0 ∨ (n : Int) ≤ k) :
    Calls Try.prog 41 #[.slice A n c, .int .i64 k] w fun e w' => e = .returned (.tuple #[.int .i64 0, .int .i64 1]) ∧ w = w' := by
  refine calls_cps ?_
  intro R hR
  have Hf := Lib.hid (hR.out _ w ⟨rfl, rfl⟩)
  obtain ⟨tb, htb⟩ : ∃ tb, tabB T = tb := ⟨_, rfl⟩
  have hC := check_any A n c T w hT hn hrow
  rw [htb] at hC ht
  have HC := Lib.hid hC
  clear hR hC htb
  cases tb with
  | false =>
    clear ht
    go_enter Try.func41, Try.ntmps41
    go_wp2_with fail
    refine HC.out.mono ?_
    rintro e w1 ⟨rfl, rfl⟩
    go_wp2
    exact Hf.out
  | true =>
    by_cases h0 : k < 0
    · clear ht
      go_enter Try.func41, Try.ntmps41
      go_wp2_with fail
      refine HC.out.mono ?_
      rintro e w1 ⟨rfl, rfl⟩
      go_wp2
      exact Hf.out
    · have h1 : (n : Int) ≤ k := by
        rcases ht with h | h | h
        · cases h
        · exact absurd h h0
        · exact h
      have h2 : 0 ≤ k := by omega
      clear ht h0
      go_enter Try.func41, Try.ntmps41
      go_wp2_with fail
      refine HC.out.mono ?_
      rintro e w1 ⟨rfl, rfl⟩
      go_wp2
      exact Hf.out
set_option maxRecDepth 100000 in
set_option maxHeartbeats 2000000 in
theorem mWithout_one (A : Option Addr) (c m : Nat) (T : List (List Int)) (w : World) (hT : SlR w A 1 T) (hok : TOk T m) :
    Calls Try.prog 41 #[.slice A 1 c, .int .i64 0] w fun e w' => e = .returned (.tuple #[.int .i64 0, .int .i64 0]) ∧ w = w' := by
  refine calls_cps ?_
  intro R hR
  have Hf := Lib.hid (hR.out _ w ⟨rfl, rfl⟩)
  have hm64 := hok.m64
  have hrow : ∀ r ∈ T, r.length ≤ 9223372036854775807 := fun r hr => by rw [hok.rect r hr]; omega
  have ht : tabB T = true := tabB_iff.2 (by rw [hok.wid]; exact hok)
  have hC := check_any A 1 c T w hT (by omega) hrow
  rw [if_pos ht] at hC
  have HC := Lib.hid hC
  clear hR hC ht hrow
  go_enter Try.func41, Try.ntmps41
  go_wp2_with fail
  refine HC.out.mono ?_
  rintro e w1 ⟨rfl, rfl⟩
  go_wp2
  exact Hf.out
/-- What cheapest tells of the cost: s0 if ok. -/
theorem cheap_cost (E : List (List Int)) (m N : Nat) (hok : TOk E m) (hN : E.length = N) : ∃ (s0 : Int) (ok : Bool), ((ok = false ∧ s0 = 0 ∧ bestO E m = none) ∨ (ok = true ∧ ∃ l, bestO E m = some (l, s0))) ∧
    ∀ (W : World) (A : Option Addr) (c : Nat), SlR W A N E → Calls Try.prog 47 #[.slice A N c] W fun e w' => (∃ pv, e = .returned (.tuple #[.pointer pv, .int .i64 s0, .bool ok])) ∧ Below W.heap.size W w' := by
  subst hN
  cases hb : bestO E m with
  | none =>
    refine ⟨0, false, .inl ⟨rfl, rfl, rfl⟩, fun W A c hT => (cheap_no E.length c m A E W hT hok ((bestO_iff E m).1 hb)).mono ?_⟩
    rintro e w' ⟨rfl, h⟩
    exact ⟨⟨none, rfl⟩, h⟩
  | some p =>
    obtain ⟨l, s⟩ := p
    have hy : kuhn (gT E) m (List.range E.length) = E.length := by
      by_cases h : kuhn (gT E) m (List.range E.length) = E.length
      · exact h
      · rw [(bestO_iff E m).2 h] at hb; cases hb
    refine ⟨s, true, .inr ⟨rfl, l, rfl⟩, fun W A c hT => (cheap_yes E.length c m A E W hT hok hy).mono ?_⟩
    rintro e w' ⟨sp, bu, bv, bp, bw, u, v, p, way, s', rfl, hS, _, hch, h⟩
    have h1 := bestO_eq (bst_of hch hS.lu hS.lv).best
    rw [hb] at h1
    simp only [Option.some.injEq, Prod.mk.injEq] at h1
    rw [h1.2]
    exact ⟨⟨_, rfl⟩, h⟩
set_option maxRecDepth 100000 in
set_option maxHeartbeats 4000000 in
theorem mWithout_any (A : Option Addr) (n c m k : Nat) (T : List (List Int)) (w : World) (hT : SlR w A n T) (hok : TOk T m) (h2 : 2 ≤ n) (hk : k < n) (hnc : n ≤ c) (hc : c ≤ 9223372036854775807) :
    Calls Try.prog 41 #[.slice A n c, .int .i64 (k : Int)] w fun e w' => (bestO (T.eraseIdx k) m = none ∧ e = .returned (.tuple #[.int .i64 0, .int .i64 6]) ∨ ∃ l s, bestO (T.eraseIdx k) m = some (l, s) ∧ e = .returned (.tuple #[.int .i64 s, .int .i64 0])) ∧ Below w.heap.size w w' := by
  refine calls_cps ?_
  intro R hR
  have hm64 := hok.m64
  have hn64 : n ≤ 64 := by rw [hT.1]; exact Nat.le_trans hok.nm hok.m64
  have hrow : ∀ r ∈ T, r.length ≤ 9223372036854775807 := fun r hr => by rw [hok.rect r hr]; omega
  have ht : tabB T = true := tabB_iff.2 (by rw [hok.wid]; exact hok)
  have hC := check_any A n c T w hT (by omega) hrow
  rw [if_pos ht] at hC
  have HC := Lib.hid hC
  obtain ⟨xs, hxs, hhd⟩ := hT.hdr
  obtain ⟨b, o, rfl, hb, _⟩ := hxs.2 (by omega)
  have hokE := tok_erase hok (by rw [← hT.1]; exact h2) (by rw [← hT.1]; exact hk)
  have hlE : (T.eraseIdx k).length = n - 1 := by rw [List.length_eraseIdx_of_lt (by rw [← hT.1]; exact hk), hT.1]
  obtain ⟨E, hE⟩ : ∃ E, T.eraseIdx k = E := ⟨_, rfl⟩
  obtain ⟨o2, c2, ho2⟩ : ∃ o2 c2, (o2, c2) = if c = k + 1 then (o, 0) else (o + (k + 1), c - (k + 1)) := ⟨_, _, rfl⟩
  have ho3 : 0 < n - (k + 1) → o2 = o + (k + 1) := fun h => by
    rw [if_neg (by omega)] at ho2
    injection ho2
  have hcc : ∀ (W : World) (g : Nat), g = W.heap.size → Below w.heap.size w W → Calls Try.prog 59 #[.slice (some ⟨g, 0, none⟩) 2 2] (W.alloc (.cells #[.slice (some ⟨b, o, none⟩) k c, .slice (some ⟨b, o2, none⟩) (n - (k + 1)) c2] 22)) (fun e w' => ∃ A' c', e = .returned (.slice A' (n - 1) c') ∧ SlR w' A' (n - 1) E ∧ Below w.heap.size w w') := fun W g hg hb0 => by
    subst hg
    obtain ⟨v0, v1, _⟩ := cells2 (heap_alloc_new W (.cells #[.slice (some ⟨b, o, none⟩) k c, .slice (some ⟨b, o2, none⟩) (n - (k + 1)) c2] 22))
    have hb1 : Below w.heap.size w (W.alloc (.cells #[.slice (some ⟨b, o, none⟩) k c, .slice (some ⟨b, o2, none⟩) (n - (k + 1)) c2] 22)) := hb0.alloc hb0.size _
    have hx := hxs.below hb1
    refine (concatR_any W.heap.size 0 2 _ _ k c (n - (k + 1)) c2 (xs.take k) (xs.drop (k + 1)) _ (by simp) v0 v1 (hx.take1 (by omega)) (hx.drop1 (by omega) ho3) (fun u hu => hhd.one u (List.mem_of_mem_take hu)) (fun u hu => hhd.one u (List.mem_of_mem_drop hu)) (by omega) (by omega)).mono ?_
    rintro e w' ⟨A', c', rfl, how, hbw⟩
    have hb2 := hb1.trans (hbw.mono hb1.size)
    rw [erase_eq, show k + (n - (k + 1)) = n - 1 by omega] at how
    refine ⟨A', c', by rw [show k + (n - (k + 1)) = n - 1 by omega], ?_, hb2⟩
    have := (hhd.erase k).below hb2
    rw [hE] at this
    exact slR_of (Sl.of_own how) this (by rw [← hE, hlE])
  rw [hE] at hokE hlE hR
  obtain ⟨s0, ok, hfin, hch⟩ := cheap_cost E m (n - 1) hokE hlE
  have Hch := Lib.hid (show ∀ (W : World) (A' : Option Addr) (c' : Nat), SlR W A' (n - 1) E → Below w.heap.size w W → Calls Try.prog 47 #[.slice A' (n - 1) c'] W fun e w' => (∃ pv, e = .returned (.tuple #[.pointer pv, .int .i64 s0, .bool ok])) ∧ Below w.heap.size w w' from fun W A' c' hs hb0 => (hch W A' c' hs).mono fun e w' hh => ⟨hh.1, hb0.trans (hh.2.mono hb0.size)⟩)
  have Hend := Lib.hid (show ∀ w', Below w.heap.size w w' → (ok = false → R (.returned (.tuple #[.int .i64 0, .int .i64 6])) w') ∧ (ok = true → R (.returned (.tuple #[.int .i64 s0, .int .i64 0])) w') from fun w' hb' => by
    refine ⟨fun h => ?_, fun h => ?_⟩
    · rcases hfin with ⟨_, _, h3⟩ | ⟨h1, _⟩
      · exact hR.out _ _ ⟨.inl ⟨h3, rfl⟩, hb'⟩
      · rw [h] at h1; cases h1
    · rcases hfin with ⟨h1, _⟩ | ⟨_, l, h3⟩
      · rw [h] at h1; cases h1
      · exact hR.out _ _ ⟨.inr ⟨l, s0, h3, rfl⟩, hb'⟩)
  have i2 : (0 : Int) ≤ (k : Int) := by omega
  have i8 : decide ((k : Int) < 0) = false := by simp
  have hbz : Below w.heap.size w w.drew := (Below.refl _ w).drew
  clear hE hC ht hrow hokE hT hok hxs hhd hb hlE ho3 hfin hch hR
  by_cases hck : c = k + 1
  · rw [if_pos hck] at ho2
    obtain rfl : n = k + 1 := by omega
    injection ho2 with e1 e2
    subst e1 e2 hck
    rw [show k + 1 - (k + 1) = 0 by omega] at hcc
    rw [show k + 1 - 1 = k by omega] at hcc Hch
    have Hcc := Lib.hid hcc
    have i9 : decide (k + 1 ≤ k) = false := by simp
    have i5 : ((k : Int) + 1 == 1) = false := by simp; omega
    have z1 : IntKind.i64.wrap ((k : Int) + 1) = (k : Int) + 1 := IntWalk.i64_in _ (by omega)
    have i6 : (0 : Int) ≤ (k : Int) + 1 := by omega
    have i7 : (k : Int) ≤ (k : Int) + 1 := by omega
    clear hcc
    go_enter Try.func41, Try.ntmps41
    go_wp2_with fail
    refine HC.out.mono ?_
    rintro e w1 ⟨rfl, rfl⟩
    go_wp2_with fail
    go_region_held3 (fun _ => True) (trivial) (first
      | (go_at_call 59; refine (Hcc.out _ _ rfl hbz).mono ?_; rintro e wa ⟨Aa, ca, rfl, hsa, hba⟩)
      | (go_at_call 47; refine (Hch.out _ _ _ hsa hba).mono ?_; rintro e wb ⟨⟨pv, rfl⟩, hbb⟩))
    have Hf := Lib.hid (Hend.out wb hbb)
    clear hsa hba hbb
    cases ok
    · have Hg := Lib.hid (Hf.out.1 rfl)
      go_wp2
      exact Hg.out
    · have Hg := Lib.hid (Hf.out.2 rfl)
      go_wp2
      exact Hg.out
  · rw [if_neg hck] at ho2
    injection ho2 with e1 e2
    subst e1 e2
    have Hcc := Lib.hid hcc
    have i1 : (k : Int) < (n : Int) := by omega
    have i9 : decide (n ≤ k) = false := by simp; omega
    have i5 : ((n : Int) == 1) = false := by simp; omega
    have z1 : IntKind.i64.wrap ((k : Int) + 1) = (k : Int) + 1 := IntWalk.i64_in _ (by omega)
    have i6 : (0 : Int) ≤ (k : Int) + 1 := by omega
    have i7 : (k : Int) ≤ (n : Int) := by omega
    have i10 : (k : Int) + 1 ≤ (n : Int) := by omega
    have i11 : (n : Int) ≤ (c : Int) := by omega
    have i12 : (k : Int) ≤ (c : Int) := by omega
    clear hcc
    go_enter Try.func41, Try.ntmps41
    go_wp2_with fail
    refine HC.out.mono ?_
    rintro e w1 ⟨rfl, rfl⟩
    go_wp2_with fail
    go_region_held3 (fun _ => True) (trivial) (first
      | (go_at_call 59; refine (Hcc.out _ _ rfl hbz).mono ?_; rintro e wa ⟨Aa, ca, rfl, hsa, hba⟩)
      | (go_at_call 47; refine (Hch.out _ _ _ hsa hba).mono ?_; rintro e wb ⟨⟨pv, rfl⟩, hbb⟩))
    have Hf := Lib.hid (Hend.out wb hbb)
    clear hsa hba hbb
    cases ok
    · have Hg := Lib.hid (Hf.out.1 rfl)
      go_wp2
      exact Hg.out
    · have Hg := Lib.hid (Hf.out.2 rfl)
      go_wp2
      exact Hg.out
/-- The document's Without: the other rows. -/
def wth {α : Type} (xs : List α) (k i : Nat) : List α := (xs.take i).eraseIdx k
theorem wth_skip {α : Type} (xs : List α) (k : Nat) (hk : k < xs.length) : wth xs k (k + 1) = wth xs k k := by
  unfold wth
  rw [List.take_succ_eq_append_getElem hk, List.eraseIdx_append_of_length_le (by rw [List.length_take]; omega), List.length_take, Nat.min_eq_left (by omega), Nat.sub_self]
  simp
  rw [List.eraseIdx_of_length_le (by rw [List.length_take]; omega)]
theorem wth_snoc {α : Type} {xs : List α} {k i : Nat} {x : α} (hx : xs[i]? = some x) (h : i ≠ k) : wth xs k (i + 1) = wth xs k i ++ [x] := by
  obtain ⟨hi, rfl⟩ := List.getElem?_eq_some_iff.1 hx
  unfold wth
  rw [List.take_succ_eq_append_getElem hi]
  by_cases hk : k < i
  · rw [List.eraseIdx_append_of_lt_length (by rw [List.length_take]; omega)]
  · rw [List.eraseIdx_append_of_length_le (by rw [List.length_take]; omega), List.eraseIdx_of_length_le (by simp [List.length_take]; omega), List.eraseIdx_of_length_le (by rw [List.length_take]; omega)]
theorem wth_len {α : Type} {xs : List α} {k i : Nat} (hi : i ≤ xs.length) : (wth xs k i).length = if k < i then i - 1 else i := by
  unfold wth
  rw [List.length_eraseIdx, List.length_take, Nat.min_eq_left hi]
theorem wth_all {α : Type} (xs : List α) (k : Nat) : wth xs k xs.length = xs.eraseIdx k := by rw [wth, List.take_length]
theorem wth_mem {α : Type} {xs : List α} {k i : Nat} {x : α} (h : x ∈ wth xs k i) : x ∈ xs := List.mem_of_mem_take (List.mem_of_mem_eraseIdx h)
set_option maxRecDepth 100000 in
set_option maxHeartbeats 4000000 in
theorem refWithout_any (A : Option Addr) (n c k : Nat) (T : List (List Int)) (w : World) (hT : SlR w A n T) (hn : n ≤ 400) (hk : k < n) :
    Calls Try.prog 42 #[.slice A n c, .int .i64 (k : Int)] w fun e w' => ∃ A' c', e = .returned (.slice A' (n - 1) c') ∧ SlR w' A' (n - 1) (T.eraseIdx k) ∧ Below w.heap.size w w' := by
  refine calls_cps ?_
  intro R hR
  obtain ⟨xs, hxs, hhd⟩ := hT.hdr
  have hxl : xs.length = n := by rw [hhd.1, hT.1]
  have HTn := Lib.hid hT.1
  have Hxs := Lib.hid hxs
  have Hhd := Lib.hid hhd
  have Hxl := Lib.hid hxl
  clear hT hxs hhd hxl
  go_enter Try.func42, Try.ntmps42
  go_wp2_with fail
  go_loopg [5, 6] n (fun gk s5 s6 wr => ∃ (i q : Nat) (A' : Option Addr) (c' : Nat), i + gk = n ∧ s6 = .int .i64 ((i : Nat) : Int) ∧ s5 = .slice A' q c' ∧ Hid (q = (wth xs k i).length) ∧ wr.ownsRow w.heap.size 26 1 (.slice A' q c') q (wth xs k i) ∧ Below w.heap.size w wr)
  case atStart => exact ⟨0, 0, _, _, by omega, rfl, rfl, Lib.hid (by simp [wth]), by simp [wth]; exact own_new w #[] 26 1 0 w.heap.size rfl (Nat.le_refl _) (by unfold maxLen; omega), below_new w _⟩
  case round =>
    obtain ⟨i, q, A', c', hgk, rfl, rfl, Hq, ho, hb⟩ := hrel
    obtain ⟨wi, rfl⟩ : ∃ wi : World, wi = wr := ⟨_, rfl⟩
    have HO := Lib.hid ho
    have Hb := Lib.hid hb
    have hsz := hb.size
    have hql : q ≤ n := by
      rw [Hq.out, wth_len (by rw [Hxl.out]; omega)]
      split <;> omega
    clear ho hb
    by_cases hlt : i < n
    · have i1 : (i : Int) < (n : Int) := by omega
      by_cases hik : i = k
      · subst hik
        have g1 : ((i : Int) != (i : Int)) = false := by simp
        have HW := Lib.hid (wth_skip xs i (by rw [Hxl.out]; exact hlt))
        go_wp2_with fail
        go_roundg (gk - 1)
        case measure => omega
        case rel => exact ⟨i + 1, q, A', c', by omega, by go_num, rfl, by rw [HW.out]; exact Hq, by rw [HW.out]; exact HO.out, Hb.out⟩
      · have g1 : ((i : Int) != (k : Int)) = true := by simp; omega
        obtain ⟨b, o, rfl, hbl, hcells⟩ := Hxs.out.2 (by omega)
        obtain ⟨Ai, li, ci, hx⟩ : ∃ Ai li ci, xs[i]? = some (Value.slice Ai li ci) := by
          obtain ⟨Ai, ci, h1, _⟩ := Hhd.out.2 i _ (List.getElem?_eq_getElem (by rw [← HTn.out]; exact hlt))
          exact ⟨Ai, _, ci, h1⟩
        have q0 : wi.cell? ⟨b, o + i, none⟩ = some (.slice Ai li ci) := (Hb.out.cell (p := ⟨b, o + i, none⟩) hbl).trans (hcells i _ hx)
        have HW := Lib.hid (wth_snoc hx hik)
        have Hone := Lib.hid (show ∀ u ∈ (#[.slice Ai li ci] : Array Value).toList, u.oneCell' = true from fun u hu => by simp at hu; subst hu; exact Hhd.out.one _ (List.mem_of_getElem? hx))
        clear hcells hx hik
        go_wp2_with (at_builtin; refine wpList_app rfl (.tmp 17) (.tmp 22) _ rfl elemRow w.heap.size _ _ _ rfl (HO.out.kept (World.grownBy_alloc wi _ none) (by cases (Value.slice A' q c').ownBlock <;> simp)) _ _ _ _ rfl (Sl.new _ _ _ 1 1 rfl) Hone.out (by unfold maxLen; omega) (by omega) (by simp; omega) ?_; intro A2 c2 w2 ho2 hg2 _)
        have HB2 := Lib.hid (show Below w.heap.size w w2 from below_own (Hb.out.alloc hsz _) (HO.out.kept (World.grownBy_alloc wi _ none) (by cases (Value.slice A' q c').ownBlock <;> simp)) (Nat.le_refl _) (by simp; omega) hg2)
        have HO2 := Lib.hid ho2
        clear ho2 hg2
        go_roundg (gk - 1)
        case measure => omega
        case rel => exact ⟨i + 1, q + 1, A2, c2, by omega, by go_num, rfl, Lib.hid (by rw [HW.out, List.length_append, ← Hq.out]; rfl), by rw [HW.out]; exact HO2.out, HB2.out⟩
    · obtain rfl : i = n := by omega
      have hq : q = i - 1 := by
        rw [Hq.out, wth_len (by rw [Hxl.out]; omega), if_pos hk]
      subst hq
      have how := HO.out
      rw [show wth xs k i = xs.eraseIdx k by rw [← Hxl.out, wth_all]] at how
      have Hf := Lib.hid (hR.out (.returned (.slice A' (i - 1) c')) wi ⟨A', c', rfl, slR_of (Sl.of_own how) ((Hhd.out.erase k).below Hb.out) (by rw [List.length_eraseIdx_of_lt (by rw [← HTn.out]; exact hk), HTn.out]), Hb.out⟩)
      clear how
      go_wp2
      exact Hf.out
set_option maxRecDepth 100000 in
set_option maxHeartbeats 2000000 in
theorem refBest_zero (w : World) (A : Option Addr) (c : Nat) : Calls Try.prog 25 #[.slice A 0 c] w fun e w' => ∃ v, e = .returned (.tuple #[v, .int .i64 0, .bool true]) ∧ Below w.heap.size w w' := by
  refine calls_cps ?_
  intro R hR
  have Hf := Lib.hid (hR.out (.returned (.tuple #[.slice (some ⟨w.heap.size, 0, none⟩) 0 0, .int .i64 0, .bool true])) _ ⟨_, rfl, below_new w (.cells #[] 3)⟩)
  clear hR
  go_enter Try.func25, Try.ntmps25
  go_wp2
  go_ret3
  exact Hf.out
end Go.Proofs.Ytjdhcdoekfikpaa
