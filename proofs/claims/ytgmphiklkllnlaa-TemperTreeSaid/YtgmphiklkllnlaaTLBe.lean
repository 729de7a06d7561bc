/-
  The law's links and the contract of clavecinlaw03.TemperBearings; the condition is a slice that reads.
-/
import Derived.Test.YtgmphiklkllnlaaTSc
import Derived.Test.YtgmphiklkllnlaaTCut
import Derived.Test.YtgmphiklkllnlaaTSb
import Derived.Test.YtgmphiklkllnlaaTLk
namespace Go.Proofs.Ytgmphiklkllnlaa
section
open Go.RowKit
theorem slE_cutL {w : World} {A : Option Addr} {n k : Nat} {l : List Lk} (h : SlE linkE 3 w A n l) (hk : k ≤ n) : SlE linkE 3 w A k (l.take k) := by
  refine ⟨by rw [List.length_take, ← h.1]; omega, by rw [flat_length linkE_len, List.length_take, ← h.1, Nat.min_eq_left hk], fun h0 => ?_⟩
  obtain ⟨b, o, hA, hb, hc⟩ := h.2.2 (by omega)
  refine ⟨b, o, hA, hb, fun j u hu => hc j u ?_⟩
  rw [← List.take_append_drop k l, List.flatMap_append, List.getElem?_append_left (List.getElem?_eq_some_iff.1 hu).1]
  exact hu
theorem link_one (l : List Lk) : ∀ v ∈ l.flatMap linkE, v.oneCell' = true := fun v hv => by
  obtain ⟨x, _, hx⟩ := List.mem_flatMap.1 hv
  unfold linkE at hx
  simp at hx
  rcases hx with rfl | rfl | rfl <;> rfl
/-- How many of the links the law takes. -/
def lkK (n : Nat) : Nat := if 60 < n ∧ n ≤ 512 then 60 else if 512 < n then 513 else n
set_option maxRecDepth 8000 in
set_option maxHeartbeats 4000000 in
theorem links_any (A : Option Addr) (n c : Nat) (L : List Lk) (w : World) (hS : SlE linkE 3 w A n L) (hnc : n ≤ c) (hc : c ≤ 9223372036854775807) :
    Calls Try.prog 23 #[.slice A n c] w fun e w' => ∃ A' c', e = .returned (.slice A' (lkK n) c') ∧ SlE linkE 3 w' A' (lkK n) (L.take (lkK n)) ∧ Below w.heap.size w w' := by
  refine calls_cps ?_
  intro R hR
  have HO := Lib.hid (own_new w #[] 42 3 0 w.heap.size rfl (Nat.le_refl _) (by unfold maxLen; omega))
  have hkn : lkK n ≤ n := by
    unfold lkK
    split
    · omega
    · split <;> omega
  have hk5 : lkK n ≤ 513 := by
    unfold lkK
    split
    · omega
    · split <;> omega
  have HC := Lib.hid (slE_cutL hS hkn)
  obtain ⟨k, hk⟩ : ∃ k, lkK n = k := ⟨_, rfl⟩
  have hk' := hk
  unfold lkK at hk'
  rw [hk] at HC hR hkn hk5
  have HR := Lib.hid (show ∀ A3 c3 w3, SlE linkE 3 w3 A3 k (L.take k) → Below w.heap.size w w3 → R (.returned (.slice A3 k c3)) w3 from fun A3 c3 w3 h1 h2 => hR.out _ _ ⟨A3, c3, rfl, h1, h2⟩)
  clear hR hS hk
  have hik : (L.take k).length = k := HC.out.1.symm
  have Hik := Lib.hid hik
  clear hik
  by_cases h60 : 60 < n
  · by_cases h512 : n ≤ 512
    · rw [if_pos ⟨h60, h512⟩] at hk'
      subst hk'
      have i1 : (60 : Int) < (n : Int) := by omega
      have i2 : (n : Int) ≤ 512 := by omega
      have i3 : (60 : Int) ≤ (c : Int) := by omega
      go_enter Try.func23, Try.ntmps23
      go_wp2_with (at_builtin; refine wpList_app rfl (.tmp 18) (.tmp 19) _ rfl elemLink w.heap.size _ _ _ rfl HO.out _ _ _ _ rfl (HC.out.2.alloc _) (link_one _) (by unfold maxLen; omega) (by omega) (by simp) ?_; intro A3 c3 w3 ho3 hg3 _; rw [Nat.zero_add, List.nil_append] at ho3; have hb3 := app_below1 rfl hg3; have Hf := Lib.hid (HR.out A3 c3 w3 (SlE.of_own ho3 Hik.out.symm) hb3); clear hg3 ho3 hb3)
      exact Hf.out
    · rw [if_neg (by omega), if_pos (by omega)] at hk'
      subst hk'
      have i1 : (60 : Int) < (n : Int) := by omega
      have i2 : ¬ (n : Int) ≤ 512 := by omega
      have i4 : (512 : Int) < (n : Int) := by omega
      have i3 : (513 : Int) ≤ (c : Int) := by omega
      go_enter Try.func23, Try.ntmps23
      go_wp2_with (at_builtin; refine wpList_app rfl (.tmp 18) (.tmp 19) _ rfl elemLink w.heap.size _ _ _ rfl HO.out _ _ _ _ rfl (HC.out.2.alloc _) (link_one _) (by unfold maxLen; omega) (by omega) (by simp) ?_; intro A3 c3 w3 ho3 hg3 _; rw [Nat.zero_add, List.nil_append] at ho3; have hb3 := app_below1 rfl hg3; have Hf := Lib.hid (HR.out A3 c3 w3 (SlE.of_own ho3 Hik.out.symm) hb3); clear hg3 ho3 hb3)
      exact Hf.out
  · rw [if_neg (by omega), if_neg (by omega)] at hk'
    subst hk'
    have i1 : ¬ (60 : Int) < (n : Int) := by omega
    have i2 : ¬ (512 : Int) < (n : Int) := by omega
    go_enter Try.func23, Try.ntmps23
    go_wp2_with (at_builtin; refine wpList_app rfl (.tmp 18) (.tmp 19) _ rfl elemLink w.heap.size _ _ _ rfl HO.out _ _ _ _ rfl (HC.out.2.alloc _) (link_one _) (by unfold maxLen; omega) (by omega) (by simp) ?_; intro A3 c3 w3 ho3 hg3 _; rw [Nat.zero_add, List.nil_append] at ho3; have hb3 := app_below1 rfl hg3; have Hf := Lib.hid (HR.out A3 c3 w3 (SlE.of_own ho3 Hik.out.symm) hb3); clear hg3 ho3 hb3)
    exact Hf.out
end
section
open Go.RowKit
set_option maxRecDepth 8000 in
set_option maxHeartbeats 8000000 in
theorem bearings_any (notes : Int) (A : Option Addr) (n c : Nat) (L : List Lk) (w : World) (hS : SlE linkE 3 w A n L) (hnc : n ≤ c) (hc : c ≤ 9223372036854775807) :
    Calls Try.prog 4 #[.int .i64 notes, .slice A n c] w fun en w' => en = .returned (.bool true) ∧ Below w.heap.size w w' := by
  refine calls_cps ?_
  intro R hR
  have Hlk := Lib.hid (links_any A n c L w hS hnc hc)
  obtain ⟨K, hK⟩ : ∃ K, L.take (lkK n) = K := ⟨_, rfl⟩
  obtain ⟨k, hk⟩ : ∃ k, lkK n = k := ⟨_, rfl⟩
  have hk5 : k ≤ 513 := by rw [← hk]; unfold lkK; split <;> first | omega | (split <;> omega)
  rw [hK, hk] at Hlk
  have HY := Lib.hid (show ∀ W, Below w.heap.size w W → R (.returned (.bool true)) W from fun W h => hR.out _ W ⟨rfl, h⟩)
  clear hR hS hK hk
  cases hp : planB notes K
  · have HA := Lib.hid (fun (W : World) (A2 : Option Addr) (c2 : Nat) (h : SlE linkE 3 W A2 k K) => bear_bad notes A2 k c2 K W h (by omega) hp)
    have HB := Lib.hid (fun (W : World) (A2 : Option Addr) (c2 : Nat) (h : SlE linkE 3 W A2 k K) => refBear_bad notes A2 k c2 K W h (by omega) hp)
    clear hp
    go_enter Try.func4, Try.ntmps4
    go_wp2_with (first
      | (go_at_call 23; refine Hlk.out.mono ?_; rintro e1 w2 ⟨A2, c2, rfl, hs, hb⟩; have Hs := Lib.hid hs; have Hb := Lib.hid hb; clear hs hb)
      | (go_at_call 24; refine (HA.out _ _ _ Hs.out).mono ?_; rintro e1 w3 ⟨rfl, hb⟩; have Hs := Lib.hid (Hs.out.below hb); have Hb := Lib.hid (Hb.out.trans (hb.mono Hb.out.size)); clear hb)
      | (go_at_call 25; refine (HB.out _ _ _ Hs.out).mono ?_; rintro e1 w4 ⟨rfl, hb⟩; have Hs := Lib.hid (Hs.out.below hb); have Hb := Lib.hid (Hb.out.trans (hb.mono Hb.out.size)); clear hb)
      | (go_at_call 22; refine (same_self none none 0 0 0 [] _ (SlE.nil _ _) (SlE.nil _ _) (by omega)).mono ?_; rintro e1 w5 ⟨rfl, hb⟩; have Hb := Lib.hid (Hb.out.trans (hb.mono Hb.out.size)); clear hb)
      | (go_at_call 19; refine (lives_any _).mono ?_; rintro e1 w6 ⟨rfl, hb⟩; have Hb := Lib.hid (Hb.out.trans (hb.mono Hb.out.size)); clear hb))
    exact HY.out _ Hb.out
  · have hpl := (planB_iff _ _).1 hp
    obtain ⟨N, rfl⟩ : ∃ N : Nat, notes = N := ⟨notes.toNat, by have := hpl.lo; omega⟩
    obtain ⟨T, hT⟩ : ∃ T, (kruL K stop0).1 = T := ⟨_, rfl⟩
    have hT2 : (kruL K (stopB (N : Nat))).1 = T := by rw [← hT]; exact kruL_same (fun l hl => by have := hpl.lk l hl; omega)
    have hTl : T.length + 1 ≤ N := by
      rw [← hT]
      exact kruL_le hpl
    have HA := Lib.hid (fun (W : World) (A2 : Option Addr) (c2 : Nat) (h : SlE linkE 3 W A2 k K) => bear2_ok (N : Nat) A2 k c2 K W h hpl hpl.len T hT2)
    have HB := Lib.hid (fun (W : World) (A2 : Option Addr) (c2 : Nat) (h : SlE linkE 3 W A2 k K) => refBear_any N A2 k c2 K W h hpl T hT)
    have hN64 := hpl.hi
    clear hp hpl hT hT2
    by_cases hTN : T.length + 1 = N
    · have hil : T.length = (isrt T).length := (isrt_len T).symm
      have Hil := Lib.hid hil
      clear hil
      go_enter Try.func4, Try.ntmps4
      go_wp2_with (first
        | (go_at_call 23; refine Hlk.out.mono ?_; rintro e1 w2 ⟨A2, c2, rfl, hs, hb⟩; have Hs := Lib.hid hs; have Hb := Lib.hid hb; clear hs hb)
        | (go_at_call 24; refine (HA.out _ _ _ Hs.out).mono ?_; rintro e1 w3 ⟨hb, ⟨h1, -⟩ | ⟨-, A5, c5, rfl, ho⟩⟩; (· (exact absurd h1 (by omega))); have HL := Lib.hid (SlE.of_own ho Hil.out); have Hs := Lib.hid (Hs.out.below hb); have Hb := Lib.hid (Hb.out.trans (hb.mono Hb.out.size)); clear hb ho)
        | (go_at_call 25; refine (HB.out _ _ _ Hs.out).mono ?_; rintro e1 w4 ⟨hb, ⟨h1, -⟩ | ⟨-, A6, c6, rfl, hs6⟩⟩; (· (exact absurd hTN h1)); have HL := Lib.hid (HL.out.below hb); have HM := Lib.hid hs6; have Hb := Lib.hid (Hb.out.trans (hb.mono Hb.out.size)); clear hb hs6)
        | (go_at_call 22; refine (same_self A5 A6 T.length c5 c6 (isrt T) _ HL.out HM.out (by omega)).mono ?_; rintro e1 w5 ⟨rfl, hb⟩; have Hb := Lib.hid (Hb.out.trans (hb.mono Hb.out.size)); clear hb)
        | (go_at_call 19; refine (lives_any _).mono ?_; rintro e1 w6 ⟨rfl, hb⟩; have Hb := Lib.hid (Hb.out.trans (hb.mono Hb.out.size)); clear hb))
      exact HY.out _ Hb.out
    · go_enter Try.func4, Try.ntmps4
      go_wp2_with (first
        | (go_at_call 23; refine Hlk.out.mono ?_; rintro e1 w2 ⟨A2, c2, rfl, hs, hb⟩; have Hs := Lib.hid hs; have Hb := Lib.hid hb; clear hs hb)
        | (go_at_call 24; refine (HA.out _ _ _ Hs.out).mono ?_; rintro e1 w3 ⟨hb, ⟨-, rfl⟩ | ⟨h1, -⟩⟩; rotate_left; (· (exact absurd h1 (by omega))); have Hs := Lib.hid (Hs.out.below hb); have Hb := Lib.hid (Hb.out.trans (hb.mono Hb.out.size)); clear hb)
        | (go_at_call 25; refine (HB.out _ _ _ Hs.out).mono ?_; rintro e1 w4 ⟨hb, ⟨-, rfl⟩ | ⟨h1, -⟩⟩; rotate_left; (· (exact absurd h1 hTN)); have Hb := Lib.hid (Hb.out.trans (hb.mono Hb.out.size)); clear hb)
        | (go_at_call 22; refine (same_self none none 0 0 0 [] _ (SlE.nil _ _) (SlE.nil _ _) (by omega)).mono ?_; rintro e1 w5 ⟨rfl, hb⟩; have Hb := Lib.hid (Hb.out.trans (hb.mono Hb.out.size)); clear hb)
        | (go_at_call 19; refine (lives_any _).mono ?_; rintro e1 w6 ⟨rfl, hb⟩; have Hb := Lib.hid (Hb.out.trans (hb.mono Hb.out.size)); clear hb))
      exact HY.out _ Hb.out
end
end Go.Proofs.Ytgmphiklkllnlaa
