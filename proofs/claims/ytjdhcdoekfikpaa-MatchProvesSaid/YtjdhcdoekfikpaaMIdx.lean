/-
  The contracts of slices.Index and slices.Contains of ints; no condition but that the list reads.
-/
import Derived.Test.YtjdhcdoekfikpaaMNum
namespace Go.Proofs.Ytjdhcdoekfikpaa
open Go.RowKit

/-- Where a number is first in a list; -1: nowhere. -/
def idxL (v : Int) : List Int → Nat → Int
  | [], _ => -1
  | a :: r, k => if v = a then (k : Int) else idxL v r (k + 1)
theorem idxL_drop {v : Int} {l : List Int} {k : Nat} {x : Int} (hx : l[k]? = some x) : idxL v (l.drop k) k = if v = x then (k : Int) else idxL v (l.drop (k + 1)) (k + 1) := by
  obtain ⟨hk, rfl⟩ := List.getElem?_eq_some_iff.1 hx
  rw [List.drop_eq_getElem_cons hk, idxL]
theorem idxL_spec (v : Int) : ∀ (l : List Int) (k : Nat), (idxL v l k = -1 ∧ v ∉ l) ∨ ∃ j, idxL v l k = ((k + j : Nat) : Int) ∧ l[j]? = some v
  | [], k => .inl ⟨rfl, by simp⟩
  | a :: r, k => by
    rw [idxL]
    by_cases h : v = a
    · rw [if_pos h]; exact .inr ⟨0, by simp, by simp [h]⟩
    · rw [if_neg h]
      rcases idxL_spec v r (k + 1) with ⟨h1, h2⟩ | ⟨j, h1, h2⟩
      · exact .inl ⟨h1, by simp [h, h2]⟩
      · exact .inr ⟨j + 1, by rw [h1]; congr 1; omega, by simpa using h2⟩
set_option maxHeartbeats 1000000 in
theorem index_any (A : Option Addr) (n c : Nat) (l : List Int) (v : Int) (w : World) (hA : SlE intE 1 w A n l) (hn : n ≤ 9223372036854775807) :
    Calls Try.prog 54 #[.slice A n c, .int .i64 v] w fun e w' => e = .returned (.int .i64 (idxL v l 0)) ∧ w = w' := by
  refine calls_cps ?_
  intro R hR
  have Hl := Lib.hid hA.1
  go_enter Try.func54, Try.ntmps54
  go_wp2_with fail
  go_loop [5, 8] (fun s5 s8 => ∃ k : Nat, k ≤ n ∧ s8 = .int .i64 ((k : Nat) : Int) ∧ Hid (idxL v l 0 = idxL v (l.drop k) k)) (fun _ s8 => n - (intOf s8).toNat)
  case atStart => exact ⟨0, by omega, rfl, Lib.hid (by simp)⟩
  case round =>
    obtain ⟨k, hk, rfl, He⟩ := hrel
    by_cases hlt : k < n
    · obtain ⟨b, o, x, rfl, hbl, hx, q0⟩ := hA.at1 hlt
      have he := He.out.trans (idxL_drop hx)
      obtain ⟨t, ht⟩ : ∃ t, (v == x) = t := ⟨_, rfl⟩
      have i1 : (k : Int) < (n : Int) := by omega
      cases t with
      | true =>
        have hvx : v = x := by simpa using ht
        rw [if_pos hvx] at he
        have Hfin := Lib.hid (hR.out (.returned (.int .i64 (k : Int))) w ⟨by rw [he], rfl⟩)
        clear he hvx hx
        go_wp2
        exact Hfin.out
      | false =>
        have hvx : ¬ v = x := by simpa using ht
        rw [if_neg hvx] at he
        have HE := Lib.hid he
        clear he hvx hx
        go_wp2
        exact ⟨⟨k + 1, by omega, by go_num, Lib.hid HE.out⟩, by simp [intOf]; omega⟩
    · obtain rfl : n = k := by omega
      have he := He.out
      rw [List.drop_of_length_le (by rw [Hl.out]; exact Nat.le_refl _)] at he
      have Hfin := Lib.hid (hR.out (.returned (.int .i64 (-1))) w ⟨by rw [he]; rfl, rfl⟩)
      clear he
      go_wp2
      exact Hfin.out
end Go.Proofs.Ytjdhcdoekfikpaa
