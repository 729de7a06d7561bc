/-
  Contracts of the small functions of the panel: as, part; no condition but those that each contract states.
-/
import Derived.Test.YtfkpioibinpfhaaPLeaf
import Derived.Test.YtfkpioibinpfhaaPSpec2
import Derived.Test.YtfkpioibinpfhaaBase2
namespace Go.Proofs.Ytfkpioibinpfhaa
open Go.RowKit

def asB (w h : Int) (s : Shp) (t : Bool) : Bool := (t && s.T && (w == s.H) && (h == s.W)) || (!t && (w == s.W) && (h == s.H))
def asV (w h : Int) (s : Shp) (t : Bool) : Int := if asB w h s t then s.V else -1
set_option maxHeartbeats 1000000 in
theorem as_any (x y : Int) (s : Shp) (t : Bool) (w : World) :
    Calls Try.prog 49 #[.int .i64 x, .int .i64 y, .agg #[.int .i64 s.W, .int .i64 s.H, .int .i64 s.V, .bool s.T], .bool t] w fun e w' => e = .returned (.int .i64 (asV x y s t)) ∧ Below w.heap.size w w' := by
  refine calls_cps ?_
  intro R hR
  have hb := Lib.hid (show ∀ o, Below w.heap.size w (w.alloc o) from fun o => (Below.refl _ _).alloc (Nat.le_refl _) _)
  obtain ⟨W, H, V, T⟩ := s
  dsimp only
  have Hyes := Lib.hid (show ∀ W', asB x y ⟨W, H, V, T⟩ t = true → Below w.heap.size w W' → R (.returned (.int .i64 V)) W' from fun W' h1 h2 => hR.out _ _ ⟨ret_int (by rw [asV, if_pos h1]), h2⟩)
  have Hno := Lib.hid (show ∀ W', asB x y ⟨W, H, V, T⟩ t = false → Below w.heap.size w W' → R (.returned (.int .i64 (-1))) W' from fun W' h1 h2 => hR.out _ _ ⟨ret_int (by rw [asV, h1]; rfl), h2⟩)
  clear hR
  cases t
  · obtain ⟨b1, h1⟩ : ∃ b, (x == W) = b := ⟨_, rfl⟩
    obtain ⟨b2, h2⟩ : ∃ b, (y == H) = b := ⟨_, rfl⟩
    cases b1 <;> cases b2
    all_goals
      go_enter Try.func49, Try.ntmps49
      go_wp2
      first
        | exact Hyes.out _ (by simp [asB, h1, h2]) (hb.out _)
        | exact Hno.out _ (by simp [asB, h1, h2]) (hb.out _)
  · obtain ⟨b1, h1⟩ : ∃ b, (x == H) = b := ⟨_, rfl⟩
    obtain ⟨b2, h2⟩ : ∃ b, (y == W) = b := ⟨_, rfl⟩
    cases T <;> cases b1 <;> cases b2
    all_goals
      go_enter Try.func49, Try.ntmps49
      go_wp2
      first
        | exact Hyes.out _ (by simp [asB, h1, h2]) (hb.out _)
        | exact Hno.out _ (by simp [asB, h1, h2]) (hb.out _)

theorem part_any (A : Option Addr) (n c : Nat) (rows : List (List Int)) (x y : Int) (w : World) (hS : SlR w A n rows) (hx : x ≤ n) (hn : n ≤ 9223372036854775807)
    (hy : ∀ r ∈ rows, y ≤ r.length ∧ r.length ≤ 9223372036854775807) (hx0 : -9223372036854775000 ≤ x) (hy0 : -9223372036854775000 ≤ y) :
    Calls Try.prog 51 #[.slice A n c, .int .i64 x, .int .i64 y] w fun e w' => e = .returned (.int .i64 (tabF rows x y)) ∧ w = w' := by
  refine calls_cps ?_
  intro R hR
  have Hz := Lib.hid (show (x < 1 ∨ y < 1) → R (.returned (.int .i64 0)) w from fun h => hR.out _ _ ⟨ret_int (by rw [tabF, if_pos h]), rfl⟩)
  by_cases h1 : x < 1
  · clear hS hy
    go_enter Try.func51, Try.ntmps51
    go_wp2
    exact Hz.out (.inl h1)
  · by_cases h2 : y < 1
    · clear hS hy
      go_enter Try.func51, Try.ntmps51
      go_wp2
      exact Hz.out (.inr h2)
    · obtain ⟨i, hi⟩ : ∃ i : Nat, x = i + 1 := ⟨(x - 1).toNat, by omega⟩
      obtain ⟨j, hj⟩ : ∃ j : Nat, y = j + 1 := ⟨(y - 1).toNat, by omega⟩
      subst hi hj
      have hir : i < rows.length := by have := hS.1; omega
      obtain ⟨b, o, rfl, hlt, hc⟩ := hS.2 (by omega)
      obtain ⟨Ai, ci, hcell, hrow⟩ := hc i _ (List.getElem?_eq_getElem hir)
      have hyr := hy _ (List.getElem_mem hir)
      obtain ⟨b2, o2, v, rfl, hb2, hv, hcell2⟩ := hrow.at1 (k := j) (by omega)
      have Hv := Lib.hid (show R (.returned (.int .i64 v)) w from hR.out _ _ ⟨ret_int (by
        rw [tabF, if_neg (by omega), show ((i : Int) + 1 - 1).toNat = i by omega, show ((j : Int) + 1 - 1).toNat = j by omega]
        rw [List.getD_eq_getElem?_getD, List.getD_eq_getElem?_getD, List.getElem?_eq_getElem hir]
        simp [hv]), rfl⟩)
      clear hR hS hy hc Hz hrow hv
      obtain ⟨rl, hrl⟩ : ∃ rl, (rows[i]).length = rl := ⟨_, rfl⟩
      rw [hrl] at hyr hcell
      clear hrl
      have hyr1 : (j : Int) < rl := by omega
      have hyr2 : rl ≤ 9223372036854775807 := hyr.2
      clear hyr
      go_enter Try.func51, Try.ntmps51
      go_wp2
      exact Hv.out
end Go.Proofs.Ytfkpioibinpfhaa
