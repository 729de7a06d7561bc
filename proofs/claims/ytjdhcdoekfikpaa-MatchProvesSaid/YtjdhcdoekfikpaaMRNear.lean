/-
  The contract of the document's Near: how many columns some rows may have; condition: the table is valid and has the rows.
-/
import Derived.Test.YtjdhcdoekfikpaaMAll
import Derived.Test.YtjdhcdoekfikpaaMHall
namespace Go.Proofs.Ytjdhcdoekfikpaa
open Go.RowKit

theorem anyP_snoc {g : Nat → Nat → Bool} {rows : List Nat} {k i r : Nat} (h : rows[i]? = some r) : ((rows.take (i + 1)).any fun r => g r k) = ((rows.take i).any (fun r => g r k) || g r k) := by
  obtain ⟨hi, rfl⟩ := List.getElem?_eq_some_iff.1 h
  rw [List.take_succ_eq_append_getElem hi, List.any_append]
  simp
theorem near_snoc (g : Nat → Nat → Bool) (rows : List Nat) (k : Nat) : near g (k + 1) rows = near g k rows + if rows.any (fun r => g r k) = true then 1 else 0 := by
  unfold near nearC
  rw [List.range_succ, List.filter_append, List.length_append]
  cases h : rows.any fun r => g r k <;> simp [h]
theorem near_le (g : Nat → Nat → Bool) (m : Nat) (rows : List Nat) : near g m rows ≤ m := by
  unfold near nearC
  have := List.length_filter_le (fun k => rows.any fun r => g r k) (List.range m)
  simpa using this
set_option maxRecDepth 100000 in
set_option maxHeartbeats 4000000 in
theorem refNear_any (A : Option Addr) (n c m : Nat) (T : List (List Int)) (A2 : Option Addr) (L c2 : Nat) (rows : List Nat) (w : World) (hT : SlR w A n T) (hok : TOk T m) (hA : SlE intE 1 w A2 L (rows.map fun (r : Nat) => (r : Int))) (hL : L ≤ 1000) (hrows : ∀ r ∈ rows, r < n) :
    Calls Try.prog 31 #[.slice A n c, .slice A2 L c2] w fun e w' => e = .returned (.int .i64 (near (gT T) m rows : Int)) ∧ w = w' := by
  refine calls_cps ?_
  intro R hR
  have hn1 : 1 ≤ n := by rw [hT.1]; exact hok.n1
  obtain ⟨b, o, A0, c0, rfl, hh⟩ := hT.head (by omega)
  rw [hok.wid] at hh
  have HT := Lib.hid hT
  have HA := Lib.hid hA
  have Hrows := Lib.hid hrows
  have Hrect := Lib.hid hok.rect
  have Hlen := Lib.hid (show L = rows.length by rw [hA.1, List.length_map])
  have h64 := hok.m64
  have hnm : n ≤ m := by rw [hT.1]; exact hok.nm
  have i0 : 0 < n := by omega
  clear hT hA hrows hok
  go_enter Try.func31, Try.ntmps31
  go_wp2_with fail
  go_loop [5, 6] (fun s5 s6 => ∃ k : Nat, k ≤ m ∧ s5 = .int .i64 (near (gT T) k rows : Int) ∧ s6 = .int .i64 ((k : Nat) : Int)) (fun _ s6 => m - (intOf s6).toNat)
  case atStart => exact ⟨0, by omega, rfl, rfl⟩
  case round =>
    obtain ⟨k, hk, rfl, rfl⟩ := hrel
    by_cases hlt : k < m
    · have i1 : (k : Int) < (m : Int) := by omega
      go_wp2_with fail
      go_loop [7, 8] (fun s7 s8 => ∃ i : Nat, i ≤ L ∧ s7 = .bool ((rows.take i).any fun r => gT T r k) ∧ s8 = .int .i64 ((i : Nat) : Int)) (fun _ s8 => L - (intOf s8).toNat)
      case atStart => exact ⟨0, by omega, rfl, rfl⟩
      case round =>
        obtain ⟨i, hi, rfl, rfl⟩ := hrel
        by_cases hli : i < L
        · have i2 : (i : Int) < (L : Int) := by omega
          obtain ⟨b2, o2, x, rfl, _, hx, q0⟩ := HA.out.at1 hli
          have hir : i < rows.length := by rw [← Hlen.out]; exact hli
          obtain ⟨r, hr⟩ : ∃ r, rows[i]? = some r := ⟨_, List.getElem?_eq_getElem hir⟩
          obtain rfl : x = (r : Int) := by
            rw [List.getElem?_map, hr] at hx
            simpa using hx.symm
          have hrn : r < n := Hrows.out r (List.mem_of_getElem? hr)
          have Hsn := Lib.hid (anyP_snoc (g := gT T) (k := k) hr)
          clear hx hir hr
          cases ht : (rows.take i).any fun r => gT T r k with
          | true =>
            have HQ := Lib.hid (show ((rows.take (i + 1)).any fun r => gT T r k) = true by rw [Hsn.out, ht]; rfl)
            clear ht
            go_wp2_with fail
            exact ⟨⟨i + 1, by omega, by rw [HQ.out], by go_num⟩, by simp [intOf]; omega⟩
          | false =>
            obtain ⟨b', o', Ai, ci, bi, oi, e, _, _, q1, rfl, q2⟩ := table_at HT.out Hrect.out (Below.refl _ _) hrn hlt
            simp only [Option.some.injEq, Addr.mk.injEq, and_true] at e
            obtain ⟨rfl, rfl⟩ := e
            obtain ⟨y, hy⟩ : ∃ y, ct T r k = y := ⟨_, rfl⟩
            rw [hy] at q2
            have HQ := Lib.hid (show ((rows.take (i + 1)).any fun r => gT T r k) = decide (0 ≤ y) by rw [Hsn.out, ht]; unfold gT; rw [hy]; rfl)
            have i3 : (r : Int) < (n : Int) := by omega
            clear ht hy
            go_wp2_with fail
            exact ⟨⟨i + 1, by omega, by rw [HQ.out], by go_num⟩, by simp [intOf]; omega⟩
        · obtain rfl : L = i := by omega
          have Hall := Lib.hid (show rows.take L = rows from List.take_of_length_le (by rw [Hlen.out]; exact Nat.le_refl _))
          have hnl := near_le (gT T) k rows
          have Hsn := Lib.hid (near_snoc (gT T) rows k)
          rw [Hall.out]
          obtain ⟨c1, hc1⟩ : ∃ c1, near (gT T) k rows = c1 := ⟨_, rfl⟩
          rw [hc1] at hnl ⊢
          have Hc1 := Lib.hid hc1
          clear hc1
          cases ht : rows.any fun r => gT T r k with
          | true =>
            have HQ := Lib.hid (show near (gT T) (k + 1) rows = c1 + 1 by rw [Hsn.out, ht, Hc1.out]; rfl)
            clear ht
            go_wp2_with fail
            exact ⟨⟨k + 1, by omega, by rw [HQ.out]; go_num, by go_num⟩, by simp [intOf]; omega⟩
          | false =>
            have HQ := Lib.hid (show near (gT T) (k + 1) rows = c1 by rw [Hsn.out, ht, Hc1.out]; rfl)
            clear ht
            go_wp2_with fail
            exact ⟨⟨k + 1, by omega, by rw [HQ.out], by go_num⟩, by simp [intOf]; omega⟩
    · obtain rfl : m = k := by omega
      have Hf := Lib.hid (hR.out (.returned (.int .i64 (near (gT T) m rows : Int))) w ⟨rfl, rfl⟩)
      go_wp2
      exact Hf.out
end Go.Proofs.Ytjdhcdoekfikpaa
