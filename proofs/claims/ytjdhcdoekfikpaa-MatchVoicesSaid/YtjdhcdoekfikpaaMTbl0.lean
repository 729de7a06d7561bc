/-
  The cost table of jacks and quills, in plain words; and the contract of match.ranged; no condition but that the list reads.
-/
import Derived.Test.YtjdhcdoekfikpaaMFe
namespace Go.Proofs.Ytjdhcdoekfikpaa
open Go.RowKit

def prE (p : Int × Int) : List Value := [.int .i64 p.1, .int .i64 p.2]
theorem prE_len (p : Int × Int) : (prE p).length = 2 := rfl
def inR (lim x : Int) : Bool := decide (0 ≤ x) && decide (x ≤ lim)
theorem inR_iff {lim x : Int} : inR lim x = true ↔ 0 ≤ x ∧ x ≤ lim := by simp [inR]
def prOkB (p : Int × Int) : Bool := inR 10000 p.1 && inR 10000 p.2
def lenOkB (a b : Nat) : Bool := decide (1 ≤ a) && (decide (a ≤ b) && decide (b ≤ 64))
/-- The jacks and quills are valid. -/
def tbOkB (js qs : List (Int × Int)) (be tr : Int) : Bool := ((lenOkB js.length qs.length && (inR 100 be && inR 100 tr)) && js.all prOkB) && qs.all prOkB
/-- What a quill costs in a jack. -/
def ent (be tr : Int) (j q : Int × Int) : Int := if j.2 ≤ q.2 then (if q.1 - j.1 < 0 then -(q.1 - j.1) else q.1 - j.1) * be + (q.2 - j.2) * tr else -1
def tbRow (be tr : Int) (qs : List (Int × Int)) (j : Int × Int) : List Int := qs.map (ent be tr j)
def tbl (be tr : Int) (js qs : List (Int × Int)) : List (List Int) := js.map (tbRow be tr qs)
theorem ent_bd {be tr : Int} {j q : Int × Int} (h1 : inR 100 be = true) (h2 : inR 100 tr = true) (h3 : prOkB j = true) (h4 : prOkB q = true) : -1 ≤ ent be tr j q ∧ ent be tr j q ≤ 2000000 := by
  unfold prOkB at h3 h4
  rw [Bool.and_eq_true, inR_iff, inR_iff] at h3 h4
  rw [inR_iff] at h1 h2
  unfold ent
  split
  · rename_i hle
    obtain ⟨d, hd⟩ : ∃ d, (if q.1 - j.1 < 0 then -(q.1 - j.1) else q.1 - j.1) = d := ⟨_, rfl⟩
    have hdb : 0 ≤ d ∧ d ≤ 10000 := by rw [← hd]; split <;> omega
    rw [hd]
    obtain ⟨e, he⟩ : ∃ e, q.2 - j.2 = e := ⟨_, rfl⟩
    have heb : 0 ≤ e ∧ e ≤ 10000 := by omega
    rw [he]
    have m1 := Int.mul_nonneg hdb.1 h1.1
    have m2 := Int.mul_nonneg heb.1 h2.1
    have m3 : d * be ≤ 10000 * 100 := Int.mul_le_mul hdb.2 h1.2 h1.1 (by omega)
    have m4 : e * tr ≤ 10000 * 100 := Int.mul_le_mul heb.2 h2.2 h2.1 (by omega)
    omega
  · omega
theorem tbl_ok {be tr : Int} {js qs : List (Int × Int)} (h : tbOkB js qs be tr = true) : TOk (tbl be tr js qs) qs.length := by
  unfold tbOkB lenOkB at h
  simp only [Bool.and_eq_true, decide_eq_true_eq, List.all_eq_true] at h
  obtain ⟨⟨⟨⟨h1, h2, h3⟩, h4, h5⟩, h6⟩, h7⟩ := h
  refine ⟨by simpa [tbl] using h1, by simpa [tbl] using h2, h3, fun x hx => ?_, fun x hx c hc => ?_⟩
  · obtain ⟨j, _, rfl⟩ := List.mem_map.1 hx
    simp [tbRow]
  · obtain ⟨j, hj, rfl⟩ := List.mem_map.1 hx
    obtain ⟨q, hq, rfl⟩ := List.mem_map.1 hc
    have := ent_bd h4 h5 (h6 j hj) (h7 q hq)
    omega
theorem SlE.at2 {w : World} {A : Option Addr} {n k : Nat} {l : List (Int × Int)} (h : SlE prE 2 w A n l) (hk : k < n) :
    ∃ b o x y, A = some ⟨b, o, none⟩ ∧ b < w.heap.size ∧ l[k]? = some (x, y) ∧ w.cell? ⟨b, o + k * 2, none⟩ = some (.int .i64 x) ∧ w.cell? ⟨b, o + k * 2 + 1, none⟩ = some (.int .i64 y) := by
  obtain ⟨b, o, ⟨x, y⟩, hA, hb, hx, hc⟩ := h.at_ prE_len hk
  exact ⟨b, o, x, y, hA, hb, hx, by simpa using hc 0 _ rfl, by simpa [Nat.add_assoc] using hc 1 _ rfl⟩
set_option maxHeartbeats 1000000 in
theorem ranged_any (lim : Int) (A : Option Addr) (n c : Nat) (l : List Int) (w : World) (hA : SlE intE 1 w A n l) (hn : n ≤ 9223372036854775807) :
    Calls Try.prog 58 #[.int .i64 lim, .slice A n c] w fun e w' => e = .returned (.bool (l.all (inR lim))) ∧ w = w' := by
  refine calls_cps ?_
  intro R hR
  have Hl := Lib.hid hA.1
  have Hyes := Lib.hid (show l.all (inR lim) = true → R (.returned (.bool true)) w from fun h => hR.out _ _ ⟨by rw [h], rfl⟩)
  have Hno := Lib.hid (show l.all (inR lim) = false → R (.returned (.bool false)) w from fun h => hR.out _ _ ⟨by rw [h], rfl⟩)
  clear hR
  go_enter Try.func58, Try.ntmps58
  go_wp2_with fail
  go_loop [6, 9] (fun _ s9 => ∃ k : Nat, k ≤ n ∧ s9 = .int .i64 ((k : Nat) : Int) ∧ Hid ((l.take k).all (inR lim) = true)) (fun _ s9 => n - (intOf s9).toNat)
  case atStart => exact ⟨0, by omega, rfl, Lib.hid (by simp)⟩
  case round =>
    obtain ⟨k, hk, rfl, He⟩ := hrel
    by_cases hlt : k < n
    · obtain ⟨b, o, x, rfl, hbl, hx, q0⟩ := hA.at1 hlt
      have i1 : (k : Int) < (n : Int) := by omega
      by_cases hin : inR lim x = true
      · have hS := Lib.hid (all_snoc He.out hx hin)
        have h2 := inR_iff.1 hin
        have e1 := h2.1
        have e2 := h2.2
        clear hin hx h2
        go_wp2
        exact ⟨⟨k + 1, by omega, by go_num, Lib.hid hS.out⟩, by simp [intOf]; omega⟩
      · have Hf := Lib.hid (Hno.out (by
          rw [List.all_eq_false]
          exact ⟨x, List.mem_of_getElem? hx, by simpa using hin⟩))
        by_cases h0 : x < 0
        · clear hin hx
          go_wp2
          exact Hf.out
        · have e1 : 0 ≤ x := by omega
          have e2 : lim < x := by
            by_cases h : lim < x
            · exact h
            · exact absurd (inR_iff.2 ⟨e1, by omega⟩) hin
          clear hin hx h0
          go_wp2
          exact Hf.out
    · obtain rfl : k = n := by omega
      have he := He.out
      rw [List.take_of_length_le (by rw [Hl.out]; exact Nat.le_refl _)] at he
      have Hf := Lib.hid (Hyes.out he)
      clear he
      go_wp2
      exact Hf.out
end Go.Proofs.Ytjdhcdoekfikpaa
