/-
  Contract of temper.plan: which bearing plans are valid; no condition but a slice of links that reads.
-/
import Derived.Test.YtojbldoekalbnaaGreatTSort
namespace Go.Proofs.YtojbldoekalbnaaGreat
open Go.RowKit
def lnkB (m : Int) (l : Lk) : Bool := inB l.a 0 m && inB l.b 0 m && inB l.w 0 1000000
def planB (notes : Int) (L : List Lk) : Bool := L.all (lnkB (IntKind.i64.wrap (notes - 1))) && (inB notes 1 64 && decide (L.length ≤ 512))
theorem allL_false {m : Int} {L : List Lk} {k : Nat} {l : Lk} (h : L[k]? = some l) (hx : lnkB m l = false) : L.all (lnkB m) = false := by
  rw [List.all_eq_false]
  exact ⟨l, List.mem_of_getElem? h, by simp [hx]⟩
theorem allL_take {m : Int} {L : List Lk} {k : Nat} {l : Lk} (h : (L.take k).all (lnkB m) = true) (hs : L[k]? = some l) (hx : lnkB m l = true) : (L.take (k + 1)).all (lnkB m) = true := by
  rw [List.take_add_one, hs, List.all_append, h]; simp [hx]
set_option maxRecDepth 8000 in
set_option maxHeartbeats 4000000 in
theorem plan_any (notes : Int) (A : Option Addr) (n c : Nat) (L : List Lk) (w : World) (hS : SlE linkE 3 w A n L) (hn : n ≤ 9223372036854775807) :
    Calls Tryz.prog 51 #[.int .i64 notes, .slice A n c] w fun e w' => e = .returned (.bool (planB notes L)) ∧ Below w.heap.size w w' := by
  refine calls_cps ?_
  intro R hR
  have HS := Lib.hid hS
  clear hS
  obtain ⟨m, hm⟩ : ∃ m, IntKind.i64.wrap (notes - 1) = m := ⟨_, rfl⟩
  have HR := Lib.hid (show ∀ (b : Bool) (w' : World), b = (L.all (lnkB m) && (inB notes 1 64 && decide (n ≤ 512))) → Below w.heap.size w w' → R (.returned (.bool b)) w' from fun b w' e hb => hR.out _ _ ⟨by rw [e]; unfold planB; rw [hm, HS.out.1], hb⟩)
  clear hR
  go_enter Tryz.func51, Tryz.ntmps51
  go_upto_region 1 with fail
  go_wp2_with fail
  go_loopw [9] (fun i wr => ∃ k : Nat, k ≤ n ∧ i = .int .i64 (k : Nat) ∧ Below w.heap.size w wr ∧ Hid ((L.take k).all (lnkB m) = true)) (fun i _ => n - (intOf i).toNat)
  case atStart => exact ⟨0, Nat.zero_le _, rfl, Below.refl _ _, Lib.hid (by simp)⟩
  case round =>
    obtain ⟨k, hk, rfl, hb, Hall⟩ := hrel
    have Hb := Lib.hid hb
    clear hb
    by_cases hlt : k < n
    · obtain ⟨b, o, l, e, hbl, hs, p0, p1, p2⟩ := (HS.out.below Hb.out).at3 hlt
      subst e
      have Hs := Lib.hid hs
      clear hs
      have Hb2 := Lib.hid (fun o => Hb.out.alloc Hb.out.size o)
      go_wp2_with (first | (go_at_call 44; refine (within_any _ _ _ _).mono ?_; rintro e w' ⟨rfl, rfl⟩))
      case roundEnd => exact ⟨⟨k + 1, by omega, by go_num, Hb2.out _, Lib.hid (allL_take Hall.out Hs.out (by simp_all [lnkB]))⟩, by simp [intOf]; omega⟩
      all_goals
        refine HR.out false _ ?_ (Hb2.out _)
        rw [allL_false Hs.out (by simp_all [lnkB])]
        rfl
    · obtain rfl : k = n := by omega
      have h := Hall.out
      rw [List.take_of_length_le (by rw [HS.out.1]; exact Nat.le_refl _)] at h
      have HF := Lib.hid (show ∀ b : Bool, b = (inB notes 1 64 && decide (k ≤ 512)) → R (.returned (.bool b)) wr from fun b e => HR.out b wr (by rw [e, h]; rfl) Hb.out)
      clear HR h Hall
      by_cases h5 : k ≤ 512
      all_goals
        go_wp2_with (first | (go_at_call 44; refine (within_any _ _ _ _).mono ?_; rintro e w' ⟨rfl, rfl⟩))
        all_goals exact HF.out _ (by simp_all <;> omega)
/-- A valid plan. -/
structure Pln (notes : Int) (L : List Lk) : Prop where
  lo : 1 ≤ notes
  hi : notes ≤ 64
  len : L.length ≤ 512
  lk : ∀ l ∈ L, (0 ≤ l.a ∧ l.a ≤ notes - 1) ∧ (0 ≤ l.b ∧ l.b ≤ notes - 1) ∧ (0 ≤ l.w ∧ l.w ≤ 1000000)
theorem planB_iff (notes : Int) (L : List Lk) : planB notes L = true ↔ Pln notes L := by
  unfold planB
  rw [Bool.and_eq_true, Bool.and_eq_true, List.all_eq_true, decide_eq_true_eq, inB_iff]
  constructor
  · rintro ⟨h1, ⟨h2, h3⟩, h4⟩
    have e : IntKind.i64.wrap (notes - 1) = notes - 1 := IntWalk.i64_in _ (by omega)
    refine ⟨h2, h3, h4, fun l hl => ?_⟩
    have := h1 l hl
    rw [e] at this
    simp only [lnkB, Bool.and_eq_true, inB_iff] at this
    exact ⟨this.1.1, this.1.2, this.2⟩
  · rintro ⟨h2, h3, h4, h1⟩
    have e : IntKind.i64.wrap (notes - 1) = notes - 1 := IntWalk.i64_in _ (by omega)
    refine ⟨fun l hl => ?_, ⟨h2, h3⟩, h4⟩
    rw [e]
    simp only [lnkB, Bool.and_eq_true, inB_iff]
    have := h1 l hl
    exact ⟨⟨this.1, this.2.1⟩, this.2.2⟩
end Go.Proofs.YtojbldoekalbnaaGreat
