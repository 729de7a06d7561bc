/-
  Contracts of temper.based, temper.Beats and the third reference's Beats: all answer by one plain function; each states its condition.
-/
import Derived.Test.YtojbldoekalbnaaGreatDoorNSx
import Derived.Deep.DeepCutAuto
namespace Go.Proofs.YtojbldoekalbnaaGreatDoor
section
section
open Go.RowKit
theorem own_caps {W : World} {base e sz n c : Nat} {A : Option Addr} {xs : List Value} (h : W.ownsRow base e sz (.slice A n c) n xs) : n ≤ c ∧ c ≤ 9223372036854775807 := by
  obtain ⟨A2, c2, e, h1, h2, _⟩ := own_slice h
  injection e with _ _ e3
  unfold maxLen at h2
  omega
/-- The frequency of a tone, 0 where there is none. -/
def fqV (base : Nat) (t : Tn) : Nat := if t.freqN base < 9223372036854775808 then t.freqN base else 0
theorem fqV_lt (base : Nat) (t : Tn) : fqV base t < 9223372036854775808 := by unfold fqV; split <;> omega
theorem freq_tup (base : Nat) (t : Tn) : ∃ ce : Int, freqRet base t = .tuple #[.int .u64 (fqV base t : Nat), .int .i64 ce] := by
  unfold freqRet fqV
  split
  · exact ⟨0, rfl⟩
  · exact ⟨5, rfl⟩
/-- How fast a fifth beats. -/
def beatV (f g : Nat) : Nat := if 2 * g % 18446744073709551616 ≤ 3 * f % 18446744073709551616 then 3 * f % 18446744073709551616 - 2 * g % 18446744073709551616 else 2 * g % 18446744073709551616 - 3 * f % 18446744073709551616
def beatsF (base : Nat) (u : Int) : List Tn → List Int → Option (List Nat)
  | t :: L, s :: l => match joinT t (fifT s u) 1 with
    | some y => (beatsF base u L l).map (beatV (fqV base t) (fqV base y) :: ·)
    | none => none
  | _, _ => some []
/-- What is told of the tones of a temperament: an error, or a list. -/
def toldO (f : List Tn → List Int → Option (List Nat)) (base : Nat) (l : List Int) (u : Int) : Except Int (List Nat) :=
  match tonesF u tn0 l.dropLast with
  | none => .error 5
  | some L => if base = 0 ∨ 1152921504606846976 ≤ base then .error 1 else match f (tn0 :: L) l with
    | none => .error 5
    | some M => .ok M
def OutP (w : World) (O : Except Int (List Nat)) (e : Ending) (w' : World) : Prop :=
  Below w.heap.size w w' ∧ match O with
  | .error c => e = .returned (.tuple #[.slice none 0 0, .int .i64 c])
  | .ok M => ∃ A n c, n = M.length ∧ e = .returned (.tuple #[.slice A n c, .int .i64 0]) ∧ w'.ownsRow w.heap.size 31 1 (.slice A n c) n (M.flatMap u64E)
theorem elemU64 : ElemOk Tryz.prog 27 31 1 8 := ElemOk.of (z := .int .u64 0) Tryz.underlying27 (by kernel_rfl) rfl (by omega)
theorem own_nilU (w : World) (b : Nat) : w.ownsRow b 31 1 (.slice none 0 0) 0 ([].flatMap u64E) := ⟨rfl, .inl ⟨rfl, rfl⟩⟩
theorem tonesF_len {u : Int} {l : List Int} : ∀ {x : Tn} {L : List Tn}, tonesF u x l = some L → L.length = l.length := by
  induction l with
  | nil => intro x L h; simp only [tonesF, Option.some.injEq] at h; subst h; rfl
  | cons s l ih =>
    intro x L h
    simp only [tonesF] at h
    split at h
    · rename_i y hy
      cases e : tonesF u y l with
      | none => rw [e] at h; cases h
      | some M =>
        rw [e] at h
        simp only [Option.map_some, Option.some.injEq] at h
        subst h
        simp [ih e]
    · cases h
theorem tonesF_ok {u : Int} {l : List Int} : ∀ {x : Tn} {L : List Tn}, tonesF u x l = some L → x.Ok → ∀ t ∈ x :: L, t.Ok := by
  induction l with
  | nil =>
    intro x L h h2 t ht
    simp only [tonesF, Option.some.injEq] at h
    subst h
    simp only [List.mem_cons, List.not_mem_nil, or_false] at ht
    subst ht
    exact h2
  | cons s l ih =>
    intro x L h h2 t ht
    simp only [tonesF] at h
    split at h
    · rename_i y hy
      cases e : tonesF u y l with
      | none => rw [e] at h; cases h
      | some M =>
        rw [e] at h
        simp only [Option.map_some, Option.some.injEq] at h
        subst h
        rcases List.mem_cons.1 ht with rfl | ht
        · exact h2
        · exact ih e (stepT_ok hy) t ht
    · cases h
def BasedP (w : World) (base : Nat) (l : List Int) (u : Int) (e : Ending) (w' : World) : Prop :=
  Below w.heap.size w w' ∧ ((rightB l u = false ∧ e = .returned (.tuple #[.slice none 0 0, .int .i64 1])) ∨
    (rightB l u = true ∧ tonesF u tn0 l.dropLast = none ∧ e = .returned (.tuple #[.slice none 0 0, .int .i64 5])) ∨
    (rightB l u = true ∧ (∃ L, tonesF u tn0 l.dropLast = some L) ∧ (base = 0 ∨ 1152921504606846976 ≤ base) ∧ e = .returned (.tuple #[.slice none 0 0, .int .i64 1])) ∨
    (∃ L A n c, rightB l u = true ∧ tonesF u tn0 l.dropLast = some L ∧ (0 < base ∧ base < 1152921504606846976) ∧ n = L.length + 1 ∧ e = .returned (.tuple #[.slice A n c, .int .i64 0]) ∧ w'.ownsRow w.heap.size 56 4 (.slice A n c) n ((tn0 :: L).flatMap tnE)))
set_option maxHeartbeats 2000000 in
theorem based_any (base : Nat) (A : Option Addr) (n c : Nat) (l : List Int) (u : Int) (w : World) (hS : SlE intE 1 w A n l) (hnc : n ≤ c) (hc : c ≤ 9223372036854775807) (_hb : base < 18446744073709551616) :
    Calls Tryz.prog 12 #[.int .u64 (base : Nat), .slice A n c, .int .i64 u] w (BasedP w base l u) := by
  refine calls_cps ?_
  intro R hR
  have Hton := Lib.hid (tones_any A n c l u w hS hnc hc)
  have HR := Lib.hid hR
  clear hR hS
  go_enter Tryz.func12, Tryz.ntmps12
  go_wp2_with fail
  refine Hton.out.mono ?_
  rintro e w1 ⟨hb1, ⟨hr, rfl⟩ | ⟨hr, hT, rfl⟩ | ⟨L, A2, n2, c2, hr, hL, hn2, rfl, ho⟩⟩
  · have Hf := Lib.hid (HR.out.out (.returned (.tuple #[.slice none 0 0, .int .i64 1])) w1 ⟨hb1, .inl ⟨hr, rfl⟩⟩)
    clear hr hb1
    go_wp2_with fail
    exact Hf.out
  · have Hf := Lib.hid (HR.out.out (.returned (.tuple #[.slice none 0 0, .int .i64 5])) w1 ⟨hb1, .inr (.inl ⟨hr, hT, rfl⟩)⟩)
    clear hr hT hb1
    go_wp2_with fail
    exact Hf.out
  · by_cases h0 : base = 0
    · have Hf := Lib.hid (HR.out.out (.returned (.tuple #[.slice none 0 0, .int .i64 1])) w1 ⟨hb1, .inr (.inr (.inl ⟨hr, ⟨L, hL⟩, .inl h0, rfl⟩))⟩)
      clear hr hL hb1 hn2 ho
      go_wp2_with fail
      exact Hf.out
    · by_cases h1 : 1152921504606846976 ≤ base
      · have t1 : decide ((1152921504606846976 : Int) ≤ (base : Int)) = true := decide_eq_true (by omega)
        have t2 : decide (1152921504606846976 ≤ base) = true := decide_eq_true h1
        have Hf := Lib.hid (HR.out.out (.returned (.tuple #[.slice none 0 0, .int .i64 1])) w1 ⟨hb1, .inr (.inr (.inl ⟨hr, ⟨L, hL⟩, .inr h1, rfl⟩))⟩)
        clear hr hL hb1 hn2 ho
        go_wp2_with fail
        exact Hf.out
      · have t1 : decide ((1152921504606846976 : Int) ≤ (base : Int)) = false := decide_eq_false (by omega)
        have t2 : decide (1152921504606846976 ≤ base) = false := decide_eq_false h1
        have Hf := Lib.hid (HR.out.out (.returned (.tuple #[.slice A2 n2 c2, .int .i64 0])) w1 ⟨hb1, .inr (.inr (.inr ⟨L, A2, n2, c2, hr, hL, ⟨by omega, by omega⟩, hn2, rfl, ho⟩))⟩)
        clear hr hL hb1 hn2 ho
        go_wp2_with fail
        exact Hf.out
theorem beatsF_len {base : Nat} {u : Int} : ∀ {L : List Tn} {l : List Int} {M : List Nat}, beatsF base u L l = some M → L.length = l.length → M.length = l.length := by
  intro L
  induction L with
  | nil => intro l M h hl; simp only [beatsF, Option.some.injEq] at h; subst h; simpa using hl
  | cons t L ih =>
    intro l M h hl
    cases l with
    | nil => simp at hl
    | cons s l =>
      simp only [beatsF] at h
      split at h
      · cases e : beatsF base u L l with
        | none => rw [e] at h; cases h
        | some M' =>
          rw [e] at h
          simp only [Option.map_some, Option.some.injEq] at h
          subst h
          simp [ih e (by simpa using hl)]
      · cases h
theorem dropT_at {l : List Tn} {i : Nat} {s : Tn} (h : l[i]? = some s) : l.drop i = s :: l.drop (i + 1) := by
  obtain ⟨hi, he⟩ := List.getElem?_eq_some_iff.1 h
  rw [← he]
  exact List.drop_eq_getElem_cons hi
end
end
section
section
open Go.RowKit
def ToldP (f : List Tn → List Int → Option (List Nat)) (w : World) (base : Nat) (l : List Int) (u : Int) (e : Ending) (w' : World) : Prop :=
  (rightB l u = false ∧ e = .returned (.tuple #[.slice none 0 0, .int .i64 1]) ∧ Below w.heap.size w w') ∨ (rightB l u = true ∧ OutP w (toldO f base l u) e w')
end
end
end Go.Proofs.YtojbldoekalbnaaGreatDoor
