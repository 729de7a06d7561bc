/-
  Contracts of temper.Check and of the document's Check: whether a ring is valid; condition: the two lists of weights can be read.
-/
import Derived.Test.YtojbldoekalbnaaGreatTLeaf
namespace Go.Proofs.YtojbldoekalbnaaGreat
open Go.RowKit
/-- A ring's numbers, and whether they are those of a valid ring. -/
structure Rn where
  N : Int
  S : Int
  low : Int
  high : Int
  total : Int
  pure : Int
  worst : Int
def rgOk (x : Rn) (fi th : List Int) : Bool :=
  inB x.N 3 24 && inB x.S 2 4 && decide (x.S < x.N) && inB x.low (-12) 12 && inB x.high x.low (x.low + 3) && inB x.total (-288) 288 && inB x.pure (-100) 100 && inB x.worst 0 1000 &&
  (fi.all (fun y => inB y 0 1000) && decide ((fi.length : Int) = x.N)) && (th.all (fun y => inB y 0 1000) && decide ((th.length : Int) = x.N))
def ringA (N S low high total pure worst : Int) (f t : Value) : Array Value := #[.int .i64 N, .int .i64 S, .int .i64 low, .int .i64 high, .int .i64 total, .int .i64 pure, .int .i64 worst, f, t]
def Rn.val (x : Rn) (f t : Value) : Value := .agg (ringA x.N x.S x.low x.high x.total x.pure x.worst f t)
theorem inB_iff {v lo hi : Int} : inB v lo hi = true ↔ lo ≤ v ∧ v ≤ hi := by unfold inB; simp
theorem within_is (v lo hi : Int) (b : Bool) (w : World) (h : inB v lo hi = b) :
    Calls Tryz.prog 44 #[.int .i64 v, .int .i64 lo, .int .i64 hi] w fun e w' => e = .returned (.bool b) ∧ w = w' := by subst h; exact within_any v lo hi w
theorem in_is (v lo hi : Int) (b : Bool) (w : World) (h : inB v lo hi = b) :
    Calls Tryz.prog 36 #[.int .i64 v, .int .i64 lo, .int .i64 hi] w fun e w' => e = .returned (.bool b) ∧ w = w' := by subst h; exact in_any v lo hi w
theorem weights_is (A : Option Addr) (n c : Nat) (l : List Int) (m : Int) (b : Bool) (w : World) (hS : SlE intE 1 w A n l) (hn : n ≤ 9223372036854775807) (h : (l.all (fun x => inB x 0 1000) && decide ((l.length : Int) = m)) = b) :
    Calls Tryz.prog 78 #[.slice A n c, .int .i64 m] w fun e w' => e = .returned (.bool b) ∧ w = w' := by
  subst h; rw [← hS.1]; exact weights_any A n c l m w hS hn
theorem all_is (A : Option Addr) (n c : Nat) (l : List Int) (m : Int) (b : Bool) (w : World) (hS : SlE intE 1 w A n l) (hn : n ≤ 9223372036854775807) (h : (l.all (fun x => inB x 0 1000) && decide ((l.length : Int) = m)) = b) :
    Calls Tryz.prog 37 #[.slice A n c, .int .i64 m, .int .i64 0, .int .i64 1000] w fun e w' => e = .returned (.bool b) ∧ w = w' := by
  subst h; rw [← hS.1, Bool.and_comm]; exact all_any A n c l m 0 1000 w hS hn

set_option maxRecDepth 8000 in
set_option maxHeartbeats 8000000 in
theorem check_any (x : Rn) (A B : Option Addr) (n c m d : Nat) (fi th : List Int) (w : World) (hF : SlE intE 1 w A n fi) (hT : SlE intE 1 w B m th) (hn : n ≤ 9223372036854775807) (hm : m ≤ 9223372036854775807) :
    Calls Tryz.prog 46 #[x.val (.slice A n c) (.slice B m d)] w fun e w' => e = .returned (.int .i64 (if rgOk x fi th then 0 else 1)) ∧ Below w.heap.size w w' := by
  obtain ⟨N, S, low, high, total, pure, worst⟩ := x
  refine calls_cps ?_
  intro R hR
  unfold Rn.val ringA
  have hF' := hF.alloc (.cells #[.int .i64 N, .int .i64 S, .int .i64 low, .int .i64 high, .int .i64 total, .int .i64 pure, .int .i64 worst, .slice A n c, .slice B m d] 50)
  have hT' := hT.alloc (.cells #[.int .i64 N, .int .i64 S, .int .i64 low, .int .i64 high, .int .i64 total, .int .i64 pure, .int .i64 worst, .slice A n c, .slice B m d] 50)
  have Hno := Lib.hid (show ∀ o, rgOk ⟨N, S, low, high, total, pure, worst⟩ fi th = false → R (.returned (.int .i64 1)) (w.alloc o) from fun o h => hR.out _ _ ⟨by rw [h]; rfl, (Below.refl _ _).alloc (Nat.le_refl _) _⟩)
  have Hyes := Lib.hid (show ∀ o, rgOk ⟨N, S, low, high, total, pure, worst⟩ fi th = true → R (.returned (.int .i64 0)) (w.alloc o) from fun o h => hR.out _ _ ⟨by rw [h]; rfl, (Below.refl _ _).alloc (Nat.le_refl _) _⟩)
  unfold rgOk at Hno Hyes
  dsimp only at Hno Hyes
  clear hR hF hT

  cases h0 : inB N 3 24
  · go_enter Tryz.func46, Tryz.ntmps46
    go_wp2_with (first | (go_at_call 44; (with_reducible refine (within_is _ _ _ _ _ (by assumption)).mono ?_); rintro e w' ⟨rfl, rfl⟩) | (go_at_call 78; (with_reducible refine (weights_is A n c fi N _ _ hF' hn (by assumption)).mono ?_); rintro e w' ⟨rfl, rfl⟩) | (go_at_call 78; (with_reducible refine (weights_is B m d th N _ _ hT' hm (by assumption)).mono ?_); rintro e w' ⟨rfl, rfl⟩))
    exact Hno.out _ (by simp [h0])
  cases h1 : inB S 2 4
  · go_enter Tryz.func46, Tryz.ntmps46
    go_wp2_with (first | (go_at_call 44; (with_reducible refine (within_is _ _ _ _ _ (by assumption)).mono ?_); rintro e w' ⟨rfl, rfl⟩) | (go_at_call 78; (with_reducible refine (weights_is A n c fi N _ _ hF' hn (by assumption)).mono ?_); rintro e w' ⟨rfl, rfl⟩) | (go_at_call 78; (with_reducible refine (weights_is B m d th N _ _ hT' hm (by assumption)).mono ?_); rintro e w' ⟨rfl, rfl⟩))
    exact Hno.out _ (by simp [h0, h1])
  cases h2 : decide (S < N)
  · go_enter Tryz.func46, Tryz.ntmps46
    have h2n : ¬ S < N := by simpa using h2
    have h2m : N ≤ S := by omega
    clear h2 h2n
    go_wp2_with (first | (go_at_call 44; (with_reducible refine (within_is _ _ _ _ _ (by assumption)).mono ?_); rintro e w' ⟨rfl, rfl⟩) | (go_at_call 78; (with_reducible refine (weights_is A n c fi N _ _ hF' hn (by assumption)).mono ?_); rintro e w' ⟨rfl, rfl⟩) | (go_at_call 78; (with_reducible refine (weights_is B m d th N _ _ hT' hm (by assumption)).mono ?_); rintro e w' ⟨rfl, rfl⟩))
    exact Hno.out _ (by simp [h0, h1, show ¬ S < N from by omega])
  have h2n : S < N := by simpa using h2
  clear h2
  cases h3 : inB low (-12) 12
  · go_enter Tryz.func46, Tryz.ntmps46
    go_wp2_with (first | (go_at_call 44; (with_reducible refine (within_is _ _ _ _ _ (by assumption)).mono ?_); rintro e w' ⟨rfl, rfl⟩) | (go_at_call 78; (with_reducible refine (weights_is A n c fi N _ _ hF' hn (by assumption)).mono ?_); rintro e w' ⟨rfl, rfl⟩) | (go_at_call 78; (with_reducible refine (weights_is B m d th N _ _ hT' hm (by assumption)).mono ?_); rintro e w' ⟨rfl, rfl⟩))
    exact Hno.out _ (by simp [h0, h1, h2n, h3])
  obtain ⟨l1, l2⟩ := inB_iff.1 h3
  cases h4 : inB high low (low + 3)
  · go_enter Tryz.func46, Tryz.ntmps46
    go_wp2_with (first | (go_at_call 44; (with_reducible refine (within_is _ _ _ _ _ (by assumption)).mono ?_); rintro e w' ⟨rfl, rfl⟩) | (go_at_call 78; (with_reducible refine (weights_is A n c fi N _ _ hF' hn (by assumption)).mono ?_); rintro e w' ⟨rfl, rfl⟩) | (go_at_call 78; (with_reducible refine (weights_is B m d th N _ _ hT' hm (by assumption)).mono ?_); rintro e w' ⟨rfl, rfl⟩))
    exact Hno.out _ (by simp [h0, h1, h2n, h3, h4])
  cases h5 : inB total (-288) 288
  · go_enter Tryz.func46, Tryz.ntmps46
    go_wp2_with (first | (go_at_call 44; (with_reducible refine (within_is _ _ _ _ _ (by assumption)).mono ?_); rintro e w' ⟨rfl, rfl⟩) | (go_at_call 78; (with_reducible refine (weights_is A n c fi N _ _ hF' hn (by assumption)).mono ?_); rintro e w' ⟨rfl, rfl⟩) | (go_at_call 78; (with_reducible refine (weights_is B m d th N _ _ hT' hm (by assumption)).mono ?_); rintro e w' ⟨rfl, rfl⟩))
    exact Hno.out _ (by simp [h0, h1, h2n, h3, h4, h5])
  cases h6 : inB pure (-100) 100
  · go_enter Tryz.func46, Tryz.ntmps46
    go_wp2_with (first | (go_at_call 44; (with_reducible refine (within_is _ _ _ _ _ (by assumption)).mono ?_); rintro e w' ⟨rfl, rfl⟩) | (go_at_call 78; (with_reducible refine (weights_is A n c fi N _ _ hF' hn (by assumption)).mono ?_); rintro e w' ⟨rfl, rfl⟩) | (go_at_call 78; (with_reducible refine (weights_is B m d th N _ _ hT' hm (by assumption)).mono ?_); rintro e w' ⟨rfl, rfl⟩))
    exact Hno.out _ (by simp [h0, h1, h2n, h3, h4, h5, h6])
  cases h7 : inB worst 0 1000
  · go_enter Tryz.func46, Tryz.ntmps46
    go_wp2_with (first | (go_at_call 44; (with_reducible refine (within_is _ _ _ _ _ (by assumption)).mono ?_); rintro e w' ⟨rfl, rfl⟩) | (go_at_call 78; (with_reducible refine (weights_is A n c fi N _ _ hF' hn (by assumption)).mono ?_); rintro e w' ⟨rfl, rfl⟩) | (go_at_call 78; (with_reducible refine (weights_is B m d th N _ _ hT' hm (by assumption)).mono ?_); rintro e w' ⟨rfl, rfl⟩))
    exact Hno.out _ (by simp [h0, h1, h2n, h3, h4, h5, h6, h7])
  cases h8 : (fi.all (fun y => inB y 0 1000) && decide ((fi.length : Int) = N))
  · go_enter Tryz.func46, Tryz.ntmps46
    go_wp2_with (first | (go_at_call 44; (with_reducible refine (within_is _ _ _ _ _ (by assumption)).mono ?_); rintro e w' ⟨rfl, rfl⟩) | (go_at_call 78; (with_reducible refine (weights_is A n c fi N _ _ hF' hn (by assumption)).mono ?_); rintro e w' ⟨rfl, rfl⟩) | (go_at_call 78; (with_reducible refine (weights_is B m d th N _ _ hT' hm (by assumption)).mono ?_); rintro e w' ⟨rfl, rfl⟩))
    exact Hno.out _ (by simp [h0, h1, h2n, h3, h4, h5, h6, h7, h8])
  cases h9 : (th.all (fun y => inB y 0 1000) && decide ((th.length : Int) = N))
  · go_enter Tryz.func46, Tryz.ntmps46
    go_wp2_with (first | (go_at_call 44; (with_reducible refine (within_is _ _ _ _ _ (by assumption)).mono ?_); rintro e w' ⟨rfl, rfl⟩) | (go_at_call 78; (with_reducible refine (weights_is A n c fi N _ _ hF' hn (by assumption)).mono ?_); rintro e w' ⟨rfl, rfl⟩) | (go_at_call 78; (with_reducible refine (weights_is B m d th N _ _ hT' hm (by assumption)).mono ?_); rintro e w' ⟨rfl, rfl⟩))
    exact Hno.out _ (by simp [h0, h1, h2n, h3, h4, h5, h6, h7, h8, h9])
  go_enter Tryz.func46, Tryz.ntmps46
  go_wp2_with (first | (go_at_call 44; (with_reducible refine (within_is _ _ _ _ _ (by assumption)).mono ?_); rintro e w' ⟨rfl, rfl⟩) | (go_at_call 78; (with_reducible refine (weights_is A n c fi N _ _ hF' hn (by assumption)).mono ?_); rintro e w' ⟨rfl, rfl⟩) | (go_at_call 78; (with_reducible refine (weights_is B m d th N _ _ hT' hm (by assumption)).mono ?_); rintro e w' ⟨rfl, rfl⟩))
  exact Hyes.out _ (by simp [h0, h1, h2n, h3, h4, h5, h6, h7, h8, h9])
end Go.Proofs.YtojbldoekalbnaaGreat
