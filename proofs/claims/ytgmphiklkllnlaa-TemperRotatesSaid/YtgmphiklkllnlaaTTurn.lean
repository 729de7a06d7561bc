/-
  Contract of the law's turned: a list rotated; conditions: the slice reads as a list that is not empty and short, and the number is small.
-/
import Derived.Test.YtgmphiklkllnlaaTLk
import Derived.Test.YtgmphiklkllnlaaTRot
namespace Go.Proofs.Ytgmphiklkllnlaa
open Go.RowKit
theorem rot_snoc (l : List Int) (b k : Nat) : (List.range (k + 1)).map (fun i => l.getD ((i + b) % l.length) 0) = (List.range k).map (fun i => l.getD ((i + b) % l.length) 0) ++ [l.getD ((k + b) % l.length) 0] := by
  rw [List.range_succ, List.map_append]; rfl
set_option maxRecDepth 8000 in
set_option maxHeartbeats 4000000 in
theorem turned_any (D : Option Addr) (q e b : Nat) (st : List Int) (w : World) (hS : SlE intE 1 w D q st) (hq : q ≤ 1000) (hb : b ≤ 1000) :
    Calls Try.prog 41 #[.slice D q e, .int .i64 (b : Nat)] w fun en w' => ∃ A' c', en = .returned (.slice A' q c') ∧ w'.ownsRow w.heap.size 3 1 (.slice A' q c') q ((rotL b st).flatMap intE) ∧ Below w.heap.size w w' := by
  refine calls_cps ?_
  intro R hR
  have Hq := Lib.hid hS.1
  have HS := Lib.hid hS
  clear hS
  go_enter Try.func41, Try.ntmps41
  go_wp2_with fail
  go_loopw [5, 6] (fun s5 s6 wr => ∃ (k : Nat) (A' : Option Addr) (c' : Nat), k ≤ q ∧ s6 = .int .i64 k ∧ s5 = .slice A' k c' ∧ wr.ownsRow w.heap.size 3 1 (.slice A' k c') k (((List.range k).map (fun i => st.getD ((i + b) % st.length) 0)).flatMap intE) ∧ Below w.heap.size w wr) (fun _ i _ => q - (intOf i).toNat)
  case atStart => exact ⟨0, _, _, Nat.zero_le _, rfl, rfl, own_newAt w #[] 3 1 0 w.heap.size rfl (Nat.le_refl _) (by unfold maxLen; omega) rfl, below_new _ _⟩
  case round =>
    obtain ⟨k, A', c', hk, rfl, rfl, ho, hbw⟩ := hrel
    obtain ⟨wo, rfl⟩ : ∃ wo : World, wo = wr := ⟨_, rfl⟩
    have hSo := HS.out.below hbw
    have HO := Lib.hid ho
    have HB := Lib.hid hbw
    clear ho hbw
    by_cases hlt : k < q
    · have hmod : (k + b) % q < q := Nat.mod_lt _ (by omega)
      have hmodI : ((k : Int) + b) % (q : Int) < (q : Int) := by have : (((k + b) % q : Nat) : Int) = ((k : Int) + b) % (q : Int) := by simp
                                                                 omega
      have hmod0 : 0 ≤ ((k : Int) + b) % (q : Int) := Int.emod_nonneg _ (by omega)
      obtain ⟨bk, o, x, rfl, hbl, hs, s0⟩ := hSo.at1 hmod
      have Hs := Lib.hid (show st.getD ((k + b) % st.length) 0 = x from by rw [← Hq.out]; exact getD_some hs)
      have i1 : (k : Int) < (q : Int) := by omega
      have hz := HB.out.size
      clear hs
      go_wp2_with (at_builtin; refine wpList_app rfl (.tmp 14) (.tmp 24) _ rfl elemInt w.heap.size _ _ _ rfl (HO.out.kept (World.grownBy_alloc wo _ none) (by cases (Value.slice A' k c').ownBlock <;> simp)) _ _ _ _ rfl (Sl.new _ _ _ 1 1 rfl) (by simp [Value.oneCell']) (by unfold maxLen; omega) (by omega) (by simp <;> omega) ?_; intro A4 c4 w4 ho4 hg4 _; have HB4 := Lib.hid (below_own (HB.out.alloc HB.out.size _) (HO.out.kept (World.grownBy_alloc wo _ none) (by cases (Value.slice A' k c').ownBlock <;> simp)) (by simp) (by simp <;> omega) hg4); have HO4 := Lib.hid ho4; clear ho4 hg4)
      exact ⟨⟨k + 1, A4, c4, by omega, by go_num, rfl, by rw [rot_snoc, Hs.out, List.flatMap_append]; exact HO4.out, HB4.out⟩, by simp [intOf]; omega⟩
    · obtain rfl : k = q := by omega
      have Hf := Lib.hid (hR.out (.returned (.slice A' k c')) wo ⟨A', c', rfl, by have := HO.out; unfold rotL tabL; rw [← Hq.out]; rw [← Hq.out] at this; exact this, HB.out⟩)
      clear hR
      go_wp2
      exact Hf.out
end Go.Proofs.Ytgmphiklkllnlaa
