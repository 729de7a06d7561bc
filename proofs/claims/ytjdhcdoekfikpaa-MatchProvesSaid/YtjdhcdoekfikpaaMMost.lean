/-
  The contract of match.Most: how many rows can have columns; condition: the table reads.
-/
import Derived.Test.YtjdhcdoekfikpaaMAllow
namespace Go.Proofs.Ytjdhcdoekfikpaa
open Go.RowKit

def numL (n : Nat) : List Int := (List.range n).map fun (i : Nat) => (i : Int)
theorem numL_len (n : Nat) : (numL n).length = n := by simp [numL]
theorem numL_succ (n : Nat) : numL (n + 1) = numL n ++ [(n : Int)] := by simp [numL, List.range_succ]
theorem slE_of_block {W : World} {g n : Nat} {e : TypeId} {l : List Int} (h : W.heap[g]? = some (.cells (l.map (Value.int .i64)).toArray e (0, 0))) (hn : n = l.length) : SlE intE 1 W (some ⟨g, 0, none⟩) n l := by
  refine ⟨hn, by rw [flat_length intE_len]; omega, fun _ => ⟨g, 0, rfl, (Array.getElem?_eq_some_iff.1 h).1, fun j u hu => ?_⟩⟩
  rw [Nat.zero_add, cell_of_row _ _ _ _ _ (0, 0) h]
  rw [flat_int] at hu
  simpa using hu
theorem range_lt (n : Nat) : ∀ r ∈ List.range n, r < n := fun _r hr => List.mem_range.1 hr
set_option maxRecDepth 100000 in
set_option maxHeartbeats 2000000 in
theorem most_no (A : Option Addr) (n c : Nat) (T : List (List Int)) (w : World) (hT : SlR w A n T) (hn : n ≤ 9223372036854775807) (hrow : ∀ r ∈ T, r.length ≤ 9223372036854775807) (ht : tabB T = false) :
    Calls Try.prog 34 #[.slice A n c] w fun e w' => e = .returned (.tuple #[.int .i64 0, .int .i64 1]) ∧ Below w.heap.size w w' := by
  refine calls_cps ?_
  intro R hR
  go_enter Try.func34, Try.ntmps34
  go_wp2_with (go_at_call 36; refine (check_any _ _ _ T _ hT hn hrow).mono ?_; rw [ht]; rintro e w1 ⟨rfl, rfl⟩)
  exact hR.out _ _ ⟨rfl, Below.refl _ _⟩
set_option maxRecDepth 100000 in
set_option maxHeartbeats 2000000 in
theorem most_yes (A : Option Addr) (n c m : Nat) (T : List (List Int)) (w : World) (hT : SlR w A n T) (hok : TOk T m) :
    Calls Try.prog 34 #[.slice A n c] w fun e w' => e = .returned (.tuple #[.int .i64 (kuhn (gT T) m (List.range n) : Int), .int .i64 0]) ∧ Below w.heap.size w w' := by
  refine calls_cps ?_
  intro R hR
  have hn64 : n ≤ 64 := by rw [hT.1]; exact Nat.le_trans hok.nm hok.m64
  have hrow : ∀ r ∈ T, r.length ≤ 9223372036854775807 := fun r hr => by rw [hok.rect r hr]; have := hok.m64; omega
  have ht : tabB T = true := tabB_iff.2 (by rw [hok.wid]; exact hok)
  have hm1 : 1 ≤ m := Nat.le_trans hok.n1 hok.nm
  have hm64 := hok.m64
  obtain ⟨K, hK⟩ : ∃ K, kuhn (gT T) m (List.range n) = K := ⟨_, rfl⟩
  have HK := Lib.hid hK
  have HT := Lib.hid hT
  have Hok := Lib.hid hok
  have Hrow := Lib.hid hrow
  have Ht := Lib.hid ht
  clear hK hT hok hrow ht
  go_enter Try.func34, Try.ntmps34
  go_wp2_with fail
  refine (check_any _ _ _ T _ HT.out (by omega) Hrow.out).mono ?_
  rw [if_pos Ht.out]
  rintro e w0 ⟨rfl, rfl⟩
  go_wp2_with fail
  refine (allowed_any _ _ _ m T _ HT.out Hok.out).mono ?_
  rintro e w1 ⟨g, rfl, hbx, hg, hb1⟩
  go_wp2_with fail
  refine (numbers_any n (by omega) _).mono ?_
  rintro e w2 ⟨g2, rfl, hg2, hblk, hb2⟩
  have hbx2 := (hb2.block g (Array.getElem?_eq_some_iff.1 hbx).1).trans hbx
  have hT2 := (HT.out.below hb1).below hb2
  have hf2 := hb1.trans (hb2.mono hb1.size)
  clear hb1 hb2 hbx hg hg2
  go_wp2_with fail
  refine (matched_any n m n _ _ (gT T) Enters65 w2 (allowed_may w2 g n c m _ T hT2 Hok.out hbx2) hm1 (by omega) (by omega) _ _ n (List.range n) (by omega) (range_lt n) (slE_of_block hblk (by simp))).mono ?_
  rw [HK.out]
  rintro e w3 ⟨bp, rfl, hb3⟩
  have Hf := Lib.hid (hR.out (.returned (.tuple #[.int .i64 (K : Int), .int .i64 0])) w3 ⟨by rw [HK.out], hf2.trans (hb3.mono hf2.size)⟩)
  clear hb3 hf2 hblk hbx2 hT2
  go_wp2
  exact Hf.out
end Go.Proofs.Ytjdhcdoekfikpaa
