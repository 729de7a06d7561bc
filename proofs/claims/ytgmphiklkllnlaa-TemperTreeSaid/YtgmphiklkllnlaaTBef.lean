/-
  Lists that are lexicographically less, and the contract of the law's before; the condition is that the slices read as lists.
-/
import Derived.Test.YtgmphiklkllnlaaTLk
namespace Go.Proofs.Ytgmphiklkllnlaa
open Go.RowKit
def befB : List Int → List Int → Bool
  | [], _ => false
  | _ :: _, [] => false
  | a :: r, b :: s => if a = b then befB r s else decide (a < b)
theorem lexI_bef : ∀ {a b : List Int}, a.length = b.length → lexI a b → befB b a = false
  | [], [], _, _ => rfl
  | [], _ :: _, h, _ => by simp at h
  | _ :: _, [], h, _ => by simp at h
  | x :: a, y :: b, hl, h => by
    rw [befB]
    rcases h with h | ⟨rfl, h⟩
    · rw [if_neg (by omega), decide_eq_false (by omega)]
    · rw [if_pos rfl]
      exact lexI_bef (by simpa using hl) h
theorem befB_nil (l : List Int) : befB l [] = false := by cases l <;> rfl
theorem drop_get {l : List Int} {k : Nat} {x : Int} (h : l[k]? = some x) : l.drop k = x :: l.drop (k + 1) := by
  obtain ⟨hk, rfl⟩ := List.getElem?_eq_some_iff.1 h
  exact List.drop_eq_getElem_cons hk
set_option maxRecDepth 8000 in
set_option maxHeartbeats 1000000 in
theorem before_any (A B : Option Addr) (n c m d : Nat) (l1 l2 : List Int) (w : World) (h1 : SlE intE 1 w A n l1) (h2 : SlE intE 1 w B m l2) (hn : n ≤ 9223372036854775807) (_hm : m ≤ 9223372036854775807) :
    Calls Try.prog 40 #[.slice A n c, .slice B m d] w fun e w' => e = .returned (.bool (befB l1 l2)) ∧ Below w.heap.size w w' := by
  refine calls_cps ?_
  intro R hR
  have Hl1 := Lib.hid h1.1
  have Hl2 := Lib.hid h2.1
  have HR := Lib.hid (show ∀ b W, befB l1 l2 = b → Qt w W → R (.returned (.bool b)) W from fun b W hb hq => hR.out _ _ ⟨by rw [hb], hq.below⟩)
  clear hR
  go_enter Try.func40, Try.ntmps40
  go_wp2_with fail
  go_loopw [5] (fun i wr => ∃ (k : Nat), k ≤ n ∧ k ≤ m ∧ i = .int .i64 k ∧ Hid (befB l1 l2 = befB (l1.drop k) (l2.drop k)) ∧ Qt w wr) (fun i _ => n - (intOf i).toNat)
  case atStart => exact ⟨0, Nat.zero_le _, Nat.zero_le _, rfl, Lib.hid (by simp), Qt.refl _⟩
  case round =>
    obtain ⟨k, hk, hkm, rfl, Heq, hq⟩ := hrel
    by_cases hlt : k < n
    · by_cases hlm : k < m
      · obtain ⟨b, o, s, rfl, hbl, hs, q0⟩ := (hq.sl h1).at1 hlt
        obtain ⟨b', o', t, rfl, hbl', ht, r0⟩ := (hq.sl h2).at1 hlm
        have hd := Heq.out
        rw [drop_get hs, drop_get ht, befB] at hd
        have Hd := Lib.hid hd
        clear hs ht hd
        have i1 : (k : Int) < (n : Int) := by omega
        have i2 : (k : Int) < (m : Int) := by omega
        by_cases hst : s = t
        · have hb0 : (s != t) = false := by simp [hst]
          have Hst := Lib.hid hst
          clear hst
          go_wp2_with fail
          go_quiet (fail)
          go_wp2
          exact ⟨⟨k + 1, by omega, by omega, by go_num, Lib.hid (by rw [Hd.out, if_pos Hst.out]), hq.step _⟩, by simp [intOf]; omega⟩
        · have hb0 : (s != t) = true := by simp [hst]
          have Hf := Lib.hid (fun W => HR.out (decide (s < t)) W (by rw [Hd.out, if_neg hst]))
          clear hst
          obtain ⟨v, hv⟩ : ∃ v, decide (s < t) = v := ⟨_, rfl⟩
          rw [hv] at Hf
          go_wp2_with fail
          go_quiet (fail)
          go_wp2_with fail
          go_quiet (fail)
          go_wp2
          exact Hf.out _ ((hq.step _).step _)
      · obtain rfl : m = k := by omega
        have i1 : (m : Int) < (n : Int) := by omega
        have Hf := Lib.hid (HR.out false wr (by rw [Heq.out, show l2.drop m = [] from List.drop_eq_nil_of_le (by rw [Hl2.out]; exact Nat.le_refl _), befB_nil]) hq)
        go_wp2_with fail
        exact Hf.out
    · obtain rfl : n = k := by omega
      have Hf := Lib.hid (HR.out false wr (by rw [Heq.out, show l1.drop n = [] from List.drop_eq_nil_of_le (by rw [Hl1.out]; exact Nat.le_refl _)]; rfl) hq)
      go_wp2_with fail
      exact Hf.out
end Go.Proofs.Ytgmphiklkllnlaa
