/-
  The contract of clavecinlaw03.TemperComma: true at every input.
-/
import Derived.Test.YtgmphiklkllnlaaTClo
import Derived.Test.YtgmphiklkllnlaaTLiv
namespace Go.Proofs.Ytgmphiklkllnlaa
open Go.RowKit
/-- Steps whose fifths close exactly if they use the units up. -/
theorem closes_iff {l : List Int} {u : Int} (hl : l.length = 12) (_hu : 1 ≤ u) : closesB l u = decide (l.sum = u) := by
  unfold closesB
  rw [hl]
  by_cases h : l.sum = u
  · subst h
    have h1 : ((12 : Nat) : Int) * l.sum - 12 * l.sum = 0 := by omega
    have h2 : 19 * l.sum - ((12 : Nat) : Int) * l.sum = 7 * l.sum := by omega
    rw [h1, h2, Int.mul_tmod_left]
    simp
  · have h1 : ¬ (((12 : Nat) : Int) * u - 12 * l.sum = 0) := by omega
    rw [decide_eq_false h1, decide_eq_false h]
    rfl
/-- An array of twelve numbers. -/
def arr12 (l : List Int) : Array Value := (l.map (Value.int .i64)).toArray
structure CmI (l : List Int) (k : Nat) (T : Int) : Prop where
  len : l.length = k
  rng : ∀ x ∈ l, -12 ≤ x ∧ x ≤ 12
  sum : l.sum = T
theorem CmI.snoc {l : List Int} {k : Nat} {T v : Int} (h : CmI l k T) (hv : -12 ≤ v ∧ v ≤ 12) : CmI (l ++ [v]) (k + 1) (T + v) :=
  ⟨by simp [h.len], fun x hx => by
    rcases List.mem_append.1 hx with hx | hx
    · exact h.rng x hx
    · simp only [List.mem_singleton] at hx; subst hx; exact hv, by simp [h.sum]⟩
theorem CmI.right {l : List Int} {T u : Int} (h : CmI l 12 T) (hu : 1 ≤ u ∧ u ≤ 24) : rightB l u = true := by
  unfold rightB inB
  rw [h.len]
  simp only [Bool.and_eq_true, decide_eq_true_eq, List.all_eq_true]
  exact ⟨h.rng, by omega, hu⟩
theorem mod4_bd (x : Int) : -3 ≤ Int.tmod x 4 ∧ Int.tmod x 4 ≤ 3 := by
  have h1 := Int.tmod_lt_of_pos x (b := 4) (by omega)
  have h2 := Int.tmod_lt_of_pos (-x) (b := 4) (by omega)
  rw [Int.neg_tmod] at h2
  omega
set_option maxRecDepth 8000 in
set_option maxHeartbeats 4000000 in
theorem comma_any (S : List Int) (hS : S.length = 12) (uz : Int) (cl : Bool) (w : World) :
    Calls Try.prog 9 #[.agg (arr12 S), .int .i64 uz, .bool cl] w fun en w' => en = .returned (.bool true) ∧ Below w.heap.size w w' := by
  refine calls_cps ?_
  intro R hR
  have hal := heap_alloc_new w (.cells (arr12 S) 47)
  have hbw := below_new w (.cells (arr12 S) 47)
  obtain ⟨w1, hw1⟩ : ∃ w1, w.alloc (.cells (arr12 S) 47) = w1 := ⟨_, rfl⟩
  obtain ⟨z, hz⟩ : ∃ z, Int.tmod uz 24 = z := ⟨_, rfl⟩
  have hz1 : -24 < z ∧ z < 24 := by
    have h1 := Int.tmod_lt_of_pos uz (b := 24) (by omega)
    have h2 := Int.tmod_lt_of_pos (-uz) (b := 24) (by omega)
    rw [Int.neg_tmod] at h2
    omega
  obtain ⟨hza, hzb⟩ := hz1
  go_enter Try.func9, Try.ntmps9
  go_wp2_with fail
  obtain ⟨u, hu⟩ : ∃ u, z % 24 + 1 = u := ⟨_, rfl⟩
  rw [hu]
  have hu1 : 1 ≤ u := by omega
  have hu2 : u ≤ 24 := by omega
  rw [hw1] at hal hbw
  have hz1 : w1.heap.size = w.heap.size + 1 := by rw [← hw1]; simp
  have Hal := Lib.hid hal
  have Hbw := Lib.hid hbw
  clear hz hu hza hzb hal hbw hw1
  go_loopw [7, 8, 9] (fun s7 s8 s9 wr => ∃ (k : Nat) (l : List Int) (T : Int) (A' : Option Addr) (c' : Nat), s9 = .int .i64 (k : Nat) ∧ k ≤ 12 ∧ s8 = .int .i64 T ∧ s7 = .slice A' k c' ∧ -(12 * (k : Int)) ≤ T ∧ T ≤ 12 * (k : Int) ∧ Hid (CmI l k T) ∧ wr.ownsRow (w.heap.size + 1) 3 1 (.slice A' k c') k (l.flatMap intE) ∧ Below w1.heap.size w1 wr) (fun _ _ i _ => 12 - (intOf i).toNat)
  case atStart => exact ⟨0, [], 0, _, _, rfl, by omega, rfl, rfl, by omega, by omega, Lib.hid ⟨rfl, by simp, rfl⟩, own_newAt w1 #[] 3 1 0 (w.heap.size + 1) rfl (by omega) (by unfold maxLen; omega) rfl, below_new _ _⟩
  case round =>
    obtain ⟨k, l, T, A', c', rfl, hk, rfl, rfl, hT1, hT2, HC, ho, hb⟩ := hrel
    obtain ⟨wo, rfl⟩ : ∃ wo : World, wo = wr := ⟨_, rfl⟩
    have HO := Lib.hid ho
    have HB := Lib.hid hb
    clear ho hb
    by_cases hlt : k < 12
    · obtain ⟨x, hx⟩ : ∃ x, S[k]? = some x := ⟨_, List.getElem?_eq_getElem (by omega)⟩
      have hbox := (HB.out.block w.heap.size (by omega)).trans Hal.out
      have c0 : wo.cell? ⟨w.heap.size, k, none⟩ = some (.int .i64 x) := by
        rw [cell_of_row _ _ k _ _ (0, 0) hbox]
        simp [arr12, hx]
      have hl12 : (arr12 S).size = 12 := by simp [arr12, hS]
      obtain ⟨y, hy⟩ : ∃ y, Int.tmod x 4 = y := ⟨_, rfl⟩
      have hyb := mod4_bd x
      rw [hy] at hyb
      obtain ⟨hy1, hy2⟩ := hyb
      have i1 : (k : Int) < 12 := by omega
      have i0 : (0 : Int) ≤ (k : Int) := by omega
      have hz := HB.out.size
      clear hx hbox
      by_cases h11 : k = 11
      · subst h11
        go_wp2_with (at_builtin; refine wpList_app rfl (.tmp 47) (.tmp 49) _ rfl elemInt (w.heap.size + 1) _ _ _ rfl (HO.out.kept (World.grownBy_alloc wo _ none) (by cases (Value.slice A' 11 c').ownBlock <;> simp)) _ _ _ _ rfl (Sl.new _ _ _ 1 1 rfl) (by simp [Value.oneCell']) (by unfold maxLen; omega) (by omega) (by simp <;> omega) ?_; intro A4 c4 w4 ho4 hg4 _; have HB4 := Lib.hid (below_own (HB.out.alloc HB.out.size _) (HO.out.kept (World.grownBy_alloc wo _ none) (by cases (Value.slice A' 11 c').ownBlock <;> simp)) (by omega) (by simp <;> omega) hg4); have HO4 := Lib.hid ho4; clear ho4 hg4)
        all_goals exact ⟨⟨_, _, _, ⟨12, rfl, by omega, l ++ [_], T + _, rfl, A4, c4, rfl, by omega, by omega, Lib.hid (HC.out.snoc ⟨by omega, by omega⟩), by rw [List.flatMap_append]; exact HO4.out, hz1 ▸ HB4.out⟩, rfl, rfl, rfl⟩, by simp [intOf] <;> omega⟩
      · have h11i : ¬ (k : Int) = 11 := by omega
        go_wp2_with (at_builtin; refine wpList_app rfl (.tmp 47) (.tmp 49) _ rfl elemInt (w.heap.size + 1) _ _ _ rfl (HO.out.kept (World.grownBy_alloc wo _ none) (by cases (Value.slice A' k c').ownBlock <;> simp)) _ _ _ _ rfl (Sl.new _ _ _ 1 1 rfl) (by simp [Value.oneCell']) (by unfold maxLen; omega) (by omega) (by simp <;> omega) ?_; intro A4 c4 w4 ho4 hg4 _; have HB4 := Lib.hid (below_own (HB.out.alloc HB.out.size _) (HO.out.kept (World.grownBy_alloc wo _ none) (by cases (Value.slice A' k c').ownBlock <;> simp)) (by omega) (by simp <;> omega) hg4); have HO4 := Lib.hid ho4; clear ho4 hg4)
        all_goals exact ⟨⟨_, _, _, ⟨k + 1, rfl, by omega, l ++ [_], T + _, rfl, A4, c4, rfl, by omega, by omega, Lib.hid (HC.out.snoc ⟨by omega, by omega⟩), by rw [List.flatMap_append]; exact HO4.out, hz1 ▸ HB4.out⟩, rfl, rfl, by go_num⟩, by simp [intOf] <;> omega⟩
    · obtain rfl : k = 12 := by omega
      have hcl := closes_any A' 12 c' l u wo (SlE.of_own HO.out HC.out.len.symm) (by omega)
      rw [if_pos (HC.out.right ⟨hu1, hu2⟩), closes_iff HC.out.len hu1, HC.out.sum] at hcl
      have Hcl := Lib.hid hcl
      have HF := Lib.hid (show ∀ W, Below wo.heap.size wo W → R (.returned (.bool true)) W from fun W h => hR.out _ _ ⟨rfl, (Hbw.out.trans (HB.out.mono (by omega))).trans (h.mono (by have := HB.out.size; omega))⟩)
      clear hcl hR HC HO
      by_cases hT : T = u
      · subst hT
        simp only [decide_true] at Hcl
        go_wp2_with (first | (go_at_call 31; refine Hcl.out.mono ?_; rintro e w5 ⟨rfl, rfl⟩) | (go_at_call 19; refine (lives_any _).mono ?_; rintro e w6 ⟨rfl, hb6⟩))
        exact HF.out _ hb6
      · have hTd : decide (T = u) = false := decide_eq_false hT
        rw [hTd] at Hcl
        have hTb : (T == u) = false := by simp [hT]
        go_wp2_with (first | (go_at_call 31; refine Hcl.out.mono ?_; rintro e w5 ⟨rfl, rfl⟩) | (go_at_call 19; refine (lives_any _).mono ?_; rintro e w6 ⟨rfl, hb6⟩))
        exact HF.out _ hb6
end Go.Proofs.Ytgmphiklkllnlaa
