/-
  Plain: the words of a line: a line split at its blanks. Plain: the numbers of a line, and the texts of numbers. house.number; condition: the text is no longer than a line may be. The tables that the library reads, and its functions over texts as the house calls them; conditions: the tables lie below a block, and no text is longer than 2^20 bytes.
-/
import Derived.Test.YtndcijkgaadpgaaGreatDoorMMem
import Derived.Test.YtndcijkgaadpgaaGreatDoorUi
import Derived.Lib.SplitLaws
import Derived.Lib.ItoaNum
import Derived.Lib.Atoi
import Derived.Shelf.Strings.Prefix
import Derived.Shelf.Strconv.Atoi
import Derived.Shelf.Strings.Cut
import Derived.Shelf.Strings.Split
import Derived.Shelf.Strings.Fields
import Derived.Shelf.Strings.OnBuilder
import Derived.Shelf.Small.Wraps
import Derived.Shelf.Slices.Turned
import Derived.Shelf.Strconv.Itoa4
import Derived.Lib.AppendIntMem
namespace Go.Proofs.YtndcijkgaadpgaaGreatDoor
section
/-- A line split at its blanks. -/
def spl : List UInt8 → List (List UInt8)
  | [] => [[]]
  | c :: r => if c = 32 then [] :: spl r else ((c :: (spl r).headD []) :: (spl r).tail)
theorem spl_ne : ∀ l, spl l ≠ []
  | [] => by decide
  | c :: r => by unfold spl; split <;> simp
theorem spl_pos (l : List UInt8) : 1 ≤ (spl l).length := List.length_pos_iff.2 (spl_ne l)
/-- A piece without blanks before a line. -/
theorem spl_word : ∀ (w l : List UInt8), (∀ c ∈ w, c ≠ 32) → spl (w ++ 32 :: l) = w :: spl l
  | [], l, _ => by
    rw [List.nil_append]
    unfold spl
    rw [if_pos rfl]
    cases l <;> rfl
  | c :: w, l, h => by
    have ih := spl_word w l fun x hx => h x (List.mem_cons_of_mem _ hx)
    rw [List.cons_append, spl, if_neg (h c List.mem_cons_self), ih]
    rfl
theorem spl_last : ∀ (w : List UInt8), (∀ c ∈ w, c ≠ 32) → spl w = [w]
  | [], _ => rfl
  | c :: w, h => by
    rw [spl, if_neg (h c List.mem_cons_self), spl_last w fun x hx => h x (List.mem_cons_of_mem _ hx)]
    rfl
theorem index_one (c : UInt8) (w l : List UInt8) (h : ∀ x ∈ w, x ≠ c) : Lib.index (w ++ c :: l) [c] = (w.length : Int) := by
  induction w with
  | nil => rw [List.nil_append, Lib.index]; simp [List.isPrefixOf]
  | cons b w ih =>
    have hb := h b List.mem_cons_self
    have hp : ([c] : List UInt8).isPrefixOf (b :: (w ++ c :: l)) = false := by simp [List.isPrefixOf, Ne.symm hb]
    rw [List.cons_append, Lib.index, hp, ih fun x hx => h x (List.mem_cons_of_mem _ hx)]
    have : ¬ ((w.length : Int) == -1) = true := fun e => by have := beq_iff_eq.1 e; omega
    simp
theorem index_no (c : UInt8) (w : List UInt8) (h : ∀ x ∈ w, x ≠ c) : Lib.index w [c] = -1 := by
  induction w with
  | nil => simp [Lib.index]
  | cons b w ih =>
    have hb := h b List.mem_cons_self
    have hp : ([c] : List UInt8).isPrefixOf (b :: w) = false := by simp [List.isPrefixOf, Ne.symm hb]
    rw [Lib.index, hp, ih fun x hx => h x (List.mem_cons_of_mem _ hx)]
    simp
/-- The first byte c parts a list. -/
theorem at_first (c : UInt8) : ∀ (l : List UInt8), (∀ x ∈ l, x ≠ c) ∨ ∃ w r, l = w ++ c :: r ∧ ∀ x ∈ w, x ≠ c
  | [] => .inl (by simp)
  | b :: l => by
    by_cases hb : b = c
    · subst hb
      exact .inr ⟨[], l, rfl, by simp⟩
    · rcases at_first c l with h | ⟨w, r, rfl, h⟩
      · exact .inl fun x hx => by
          rcases List.mem_cons.1 hx with rfl | hx
          · exact hb
          · exact h x hx
      · exact .inr ⟨b :: w, r, rfl, fun x hx => by
          rcases List.mem_cons.1 hx with rfl | hx
          · exact hb
          · exact h x hx⟩
theorem splitK_spl : ∀ (n : Nat) (l : List UInt8), l.length ≤ n → Lib.splitK [32] 0 (l.count 32) l = spl l := by
  intro n
  induction n with
  | zero =>
    intro l h
    have : l = [] := List.eq_nil_of_length_eq_zero (by omega)
    subst this
    rfl
  | succ n ih =>
    intro l h
    rcases at_first 32 l with hn | ⟨w, r, rfl, hw⟩
    · have h0 : l.count 32 = 0 := List.count_eq_zero.2 fun hm => hn _ hm rfl
      rw [h0, spl_last l hn]
      rfl
    · have hc : (w ++ 32 :: r).count 32 = r.count 32 + 1 := by
        rw [List.count_append, List.count_cons_self, List.count_eq_zero.2 (fun hm => hw _ hm rfl)]
        omega
      have hi := index_one 32 w r hw
      rw [hc, Lib.splitK, hi, if_neg (fun e => by have := beq_iff_eq.1 e; omega), spl_word w r hw]
      have h1 : ((w.length : Int)).toNat = w.length := by omega
      rw [h1, Nat.add_zero, List.take_left]
      have h2 : (w ++ 32 :: r).drop (w.length + [(32 : UInt8)].length) = r := by
        rw [← List.drop_drop, List.drop_left]
        rfl
      rw [h2, ih r (by rw [List.length_append, List.length_cons] at h; omega)]
theorem split_spl (l : List UInt8) : Lib.split l [32] = spl l := by
  unfold Lib.split
  rw [Lib.count_one]
  exact splitK_spl l.length l (Nat.le_refl _)
theorem spl_sub {l w : List UInt8} (h : w ∈ spl l) : w.length ≤ l.length ∧ ∀ c ∈ w, c ∈ l ∧ c ≠ 32 := by
  induction l generalizing w with
  | nil =>
    simp [spl] at h
    subst h
    simp
  | cons b l ih =>
    unfold spl at h
    split at h
    · rcases List.mem_cons.1 h with rfl | h
      · simp
      · obtain ⟨h1, h2⟩ := ih h
        exact ⟨by rw [List.length_cons]; omega, fun c hc => ⟨List.mem_cons_of_mem _ (h2 c hc).1, (h2 c hc).2⟩⟩
    · rename_i hb
      rcases List.mem_cons.1 h with rfl | h
      · have hm : (spl l).headD [] ∈ spl l := by
          have := spl_ne l
          cases hs : spl l with
          | nil => exact absurd hs this
          | cons a r => simp
        obtain ⟨h1, h2⟩ := ih hm
        refine ⟨by rw [List.length_cons, List.length_cons]; omega, fun c hc => ?_⟩
        rcases List.mem_cons.1 hc with rfl | hc
        · exact ⟨List.mem_cons_self, hb⟩
        · exact ⟨List.mem_cons_of_mem _ (h2 c hc).1, (h2 c hc).2⟩
      · obtain ⟨h1, h2⟩ := ih (List.mem_of_mem_tail h)
        exact ⟨by rw [List.length_cons]; omega, fun c hc => ⟨List.mem_cons_of_mem _ (h2 c hc).1, (h2 c hc).2⟩⟩
/-- The bytes before the first newline. -/
def fstL (l : List UInt8) : List UInt8 := l.takeWhile fun c => decide (c ≠ 10)
theorem fst_no {l : List UInt8} (h : ∀ c ∈ l, c ≠ 10) : fstL l = l := by
  unfold fstL
  induction l with
  | nil => rfl
  | cons a l ih =>
    rw [List.takeWhile_cons, if_pos (by simpa using h a List.mem_cons_self), ih fun c hc => h c (List.mem_cons_of_mem _ hc)]
theorem fst_at {w r : List UInt8} (h : ∀ c ∈ w, c ≠ 10) : fstL (w ++ 10 :: r) = w := by
  unfold fstL
  induction w with
  | nil => simp
  | cons a l ih =>
    rw [List.cons_append, List.takeWhile_cons, if_pos (by simpa using h a List.mem_cons_self), ih fun c hc => h c (List.mem_cons_of_mem _ hc)]
theorem cut_fst (l : List UInt8) : (Lib.cut l [10]).1 = fstL l := by
  rcases at_first 10 l with hn | ⟨w, r, rfl, hw⟩
  · unfold Lib.cut
    rw [index_no 10 l hn, if_neg (by decide), fst_no hn]
  · unfold Lib.cut
    rw [index_one 10 w r hw, if_pos (by omega), fst_at hw]
    have h1 : ((w.length : Int)).toNat = w.length := by omega
    show (w ++ 10 :: r).take (w.length : Int).toNat = w
    rw [h1, List.take_left]
theorem fst_len (l : List UInt8) : (fstL l).length ≤ l.length := by
  rcases at_first 10 l with hn | ⟨w, r, rfl, hw⟩
  · rw [fst_no hn]; exact Nat.le_refl _
  · rw [fst_at hw, List.length_append]; omega
theorem fst_nl {l : List UInt8} : ∀ c ∈ fstL l, c ≠ 10 := by
  rcases at_first 10 l with hn | ⟨w, r, rfl, hw⟩
  · rw [fst_no hn]; exact hn
  · rw [fst_at hw]; exact hw
theorem fst_fst (l : List UInt8) : fstL (fstL l) = fstL l := fst_no fst_nl
end
section
def digC (c : UInt8) : Bool := decide (48 ≤ c.toNat) && decide (c.toNat ≤ 57)
/-- The bytes behind a minus. -/
def magL (l : List UInt8) : List UInt8 := if l.head? = some 45 then l.tail else l
/-- The number of a word. -/
def numL (l : List UInt8) : Option Int :=
  if (magL l).all digC = true ∧ 1 ≤ (magL l).length ∧ (magL l).length ≤ 12 ∧ ((magL l).head? = some 48 → l = [48]) then Lib.atoi l else none
theorem decFrom_app : ∀ (a b : List UInt8) (acc n : Nat), Lib.decFrom acc a = some n → Lib.decFrom acc (a ++ b) = Lib.decFrom n b
  | [], b, acc, n, h => by
    simp only [Lib.decFrom, Option.some.injEq] at h
    subst h
    rfl
  | c :: a, b, acc, n, h => by
    rw [List.cons_append]
    have h : (match Lib.digitVal c with | some d => Lib.decFrom (acc * 10 + d) a | none => none) = some n := h
    show (match Lib.digitVal c with | some d => Lib.decFrom (acc * 10 + d) (a ++ b) | none => none) = Lib.decFrom n b
    cases hd : Lib.digitVal c with
    | none => rw [hd] at h; cases h
    | some d =>
      rw [hd] at h
      exact decFrom_app a b _ n h
theorem dig_toNat {k : Nat} (h : k < 10) : (UInt8.ofNat (48 + k)).toNat = 48 + k := by
  rw [UInt8.toNat_ofNat']
  omega
theorem digitVal_of {k : Nat} (h : k < 10) : Lib.digitVal (UInt8.ofNat (48 + k)) = some k := by
  unfold Lib.digitVal
  rw [dig_toNat h, if_pos (by omega)]
  congr 1
  omega
theorem dec_digits (u : Nat) : Lib.decFrom 0 (Lib.decDigits u) = some u := by
  induction u using Nat.strongRecOn with
  | _ u ih =>
    rw [Lib.decDigits]
    split
    · rename_i h
      unfold Lib.decFrom
      rw [digitVal_of h]
      simp [Lib.decFrom]
    · rename_i h
      rw [decFrom_app _ _ 0 (u / 10) (ih (u / 10) (by omega))]
      unfold Lib.decFrom
      rw [digitVal_of (by omega)]
      simp only [Lib.decFrom, Option.some.injEq]
      omega
theorem digits_all (u : Nat) : (Lib.decDigits u).all digC = true := by
  induction u using Nat.strongRecOn with
  | _ u ih =>
    rw [Lib.decDigits]
    split
    · rename_i h
      simp only [List.all_cons, List.all_nil, Bool.and_true, digC, dig_toNat h, Bool.and_eq_true, decide_eq_true_eq]
      omega
    · rename_i h
      rw [List.all_append, ih (u / 10) (by omega)]
      simp only [List.all_cons, List.all_nil, Bool.and_true, Bool.true_and, digC, dig_toNat (show u % 10 < 10 by omega), Bool.and_eq_true, decide_eq_true_eq]
      omega
theorem digits_head (u : Nat) : ∃ c r, Lib.decDigits u = c :: r ∧ digC c = true ∧ (c = 48 → u = 0) := by
  induction u using Nat.strongRecOn with
  | _ u ih =>
    rw [Lib.decDigits]
    split
    · rename_i h
      refine ⟨_, [], rfl, ?_, fun hc => ?_⟩
      · simp only [digC, dig_toNat h, Bool.and_eq_true, decide_eq_true_eq]
        omega
      · have := dig_toNat h
        rw [hc] at this
        have h48 : (48 : UInt8).toNat = 48 := by decide
        omega
    · rename_i h
      obtain ⟨c, r, e, hc, h0⟩ := ih (u / 10) (by omega)
      refine ⟨c, r ++ [UInt8.ofNat (48 + u % 10)], by rw [e]; rfl, hc, fun hc => ?_⟩
      have := h0 hc
      omega
theorem digits_len (u : Nat) (h : u < 1000000000000) : 1 ≤ (Lib.decDigits u).length ∧ (Lib.decDigits u).length ≤ 12 := by
  rw [Lib.decDigits_length]
  refine ⟨Lib.nDigits_pos u, ?_⟩
  rcases Nat.lt_or_ge 12 (Lib.nDigits u) with hc | hc
  · exfalso
    have key : ∀ (k u : Nat), k < Lib.nDigits u → 10 ^ k ≤ u ∨ k = 0 := by
      intro k
      induction k with
      | zero => intro u _; exact .inr rfl
      | succ k ih =>
        intro u hu
        by_cases h9 : u < 10
        · rw [Lib.nDigits_small h9] at hu; omega
        · rw [Lib.nDigits_big h9] at hu
          rcases ih (u / 10) (by omega) with h1 | h1
          · left; rw [Nat.pow_succ]; omega
          · subst h1; left; omega
    rcases key 12 u hc with h1 | h1
    · omega
    · cases h1
  · exact hc
/-- The text of a number is that number. -/
theorem num_itoa (u : Nat) (h : u < 1000000000000) : numL (Lib.itoa (u : Int)) = some (u : Int) := by
  have e : Lib.itoa (u : Int) = Lib.decDigits u := by
    unfold Lib.itoa
    rw [if_neg (by omega)]
    rfl
  obtain ⟨c, r, hd, hc, h0⟩ := digits_head u
  have hc' : c ≠ 45 := by
    intro he
    subst he
    exact absurd hc (by decide)
  have hc2 : c ≠ 43 := by
    intro he
    subst he
    exact absurd hc (by decide)
  have hm : magL (Lib.decDigits u) = Lib.decDigits u := by
    unfold magL
    rw [hd, if_neg (by simp [hc'])]
  obtain ⟨l1, l2⟩ := digits_len u h
  rw [e]
  unfold numL
  rw [hm, if_pos ⟨digits_all u, l1, l2, fun hh => by
    rw [hd] at hh
    have := h0 (by simpa using hh)
    subst this
    decide +kernel⟩]
  have hdec := dec_digits u
  rw [hd] at hdec ⊢
  show (if (c == 45) = true then (Lib.decNat r).map (fun (m : Nat) => -(m : Int)) else if (c == 43) = true then (Lib.decNat r).map (fun (m : Nat) => (m : Int)) else (Lib.decNat (c :: r)).map (fun (m : Nat) => (m : Int))) = _
  rw [if_neg (by simp [hc']), if_neg (by simp [hc2])]
  unfold Lib.decNat
  rw [if_neg (by simp), hdec]
  rfl
theorem itoa_nat (u : Nat) : Lib.itoa (u : Int) = Lib.decDigits u := by
  unfold Lib.itoa
  rw [if_neg (by omega)]
  rfl
/-- No blank, no newline in the text of a number. -/
theorem itoa_plain (n : Int) : ∀ c ∈ Lib.itoa n, c ≠ 32 ∧ c ≠ 10 := by
  have hd : ∀ (u : Nat), ∀ c ∈ Lib.decDigits u, c ≠ 32 ∧ c ≠ 10 := by
    intro u c hc
    have := List.all_eq_true.1 (digits_all u) c hc
    constructor
    · intro e; subst e; exact absurd this (by decide)
    · intro e; subst e; exact absurd this (by decide)
  unfold Lib.itoa
  split
  · intro c hc
    rcases List.mem_cons.1 hc with rfl | hc
    · exact ⟨by decide, by decide⟩
    · exact hd _ c hc
  · exact hd _
end
section
section
open Go.RowKit Go.Shelf
theorem mag_trim (l : List UInt8) : Lib.trimPrefix l [45] = magL l := by
  unfold Lib.trimPrefix Lib.hasPrefix magL
  cases l with
  | nil => rfl
  | cons c r =>
    by_cases h : c = 45
    · subst h
      simp [List.isPrefixOf]
    · have : ¬ (45 : UInt8) = c := fun e => h e.symm
      simp [List.isPrefixOf, h, this]
theorem trim_any (s p : ByteArray) (w : World) : Calls Tryz.prog 178 #[.string s, .string p] w fun e w' => e = .returned (.string ⟨(Lib.trimPrefix s.data.toList p.data.toList).toArray⟩) ∧ w = w' :=
  (Any.strings_TrimPrefix trimSLays s p w).mono fun _ _ h => ⟨h.1, h.2.symm⟩
theorem atoi_any (s : ByteArray) (n : Int) (hl : s.size ≤ 18) (h : Lib.atoi s.data.toList = some n) (w : World) : Calls Tryz.prog 179 #[.string s] w fun e w' => e = .returned (.tuple #[.int .i64 n, .nilIface]) ∧ Below w.heap.size w w' :=
  (Any.strconv_Atoi { atoiSLays with } s n hl h w).mono fun _ _ ⟨a, t, b⟩ => ⟨a, by subst b; exact ⟨rfl, rfl, rfl, by rw [Lib.bytesWorld_size]; omega, fun j hj => Lib.bytesWorld_at_old w _ _ j hj⟩⟩
theorem atoi_some {l : List UInt8} (h : (magL l).all digC = true) (h1 : 1 ≤ (magL l).length) : ∃ v, Lib.atoi l = some v := by
  have key : ∀ (m : List UInt8) (acc : Nat), m.all digC = true → ∃ v, Lib.decFrom acc m = some v := by
    intro m
    induction m with
    | nil => intro acc _; exact ⟨acc, rfl⟩
    | cons c r ih =>
      intro acc h
      rw [List.all_cons, Bool.and_eq_true] at h
      obtain ⟨k, hk⟩ : ∃ k, Lib.digitVal c = some k := by
        unfold Lib.digitVal
        have := h.1
        unfold digC at this
        simp only [Bool.and_eq_true, decide_eq_true_eq] at this
        rw [if_pos (by omega)]
        exact ⟨_, rfl⟩
      obtain ⟨v, hv⟩ := ih (acc * 10 + k) h.2
      refine ⟨v, ?_⟩
      show (match Lib.digitVal c with | some d => Lib.decFrom (acc * 10 + d) r | none => none) = some v
      rw [hk]
      exact hv
  have key2 : ∀ (m : List UInt8), m.all digC = true → 1 ≤ m.length → ∃ v, Lib.decNat m = some v := by
    intro m h1 h2
    unfold Lib.decNat
    cases m with
    | nil => simp at h2
    | cons c r =>
      simp only [List.isEmpty_cons, Bool.false_eq_true, if_false]
      exact key _ _ h1
  cases l with
  | nil => simp [magL] at h1
  | cons c r =>
    show ∃ v, (if (c == 45) = true then (Lib.decNat r).map (fun (m : Nat) => -(m : Int)) else if (c == 43) = true then (Lib.decNat r).map (fun (m : Nat) => (m : Int)) else (Lib.decNat (c :: r)).map (fun (m : Nat) => (m : Int))) = some v
    unfold magL at h h1
    by_cases e : c = 45
    · subst e
      simp only [List.head?_cons, List.tail_cons, if_true] at h h1
      obtain ⟨v, hv⟩ := key2 r h h1
      rw [if_pos (by decide), hv]
      exact ⟨_, rfl⟩
    · rw [if_neg (by simp [e])] at h h1 ⊢
      by_cases e2 : c = 43
      · subst e2
        rw [List.all_cons] at h
        exact absurd h (by simp [digC])
      · rw [if_neg (by simp [e2])]
        obtain ⟨v, hv⟩ := key2 (c :: r) h h1
        rw [hv]
        exact ⟨_, rfl⟩
set_option maxRecDepth 8000 in
set_option maxHeartbeats 4000000 in
theorem number_any (s : ByteArray) (w : World) (hs : s.size ≤ 1000000) : Calls Tryz.prog 116 #[.string s] w fun e w' => e = .returned (.tuple #[.int .i64 ((numL s.data.toList).getD 0), .bool (numL s.data.toList).isSome]) ∧ Below w.heap.size w w' := by
  refine calls_cps ?_
  intro R hR
  have HR := Lib.hid (show ∀ o w', numL s.data.toList = o → Below w.heap.size w w' → R (.returned (.tuple #[.int .i64 (o.getD 0), .bool o.isSome])) w' from fun o w' ho hb => hR.out _ _ ⟨by rw [ho], hb⟩)
  clear hR
  obtain ⟨M, hM⟩ : ∃ M : ByteArray, (⟨(magL s.data.toList).toArray⟩ : ByteArray) = M := ⟨_, rfl⟩
  have hML : M.data.toList = magL s.data.toList := by rw [← hM]
  have hMs : M.size ≤ s.size := by
    have h1 : M.size = (magL s.data.toList).length := by rw [← hML, Array.length_toList]; rfl
    have h2 : s.size = s.data.toList.length := by rw [Array.length_toList]; rfl
    rw [h1, h2]
    unfold magL
    split
    · rw [List.length_tail]; omega
    · exact Nat.le_refl _
  have HT := Lib.hid (trim_any s ⟨#[45]⟩ w)
  rw [mag_trim, hM] at HT
  have HML := Lib.hid hML
  clear hM hML
  go_enter Tryz.func116, Tryz.ntmps116
  go_wp2_with (go_at_call 178; (with_reducible refine HT.out.mono ?_); rintro e w' ⟨rfl, rfl⟩)
  go_loopw [5, 12] (fun s5 s12 wr => ∃ k : Nat, k ≤ M.size ∧ s12 = .int .i64 (k : Int) ∧ (∃ x, s5 = x) ∧ Hid ((magL s.data.toList).all digC = (M.data.toList.drop k).all digC) ∧ w = wr) (fun _ s12 _ => M.size - (intOf s12).toNat)
  case atStart => exact ⟨0, Nat.zero_le _, rfl, ⟨_, rfl⟩, Lib.hid (by rw [List.drop_zero, HML.out]), rfl⟩
  case round =>
    obtain ⟨k, hk, rfl, ⟨x5, rfl⟩, Hn, rfl⟩ := hrel
    by_cases hlt : k < M.size
    · have hd := drop_byte hlt
      have hb : (M[k].toNat : Int) < 256 := by have := M[k].toNat_lt; omega
      have HD := Lib.hid hd
      have i3 : (k : Int) < (M.size : Int) := by omega
      clear hd
      by_cases b1 : 48 ≤ M[k].toNat ∧ M[k].toNat ≤ 57
      · have j3 : ¬ (M[k].toNat : Int) < 48 := by omega
        have j4 : ¬ (57 : Int) < (M[k].toNat : Int) := by omega
        have hn := Hn.out
        rw [HD.out, List.all_cons, show digC M[k] = true by unfold digC; rw [decide_eq_true b1.1, decide_eq_true b1.2]; rfl, Bool.true_and] at hn
        have HN2 := Lib.hid hn
        clear hn Hn
        go_wp2_with fail
        exact ⟨⟨k + 1, hlt, by go_num, ⟨_, rfl⟩, HN2, by trivial⟩, by simp [intOf] <;> omega⟩
      · have hn := Hn.out
        rw [HD.out, List.all_cons, show digC M[k] = false by
          unfold digC
          rcases Nat.lt_or_ge M[k].toNat 48 with h | h
          · rw [decide_eq_false (show ¬ 48 ≤ M[k].toNat by omega)]; rfl
          · rw [decide_eq_false (show ¬ M[k].toNat ≤ 57 by omega), Bool.and_false], Bool.false_and] at hn
        have hf := HR.out none w (by unfold numL; rw [if_neg (fun h => by rw [hn] at h; exact absurd h.1 (by decide))]) (Below.refl _ _)
        have HF := Lib.hid hf
        clear hn Hn HR hf
        rcases Nat.lt_or_ge M[k].toNat 48 with h | h
        · have j3 : (M[k].toNat : Int) < 48 := by omega
          go_wp2
          all_goals exact HF.out
        · have j3 : ¬ (M[k].toNat : Int) < 48 := by omega
          have j4 : (57 : Int) < (M[k].toNat : Int) := by omega
          go_wp2
          all_goals exact HF.out
    · have hkn : k = M.size := by omega
      subst hkn
      have i3 : ¬ (M.size : Int) < (M.size : Int) := by omega
      have hall : (magL s.data.toList).all digC = true := by rw [Hn.out, drop_all]; rfl
      have hlen : (magL s.data.toList).length = M.size := by rw [← HML.out, Array.length_toList]; rfl
      have Hall := Lib.hid hall
      have Hlen := Lib.hid hlen
      clear Hn hall hlen
      by_cases l1 : M.size < 1
      · have hf := HR.out none w (by unfold numL; rw [if_neg (fun h => by have := h.2.1; have := Hlen.out; omega)]) (Below.refl _ _)
        have HF := Lib.hid hf
        have i4 : (M.size : Int) < 1 := by omega
        clear HR hf
        go_wp2
        all_goals exact HF.out
      by_cases l2 : 12 < M.size
      · have hf := HR.out none w (by unfold numL; rw [if_neg (fun h => by have := h.2.2.1; have := Hlen.out; omega)]) (Below.refl _ _)
        have HF := Lib.hid hf
        have i4 : ¬ (M.size : Int) < 1 := by omega
        have i5 : (12 : Int) < (M.size : Int) := by omega
        clear HR hf
        go_wp2
        all_goals exact HF.out
      have i4 : ¬ (M.size : Int) < 1 := by omega
      have i5 : ¬ (12 : Int) < (M.size : Int) := by omega
      have i6 : (0 : Int) < (M.size : Int) := by omega
      have h0 : (M[0]'(by omega)).toNat < 256 := (M[0]'(by omega)).toNat_lt
      have hhd : (magL s.data.toList).head? = some (M[0]'(by omega)) := by
        rw [← HML.out, ← List.drop_zero (l := M.data.toList), drop_byte (show 0 < M.size by omega)]
        rfl
      have Hhd := Lib.hid hhd
      obtain ⟨b0, hb0⟩ : ∃ b0, (M[0]'(by omega)) = b0 := ⟨_, rfl⟩
      rw [hb0] at Hhd h0
      clear hhd
      by_cases z1 : b0 = 48
      · subst z1
        have hsl : s.toList = s.data.toList := Lib.toList_data s
        by_cases z2 : s.data.toList = [48]
        · have q1 : (s.toList == [48]) = true := by rw [hsl, z2]; rfl
          obtain ⟨v, hv⟩ := atoi_some Hall.out (by rw [Hlen.out]; omega)
          have hf := fun w' => HR.out (some v) w' (by unfold numL; rw [if_pos ⟨Hall.out, by rw [Hlen.out]; omega, by rw [Hlen.out]; omega, fun _ => z2⟩]; exact hv)
          have HF := Lib.hid hf
          have hs18 : s.size ≤ 18 := by
            have : s.size = s.data.toList.length := by rw [Array.length_toList]; rfl
            rw [this, z2]
            decide
          have HA := Lib.hid (fun w => atoi_any s v hs18 hv w)
          clear HR hf hsl
          go_wp2_with (go_at_call 179; (with_reducible refine (HA.out _).mono ?_); rintro e w2 ⟨rfl, hb2⟩)
          exact HF.out _ hb2
        · have q1 : (s.toList == [48]) = false := by rw [hsl, beq_eq_false_iff_ne]; exact z2
          have hf := HR.out none w (by unfold numL; rw [if_neg (fun h => z2 (h.2.2.2 Hhd.out))]) (Below.refl _ _)
          have HF := Lib.hid hf
          clear HR hf hsl
          go_wp2
          exact HF.out
      · have z2 : ((b0.toNat : Int) == 48) = false := by
          rw [beq_eq_false_iff_ne]
          intro e
          exact z1 (UInt8.toNat_inj.1 (by have h48 : (48 : UInt8).toNat = 48 := by decide
                                          omega))
        obtain ⟨v, hv⟩ := atoi_some Hall.out (by rw [Hlen.out]; omega)
        have hf := fun w' => HR.out (some v) w' (by
          unfold numL
          rw [if_pos ⟨Hall.out, by rw [Hlen.out]; omega, by rw [Hlen.out]; omega, fun h => by
            rw [Hhd.out] at h
            exact absurd (Option.some.inj h) z1⟩]
          exact hv)
        have HF := Lib.hid hf
        have hs18 : s.size ≤ 18 := by
          have h1 : s.size = s.data.toList.length := by rw [Array.length_toList]; rfl
          have h2 := Hlen.out
          unfold magL at h2
          rw [h1]
          split at h2
          · rw [List.length_tail] at h2; omega
          · omega
        have HA := Lib.hid (fun w => atoi_any s v hs18 hv w)
        clear HR hf
        go_wp2_with (go_at_call 179; (with_reducible refine (HA.out _).mono ?_); rintro e w2 ⟨rfl, hb2⟩)
        exact HF.out _ hb2
end
end
section
section
open Go.RowKit Go.Shelf
/-- The library's tables, whatever is done from block b on. -/
structure Gl (b : Nat) (w : World) : Prop where
  tab : Lib.TabBelow Tryz.prog b w "internal/strconv.uint64pow10" .u64 Lib.pow10Tab
  sp : Lib.TabBelow Tryz.prog b w "strings.asciiSpace" .u8 Lib.asciiSpaceTab
  mx : ∃ m, w.cell? ⟨0, 0, none⟩ = some (.int .i64 m)
  lt : 0 < b
theorem Gl.on {b : Nat} {w w' : World} (h : Gl b w) (hb : Below b w w') : Gl b w' :=
  ⟨Lib.TabBelow.on h.tab hb, Lib.TabBelow.on h.sp hb, let ⟨m, hm⟩ := h.mx; ⟨m, (hb.cell h.lt).trans hm⟩, h.lt⟩
theorem Gl.kx {b : Nat} {S : Nat → Prop} {w w' : World} (h : Gl b w) (k : Kx S w w') (hs : ∀ j, S j → b ≤ j) (hb : b ≤ w.heap.size) : Gl b w' := h.on (Kx.low (Below.refl b w) k hs hb)
theorem below_growN {w : World} (k : Nat) (os : Array Obj) : Below w.heap.size w (Sort.grow (w.drewN k) os) :=
  ⟨rfl, rfl, rfl, by simp [Sort.grow, World.drewN], fun j hj => by
    show ((w.drewN k).heap ++ os)[j]? = w.heap[j]?
    rw [Array.getElem?_append_left (by exact hj)]
    rfl⟩
theorem itoa_any (n : Int) (w : World) (h0 : -9223372036854775808 ≤ n) (h1 : n ≤ 9223372036854775807) (b : Nat) (ht : Gl b w) :
    Calls Tryz.prog 45 #[.int .i64 n] w fun e w' => e = .returned (.string ⟨(Lib.itoa n).toArray⟩) ∧ Below w.heap.size w w' :=
  (Any.strconv_Itoa itoaSLays n h0 h1 w ht.tab.here).mono fun _ _ ⟨a, k, os, b⟩ => ⟨a, by subst b; exact below_growN k os⟩
theorem fmt_any (n : Int) (w : World) (h0 : -9223372036854775808 ≤ n) (h1 : n ≤ 9223372036854775807) (b : Nat) (ht : Gl b w) :
    Calls Tryz.prog 118 #[.int .i64 n, .int .i64 10] w fun e w' => e = .returned (.string ⟨(Lib.itoa n).toArray⟩) ∧ Below w.heap.size w w' :=
  (Any.strconv_FormatInt_10 fmtSLays n h0 h1 w ht.tab.here).mono fun _ _ ⟨a, k, os, b⟩ => ⟨a, by subst b; exact below_growN k os⟩
theorem below_drewn {w : World} (k : Nat) : Below w.heap.size w (w.drewN k) := ⟨rfl, rfl, rfl, Nat.le_refl _, fun _ _ => rfl⟩
theorem cut_any (s p : ByteArray) (w : World) (b : Nat) (ht : Gl b w) (hs : s.size < 4294967281) :
    Calls Tryz.prog 21 #[.string s, .string p] w fun e w' => e = .returned (.tuple #[.string ⟨(Lib.cut s.data.toList p.data.toList).1.toArray⟩, .string ⟨(Lib.cut s.data.toList p.data.toList).2.1.toArray⟩, .bool (Lib.cut s.data.toList p.data.toList).2.2]) ∧ Below w.heap.size w w' := by
  obtain ⟨m, hm⟩ := ht.mx
  exact (Any.strings_Cut cutSLays s p m w hs hm).mono fun _ _ ⟨a, k, b⟩ => ⟨a, by subst b; exact below_drewn k⟩
theorem cutp_any (s p : ByteArray) (w : World) :
    Calls Tryz.prog 47 #[.string s, .string p] w fun e w' => e = .returned (.tuple #[.string ⟨(Lib.trimPrefix s.data.toList p.data.toList).toArray⟩, .bool (Lib.hasPrefix s.data.toList p.data.toList)]) ∧ w = w' :=
  (Any.strings_CutPrefix cutpSLays s p w).mono fun _ _ h => ⟨h.1, h.2.symm⟩
theorem infoStr : (Tryz.prog.info? 9).map (fun i => (i.zero, i.size, i.bytes)) = some (some (.string ByteArray.empty), 1, 16) := by kernel_rfl
def strE (s : ByteArray) : List Value := [.string s]
theorem strE_len (s : ByteArray) : (strE s).length = 1 := rfl
theorem str_new (w : World) (L : List ByteArray) : SlE strE 1 (w.alloc (.cells (L.map Value.string).toArray 9)) (some ⟨w.heap.size, 0, none⟩) L.length L := by
  refine ⟨rfl, ?_⟩
  have e : L.flatMap strE = L.map Value.string := by
    induction L with
    | nil => rfl
    | cons a r ih => rw [List.flatMap_cons, List.map_cons, ih]; rfl
  have h := Sl.new w (L.map Value.string).toArray 9 1 L.length (by simp)
  rw [e]
  simpa using h
theorem str_one (L : List ByteArray) : ∀ u ∈ L.flatMap strE, u.oneCell' = true := by
  intro u hu
  obtain ⟨x, _, hx⟩ := List.mem_flatMap.1 hu
  simp only [strE, List.mem_cons, List.not_mem_nil, or_false] at hx
  rw [hx]
  rfl
theorem strs_data {X : List ByteArray} {l : List (List UInt8)} (h : X.map (·.data.toList) = l) : X = l.map fun x => ⟨x.toArray⟩ := by
  subst h
  rw [List.map_map]
  have : ((fun x : List UInt8 => (⟨x.toArray⟩ : ByteArray)) ∘ fun x : ByteArray => x.data.toList) = id := by
    funext x
    rfl
  rw [this, List.map_id]
def strL (l : List (List UInt8)) : List ByteArray := l.map fun x => ⟨x.toArray⟩
theorem split_any (s p : ByteArray) (w : World) (b : Nat) (ht : Gl b w) (hs : s.size < 4294967281) (hp : 1 ≤ p.size) :
    Calls Tryz.prog 48 #[.string s, .string p] w fun e w' => ∃ n c, e = .returned (.slice (some ⟨w.heap.size, 0, none⟩) n c) ∧ SlE strE 1 w' (some ⟨w.heap.size, 0, none⟩) n (strL (Lib.split s.data.toList p.data.toList)) ∧ n ≤ s.size + 1 ∧ Below w.heap.size w w' := by
  obtain ⟨m, hm⟩ := ht.mx
  refine (Any.strings_Split splitSLays infoStr s p m w hs hm hp).mono ?_
  rintro e w' ⟨rfl, rfl⟩
  have e : Lib.splitB p 0 (Lib.countB s p) s = strL (Lib.split s.data.toList p.data.toList) := by
    refine strs_data ?_
    rw [Lib.splitB_data]
    rfl
  have hl := Lib.splitB_all p hp 0 _ s rfl
  have hle := Lib.countB_le p hp s.size s (Nat.le_refl _)
  rw [e] at hl ⊢
  refine ⟨_, _, rfl, ?_, by omega, below_new w _⟩
  rw [← hl]
  exact str_new w _
theorem fields_any (s : ByteArray) (w : World) (b : Nat) (ht : Gl b w) (hs : s.size < 4294967281) (ha : ∀ (j : Nat) b, s.data.toList[j]? = some b → b.toNat < 128) :
    Calls Tryz.prog 117 #[.string s] w fun e w' => ∃ n c, e = .returned (.slice (some ⟨w.heap.size, 0, none⟩) n c) ∧ SlE strE 1 w' (some ⟨w.heap.size, 0, none⟩) n (strL (Lib.fields s.data.toList)) ∧ w.heap.size < w'.heap.size ∧ Below w.heap.size w w' := by
  refine (Any.strings_Fields fieldsSLays infoStr (by kernel_rfl) s w hs ha ht.sp.here).mono ?_
  rintro e w' ⟨rfl, rfl⟩
  refine ⟨_, _, rfl, ?_, by simp, below_new w _⟩
  have h := str_new w (strL (Lib.fields s.data.toList))
  unfold strL at h ⊢
  rw [List.length_map, List.map_map] at h
  exact h
theorem join_extra : Builder.Extra Tryz.prog joinSRen where
  sizeBuilder := by kernel_rfl
  liesBuilder := by kernel_rfl
  t5 := by kernel_rfl
  a5 := fun _ => by kernel_rfl
  z5 := fun _ => by kernel_rfl
  v5 := fun _ => by kernel_rfl
  infoByte := by kernel_rfl
  cellsByte := by kernel_rfl
  sizeByte := by kernel_rfl
  neB5 := by decide
theorem strs_at {w : World} {A : Option Addr} {n k : Nat} {L : List ByteArray} (h : SlE strE 1 w A n L) (hk : k < n) : ∃ b o x, A = some ⟨b, o, none⟩ ∧ b < w.heap.size ∧ L[k]? = some x ∧ w.cell? ⟨b, o + k, none⟩ = some (.string x) := by
  obtain ⟨b, o, x, hA, hb, hx, hc⟩ := h.at_ strE_len hk
  exact ⟨b, o, x, hA, hb, hx, by simpa using hc 0 _ rfl⟩
theorem inS_any (A : Option Addr) (n c : Nat) (L : List ByteArray) (x : ByteArray) (w : World) (h : SlE strE 1 w A n L) (hn : n ≤ 10000000) :
    Calls Tryz.prog 49 #[.slice A n c, .string x] w fun e w' => e = .returned (.bool (Lib.containsS L x)) ∧ w = w' := by
  by_cases h0 : n = 0
  · have hL : L = [] := List.eq_nil_of_length_eq_zero (by rw [← h.1]; exact h0)
    subst hL
    subst h0
    refine (Any.slices_Contains_string_empty inSLays A c x w).mono ?_
    rintro e w' ⟨rfl, rfl⟩
    exact ⟨rfl, rfl⟩
  · obtain ⟨b, o, y, rfl, hb, hy, hc⟩ := strs_at h (k := 0) (by omega)
    refine (Any.slices_Contains_string inSLays b o n c L x w (by rw [h.1]; exact Nat.le_refl _) (by omega) (fun j hj => ?_)).mono ?_
    · obtain ⟨b', o', y', e', _, hy', hc'⟩ := strs_at h (k := j) (by rw [h.1]; exact hj)
      cases e'
      rw [hc']
      simp [hy', List.getD]
    · rintro e w' ⟨rfl, rfl⟩
      rw [List.take_of_length_le (by rw [h.1]; exact Nat.le_refl _)]
      exact ⟨rfl, rfl⟩
theorem join_any (A : Option Addr) (n c : Nat) (L : List ByteArray) (p : ByteArray) (w : World) (h : SlE strE 1 w A n L) (hn : n ≤ 10000000) (hc : n ≤ c) (hl : (Lib.join (L.map (·.data.toList)) p.data.toList).length ≤ 140737488355328) :
    Calls Tryz.prog 267 #[.slice A n c, .string p] w fun e w' => e = .returned (.string ⟨(Lib.join (L.map (·.data.toList)) p.data.toList).toArray⟩) ∧ Below w.heap.size w w' := by
  by_cases h0 : n = 0
  · have hL : L = [] := List.eq_nil_of_length_eq_zero (by rw [← h.1]; exact h0)
    subst hL
    subst h0
    refine (Any.strings_Join_none joinSLays join_extra A c p w).mono ?_
    rintro e w' ⟨rfl, rfl⟩
    exact ⟨rfl, Below.refl _ _⟩
  · obtain ⟨b, o, y, rfl, hb, hy, hcl⟩ := strs_at h (k := 0) (by omega)
    have hn' := h.1
    subst hn'
    exact Any.strings_Join joinSLays join_extra b o c L p w (fun j x hx => by
      obtain ⟨b', o', y', e', _, hy', hc'⟩ := strs_at h (k := j) (List.getElem?_eq_some_iff.1 hx).1
      cases e'
      rw [hx] at hy'
      cases hy'
      exact hc') hb (by omega) hc hl
end
end
end Go.Proofs.YtndcijkgaadpgaaGreatDoor
