/-
  Plain law of the sheets that a plan's own counts need; and 'x & 15'. No program in sight.
-/
import Derived.Test.YtfkpioibinpfhaaPSums
import Derived.Test.YtfkpioibinpfhaaPSheetW
import Derived.Laws.BitsLemmas
namespace Go.Proofs.Ytfkpioibinpfhaa

theorem Rd.fits {k : Int} {ss : List Shp} {x y w h : Int} {l l' : Cuts} {p : List Pc} (hr : Rd k ss x y w h l l' p) : ∀ a ∈ p, ∃ (i : Nat) (s : Shp), a.S = i ∧ ss[i]? = some s ∧ ((s.W = a.W ∧ s.H = a.H) ∨ (s.T = true ∧ s.H = a.W ∧ s.W = a.H)) := by
  induction hr with
  | waste => intro a ha; simp at ha
  | shape x y w h r i s t c hc hs ha =>
    intro a hm
    simp only [List.mem_singleton] at hm
    subst hm
    refine ⟨i, s, rfl, hs, ?_⟩
    rcases rdAs_eq ha with ⟨_, e1, e2⟩ | ⟨_, e0, e1, e2⟩
    · exact .inl ⟨e1, e2⟩
    · exact .inr ⟨e0, e1, e2⟩
  | across1 _ _ _ _ _ _ _ _ _ _ _ _ j1 => exact j1
  | across2 _ _ _ _ _ _ _ _ _ _ _ _ _ _ _ j1 j2 => exact fun b hb => (List.mem_append.1 hb).elim (j1 b) (j2 b)
  | down1 _ _ _ _ _ _ _ _ _ _ _ _ j1 => exact j1
  | down2 _ _ _ _ _ _ _ _ _ _ _ _ _ _ _ j1 j2 => exact fun b hb => (List.mem_append.1 hb).elim (j1 b) (j2 b)
theorem and15 (x : Int) : 0 ≤ bits .and .i64 x 15 ∧ bits .and .i64 x 15 ≤ 15 := by
  have h : ((BitVec.ofInt 64 x &&& BitVec.ofInt 64 15).toNat : Int) ≤ 15 := by
    rw [BitVec.toNat_and]
    have : (BitVec.ofInt 64 15).toNat = 15 := by decide
    rw [this]
    exact_mod_cast Nat.and_le_right
  have e : bits .and .i64 x 15 = IntKind.i64.wrap ((BitVec.ofInt 64 x &&& BitVec.ofInt 64 15).toNat : Int) := rfl
  rw [e, IntKind.wrap_i64]
  omega
/-- The first j counts times t, the others as they are. -/
def mixL (p : List Pc) (t : Int) (L j : Nat) : List Int := (List.range L).map fun i => if i < j then cntI p i * t else cntI p i
theorem mixL_len (p : List Pc) (t : Int) (L j : Nat) : (mixL p t L j).length = L := by simp [mixL]
theorem mixL_zero (p : List Pc) (t : Int) (L : Nat) : mixL p t L 0 = cntP L p := by simp [mixL, cntP, cntI]
theorem mixL_get {p : List Pc} {t : Int} {L j : Nat} (hj : j < L) : (mixL p t L j)[j]? = some (cntI p j) := by simp [mixL, hj]
theorem mixL_set (p : List Pc) (t : Int) (L j : Nat) : mixL p t L (j + 1) = (mixL p t L j).set j (cntI p j * t) := by
  apply List.ext_getElem?
  intro a
  rw [List.getElem?_set, mixL_len]
  by_cases ha : a < L
  · simp only [mixL, List.getElem?_map, List.getElem?_range ha, Option.map_some]
    by_cases hja : j = a
    · subst hja; simp [ha]
    · rw [if_neg hja]
      by_cases h1 : a < j
      · rw [if_pos h1, if_pos (by omega)]
      · rw [if_neg h1, if_neg (by omega)]
  · by_cases hja : j = a
    · subst hja; simp [mixL, ha]
    · simp [mixL, ha, hja]
def anyTo (p : List Pc) (t : Int) : Nat → Bool
  | 0 => false
  | j + 1 => anyTo p t j || decide (0 < cntI p j * t)
theorem anyTo_iff (p : List Pc) (t : Int) : ∀ j, anyTo p t j = true ↔ ∃ i, i < j ∧ 0 < cntI p i * t
  | 0 => by simp [anyTo]
  | j + 1 => by
    simp only [anyTo, Bool.or_eq_true, anyTo_iff p t j, decide_eq_true_eq]
    constructor
    · rintro (⟨i, h1, h2⟩ | h)
      · exact ⟨i, by omega, h2⟩
      · exact ⟨j, by omega, h⟩
    · rintro ⟨i, h1, h2⟩
      by_cases hi : i = j
      · subst hi; exact .inr h2
      · exact .inl ⟨i, by omega, h2⟩
theorem sumTo_pos {f : Nat → Int} : ∀ m, (∀ i, i < m → 0 ≤ f i) → ∀ i, i < m → f i ≤ sumTo f m
  | 0, _, i, hi => by omega
  | m + 1, h, i, hi => by
    rw [sumTo]
    have h1 := h m (by omega)
    by_cases hm : i = m
    · subst hm
      have : 0 ≤ sumTo f i := by
        clear hi h1
        induction i with
        | zero => exact Int.le_refl _
        | succ i ih => rw [sumTo]; have := ih (fun j hj => h j (by omega)); have := h i (by omega); omega
      omega
    · have := sumTo_pos m (fun j hj => h j (by omega)) i (by omega)
      omega
theorem sheets_law {W H k : Int} {ss : List Shp} {l : Cuts} {p : List Pc} (hp : panOk W H k ss = true) (h : planOut k ss W H l = some p) (hlen : p.length ≤ 400) {t : Int} (ht : 0 ≤ t) (ht' : t ≤ 15) :
    sheetE true W H ss (mixL p t ss.length ss.length) = 0 ∧ 0 ≤ sheetV true W H ss (mixL p t ss.length ss.length) ∧ sheetV true W H ss (mixL p t ss.length ss.length) ≤ t ∧ (decide (0 < sheetV true W H ss (mixL p t ss.length ss.length)) = anyTo p t ss.length) := by
  obtain ⟨hW1, hW2, hH1, hH2, hk0, hk8, hss, hok⟩ := panOk_ok hp
  have hr := planOut_Rd h
  have hpo := planOut_ok hp h
  obtain ⟨hm1, hm2⟩ := sheets_top ⟨hW1, hW2⟩ ⟨hH1, hH2⟩
  have hget : ∀ i, i < ss.length → (mixL p t ss.length ss.length)[i]? = some (cntI p i * t) := fun i hi => by simp [mixL, hi]
  have hw : okWants (mixL p t ss.length ss.length) = true := by
    rw [okWants_eq, List.all_eq_true]
    intro x hx
    obtain ⟨i, hi⟩ := List.mem_iff_getElem?.1 hx
    have hil : i < ss.length := by have := (List.getElem?_eq_some_iff.1 hi).1; rwa [mixL_len] at this
    rw [hget i hil] at hi
    injection hi with hi
    have hb := cntI_bd p i
    obtain ⟨m1, m2⟩ := mul_bd (a := cntI p i) (b := t) (m := 400) (n := 15) hb.1 ht (by omega) ht'
    subst hi
    simp [wantB, inB]
    omega
  have hfa : fitAll W H ss (mixL p t ss.length ss.length) = true := by
    have := fitAll_of W H ss (mixL p t ss.length ss.length) (fun i s n h1 h2 => by
      have hil := (List.getElem?_eq_some_iff.1 h1).1
      rw [hget i hil] at h2
      injection h2 with h2
      by_cases hc : cntI p i = 0
      · left; rw [← h2, hc]; simp
      · right
        have : 0 < (p.filter fun q => q.S == (i : Int)).length := by unfold cntI at hc; omega
        obtain ⟨q, hq⟩ := List.exists_mem_of_length_pos this
        rw [List.mem_filter] at hq
        obtain ⟨⟨_, _, _, _, e1, e2⟩, _⟩ := hr.inside hk0 hW1 hH1 q hq.1
        obtain ⟨hx0, hy0, _⟩ := (hr.inside hk0 hW1 hH1 q hq.1).1
        obtain ⟨i', s', f1, f2, f3⟩ := hr.fits q hq.1
        have hqi : q.S = (i : Int) := by simpa using hq.2
        have : i' = i := by omega
        subst this
        rw [h1] at f2
        injection f2 with f2
        subst f2
        unfold fitsB
        rcases f3 with ⟨g1, g2⟩ | ⟨g0, g1, g2⟩
        · rw [g1, g2]; simp; left; omega
        · rw [g0, g1, g2]; simp; right; omega) ss.length (Nat.le_refl _) (by rw [mixL_len]; exact Nat.le_refl _)
    rwa [List.take_of_length_le (Nat.le_refl _), List.take_of_length_le (by rw [mixL_len]; exact Nat.le_refl _)] at this
  have har : areaV ss (mixL p t ss.length ss.length) = t * areaP p := by
    have := areaV_sum ss (mixL p t ss.length ss.length) ss.length (Nat.le_refl _) (by rw [mixL_len]; exact Nat.le_refl _)
    rw [List.take_of_length_le (Nat.le_refl _), List.take_of_length_le (by rw [mixL_len]; exact Nat.le_refl _)] at this
    rw [this, ← area_cnt hpo.1, ← sumTo_mul]
    refine sumTo_congr _ fun i hi => ?_
    rw [List.getD_eq_getElem?_getD, hget i hi, Option.getD_some, Int.mul_comm (cntI p i) t, Int.mul_assoc]
  have hV : sheetV true W H ss (mixL p t ss.length ss.length) = (t * areaP p + W * H - 1) / (W * H) := by
    unfold sheetV
    rw [mixL_len, hw, hfa, har]; simp
  have hE : sheetE true W H ss (mixL p t ss.length ss.length) = 0 := by
    unfold sheetE
    rw [mixL_len, hw, hfa]; simp
  have ha := hpo.2.2.2
  have hta0 : 0 ≤ t * areaP p := Int.mul_nonneg ht ha.1
  have hta1 : t * areaP p ≤ t * (W * H) := Int.mul_le_mul_of_nonneg_left ha.2 ht
  rw [hV, hE]
  have hmp : 0 < W * H := by omega
  refine ⟨rfl, Int.ediv_nonneg (by omega) (by omega), ?_, ?_⟩
  · refine Int.lt_add_one_iff.1 ((Int.ediv_lt_iff_lt_mul hmp).2 ?_)
    rw [Int.add_mul]; omega
  · rw [Bool.eq_iff_iff, decide_eq_true_eq, anyTo_iff]
    have h1 : 0 < (t * areaP p + W * H - 1) / (W * H) ↔ 0 < t * areaP p := by
      constructor
      · intro h
        have := (Int.le_ediv_iff_mul_le (a := 1) hmp).1 h
        omega
      · intro h
        exact (Int.le_ediv_iff_mul_le (a := 1) hmp).2 (by omega)
    rw [h1]
    constructor
    · intro hpos
      have htp : 0 < t := by
        rcases Int.lt_or_eq_of_le ht with h | h
        · exact h
        · rw [← h] at hpos; simp at hpos
      cases hpe : p with
      | nil => rw [hpe] at hpos; simp [areaP] at hpos
      | cons q r =>
        obtain ⟨i, hi, hq⟩ := ok_index hpo.1 q (by rw [hpe]; simp)
        refine ⟨i, hi, Int.mul_pos ?_ htp⟩
        rw [cntI_cons q r i i hq, if_pos rfl]
        have := cntI_bd r i
        omega
    · rintro ⟨i, hi, hc⟩
      have htp : 0 < t := by
        rcases Int.lt_or_eq_of_le ht with h | h
        · exact h
        · rw [← h] at hc; simp at hc
      have hb := cntI_bd p i
      have hci : 1 ≤ cntI p i := by
        rcases Int.lt_or_eq_of_le hb.1 with h | h
        · exact h
        · rw [← h] at hc; simp at hc
      refine Int.mul_pos htp ?_
      rw [← area_cnt hpo.1]
      have key : ∀ j, j < ss.length → 1 ≤ arI ss j := fun j hj => by
        have hs : ss[j]? = some ss[j] := List.getElem?_eq_getElem hj
        obtain ⟨⟨a1, _⟩, ⟨b1, _⟩, _⟩ := hok _ (List.mem_of_getElem? hs)
        unfold arI
        rw [hs]
        have := Int.mul_le_mul a1 b1 (by omega) (by omega)
        simpa using this
      have h2 := sumTo_pos (f := fun i => cntI p i * arI ss i) ss.length (fun j hj => Int.mul_nonneg (cntI_bd p j).1 (by have := key j hj; omega)) i hi
      have h3 := Int.mul_le_mul hci (key i hi) (by omega) (by omega)
      omega
end Go.Proofs.Ytfkpioibinpfhaa
