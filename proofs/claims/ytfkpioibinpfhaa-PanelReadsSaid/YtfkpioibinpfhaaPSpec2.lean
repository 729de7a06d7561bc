/-
  Plain mathematics of the panel, more: a value is bounded by its area; tables; no program in sight.
-/
import Derived.Test.YtfkpioibinpfhaaPSpec
namespace Go.Proofs.Ytfkpioibinpfhaa

def fitsP (w h : Int) (s : Shp) : Prop := (s.W ≤ w ∧ s.H ≤ h) ∨ (s.T = true ∧ s.H ≤ w ∧ s.W ≤ h)
/-- A rectangle's value times D is at most c times its area, if that holds for every shape that fits into the panel. -/
theorem val_area (k : Int) (ss : List Shp) (hk : 0 ≤ k) (D c w0 h0 : Int) (hc : 0 ≤ c)
    (hs : ∀ s ∈ ss, fitsP w0 h0 s → s.V * D ≤ c * (s.W * s.H)) : ∀ (f : Nat) (w h : Int), w.toNat + h.toNat ≤ f → 0 ≤ w → 0 ≤ h → w ≤ w0 → h ≤ h0 → val k ss w h * D ≤ c * (w * h) := by
  intro f
  induction f with
  | zero =>
    intro w h hf hw hh _ _
    rw [val_lt k ss w h (by omega), Int.zero_mul]
    exact Int.mul_nonneg hc (Int.mul_nonneg hw hh)
  | succ f ih =>
    intro w h hf hw hh hw0 hh0
    have harea : 0 ≤ c * (w * h) := Int.mul_nonneg hc (Int.mul_nonneg hw hh)
    by_cases hlt : w < 1 ∨ h < 1
    · rw [val_lt k ss w h hlt, Int.zero_mul]; exact harea
    · obtain ⟨x, hx, he⟩ := most_mem (val k ss) k ss w h
      rw [← val_eq k ss hk w h (by omega) (by omega)] at he
      rw [← he]
      rcases (mem_ways _ k ss w h (by omega) (by omega) x).1 hx with rfl | ⟨j, s, hj, ⟨h1, h2, rfl⟩ | ⟨h0', h1, h2, rfl⟩⟩ | ⟨a, ha1, ha2, rfl⟩ | ⟨a, ha1, ha2, rfl⟩
      · simpa using harea
      · have := hs s (List.mem_of_getElem? hj) (.inl ⟨by omega, by omega⟩)
        rwa [h1, h2] at this
      · have := hs s (List.mem_of_getElem? hj) (.inr ⟨h0', by omega, by omega⟩)
        rwa [h1, h2, Int.mul_comm h w] at this
      · have i1 := ih a h (by omega) (by omega) hh (by omega) hh0
        have i2 : val k ss (w - a - k) h * D ≤ c * ((w - a) * h) := by
          by_cases hr : w - a - k < 1
          · rw [val_lt k ss _ h (.inl hr), Int.zero_mul]; exact Int.mul_nonneg hc (Int.mul_nonneg (by omega) hh)
          · have i3 := ih (w - a - k) h (by omega) (by omega) hh (by omega) hh0
            refine Int.le_trans i3 (Int.mul_le_mul_of_nonneg_left (Int.mul_le_mul_of_nonneg_right (by omega) hh) hc)
        have e1 : w * h = a * h + (w - a) * h := by rw [← Int.add_mul]; congr 1; omega
        simp only [Int.add_mul]
        rw [e1, Int.mul_add]
        omega
      · have i1 := ih w a (by omega) hw (by omega) hw0 (by omega)
        have i2 : val k ss w (h - a - k) * D ≤ c * (w * (h - a)) := by
          by_cases hr : h - a - k < 1
          · rw [val_lt k ss w _ (.inr hr), Int.zero_mul]; exact Int.mul_nonneg hc (Int.mul_nonneg hw (by omega))
          · have i3 := ih w (h - a - k) (by omega) hw (by omega) hw0 (by omega)
            refine Int.le_trans i3 (Int.mul_le_mul_of_nonneg_left (Int.mul_le_mul_of_nonneg_left (by omega) hw) hc)
        have e1 : w * h = w * a + w * (h - a) := by rw [← Int.mul_add]; congr 1; omega
        simp only [Int.add_mul]
        rw [e1, Int.mul_add]
        omega
/-- Of shapes worth at most 10^6 each: no rectangle up to 64 by 64 is worth more than 4096 times that. -/
theorem val_small (k : Int) (ss : List Shp) (hk : 0 ≤ k) (hs : ∀ s ∈ ss, 1 ≤ s.W ∧ 1 ≤ s.H ∧ 0 ≤ s.V ∧ s.V ≤ 1000000) (w h : Int) (hw : w ≤ 64) (hh : h ≤ 64) : val k ss w h ≤ 4096000000 := by
  by_cases hlt : w < 1 ∨ h < 1
  · rw [val_lt k ss w h hlt]; omega
  · have h1 := val_area k ss hk 1 1000000 64 64 (by omega) (fun s hs' _ => by
      obtain ⟨h1, h2, h3, h4⟩ := hs s hs'
      have : 1 ≤ s.W * s.H := by have := Int.mul_le_mul h1 h2 (by omega) (by omega); simpa using this
      omega) _ w h (Nat.le_refl _) (by omega) (by omega) hw hh
    have h2 : w * h ≤ 64 * 64 := Int.mul_le_mul hw hh (by omega) (by omega)
    omega

/-! ### tables -/
def tabF (rows : List (List Int)) (x y : Int) : Int := if x < 1 ∨ y < 1 then 0 else (rows.getD (x - 1).toNat []).getD (y - 1).toNat 0
def rowV (k : Int) (ss : List Shp) (h : Nat) (i : Nat) : List Int := (List.range h).map fun (b : Nat) => val k ss ((i : Int) + 1) ((b : Int) + 1)
def tabV (k : Int) (ss : List Shp) (w h : Nat) : List (List Int) := (List.range w).map fun i => rowV k ss h i
/-- The row under way: the first j values, then 0. -/
def rowP (k : Int) (ss : List Shp) (h : Nat) (i j : Nat) : List Int := (List.range h).map fun (b : Nat) => if b < j then val k ss ((i : Int) + 1) ((b : Int) + 1) else 0
def tabP (k : Int) (ss : List Shp) (h : Nat) (i j : Nat) : List (List Int) := tabV k ss i h ++ [rowP k ss h i j]
theorem rowV_len (k : Int) (ss : List Shp) (h i : Nat) : (rowV k ss h i).length = h := by simp [rowV]
theorem rowP_len (k : Int) (ss : List Shp) (h i j : Nat) : (rowP k ss h i j).length = h := by simp [rowP]
theorem tabV_len (k : Int) (ss : List Shp) (w h : Nat) : (tabV k ss w h).length = w := by simp [tabV]
theorem rowP_full (k : Int) (ss : List Shp) (h i : Nat) : rowP k ss h i h = rowV k ss h i := by
  unfold rowP rowV
  refine List.map_congr_left fun b hb => ?_
  rw [if_pos (List.mem_range.1 hb)]
theorem rowP_zero (k : Int) (ss : List Shp) (h i : Nat) : rowP k ss h i 0 = List.replicate h 0 := by
  unfold rowP
  simp only [Nat.not_lt_zero, if_false]
  rw [List.map_const']
  simp
theorem tabP_full (k : Int) (ss : List Shp) (h i : Nat) : tabP k ss h i h = tabV k ss (i + 1) h := by
  simp [tabP, rowP_full, tabV, List.range_succ]
theorem rowP_set (k : Int) (ss : List Shp) (h i j : Nat) (hj : j < h) : (rowP k ss h i j).set j (val k ss ((i : Int) + 1) ((j : Int) + 1)) = rowP k ss h i (j + 1) := by
  apply List.ext_getElem?
  intro b
  rw [List.getElem?_set]
  by_cases hb : b < h
  · by_cases hjb : j = b
    · subst hjb
      simp [rowP, hj]
    · rw [if_neg hjb]
      simp only [rowP, List.getElem?_map, List.getElem?_range hb, Option.map_some]
      congr 1
      by_cases h1 : b < j
      · rw [if_pos h1, if_pos (by omega)]
      · rw [if_neg h1, if_neg (by omega)]
  · rw [if_neg (by omega)]
    simp only [rowP, List.getElem?_map]
    rw [List.getElem?_eq_none (by simp; omega)]
    rfl
theorem tabV_get (k : Int) (ss : List Shp) (w h i : Nat) (hi : i < w) : (tabV k ss w h)[i]? = some (rowV k ss h i) := by simp [tabV, hi]
theorem rowV_get (k : Int) (ss : List Shp) (h i j : Nat) (hj : j < h) : (rowV k ss h i)[j]? = some (val k ss ((i : Int) + 1) ((j : Int) + 1)) := by simp [rowV, hj]
theorem tabP_get (k : Int) (ss : List Shp) (h i j a : Nat) (ha : a < i) : (tabP k ss h i j)[a]? = some (rowV k ss h a) := by
  rw [tabP, List.getElem?_append_left (by rw [tabV_len]; exact ha), tabV_get _ _ _ _ _ ha]
theorem tabP_last (k : Int) (ss : List Shp) (h i j : Nat) : (tabP k ss h i j)[i]? = some (rowP k ss h i j) := by
  rw [tabP, List.getElem?_append_right (by rw [tabV_len]; exact Nat.le_refl _), tabV_len]
  simp
theorem tabF_V (k : Int) (ss : List Shp) (w h : Nat) (x y : Int) (hx : x ≤ w) (hy : y ≤ h) : tabF (tabV k ss w h) x y = val k ss x y := by
  unfold tabF
  split
  · rename_i h1; rw [val_lt k ss x y h1]
  · rename_i h1
    obtain ⟨a, rfl⟩ : ∃ a : Nat, x = a + 1 := ⟨(x - 1).toNat, by omega⟩
    obtain ⟨b, rfl⟩ : ∃ b : Nat, y = b + 1 := ⟨(y - 1).toNat, by omega⟩
    rw [show ((a : Int) + 1 - 1).toNat = a by omega, show ((b : Int) + 1 - 1).toNat = b by omega]
    rw [List.getD_eq_getElem?_getD, List.getD_eq_getElem?_getD, tabV_get _ _ _ _ _ (by omega)]
    simp only [Option.getD_some]
    rw [rowV_get _ _ _ _ _ (by omega)]
    rfl
theorem tabF_P (k : Int) (ss : List Shp) (h i j : Nat) (x y : Int) (hxy : (x ≤ i ∧ y ≤ h) ∨ (x = (i : Int) + 1 ∧ y ≤ j ∧ j ≤ h)) : tabF (tabP k ss h i j) x y = val k ss x y := by
  unfold tabF
  split
  · rename_i h1; rw [val_lt k ss x y h1]
  · rename_i h1
    obtain ⟨a, rfl⟩ : ∃ a : Nat, x = a + 1 := ⟨(x - 1).toNat, by omega⟩
    obtain ⟨b, rfl⟩ : ∃ b : Nat, y = b + 1 := ⟨(y - 1).toNat, by omega⟩
    rw [show ((a : Int) + 1 - 1).toNat = a by omega, show ((b : Int) + 1 - 1).toNat = b by omega]
    rw [List.getD_eq_getElem?_getD, List.getD_eq_getElem?_getD]
    rcases hxy with ⟨p, q⟩ | ⟨p, q, r⟩
    · rw [tabP_get _ _ _ _ _ _ (by omega)]
      simp only [Option.getD_some]
      rw [rowV_get _ _ _ _ _ (by omega)]
      rfl
    · obtain rfl : a = i := by omega
      rw [tabP_last]
      simp [rowP, show b < h by omega, show b < j by omega]
theorem ways_tabP (k : Int) (ss : List Shp) (hk : 0 ≤ k) (h i j : Nat) (hj : j < h) : ways (tabF (tabP k ss h i j)) k ss ((i : Int) + 1) ((j : Int) + 1) = ways (val k ss) k ss ((i : Int) + 1) ((j : Int) + 1) :=
  ways_congr (by omega) (by omega) hk (fun x hx => tabF_P k ss h i j x _ (.inl ⟨by omega, by omega⟩)) (fun y hy => tabF_P k ss h i j _ y (.inr ⟨rfl, by omega, by omega⟩))
theorem ways_tabV (k : Int) (ss : List Shp) (hk : 0 ≤ k) (w h : Nat) (x y : Int) (hx : 1 ≤ x) (hxw : x ≤ w) (hy : 1 ≤ y) (hyh : y ≤ h) : ways (tabF (tabV k ss w h)) k ss x y = ways (val k ss) k ss x y :=
  ways_congr hx hy hk (fun x' hx => tabF_V k ss w h x' _ (by omega) (by omega)) (fun y' hy => tabF_V k ss w h _ y' (by omega) (by omega))
theorem tabF_mem (rows : List (List Int)) (b : Int) (hb : 0 ≤ b) (h : ∀ r ∈ rows, ∀ v ∈ r, 0 ≤ v ∧ v ≤ b) (x y : Int) : 0 ≤ tabF rows x y ∧ tabF rows x y ≤ b := by
  unfold tabF
  split
  · omega
  · rw [List.getD_eq_getElem?_getD, List.getD_eq_getElem?_getD]
    cases hr : rows[(x - 1).toNat]? with
    | none => simp; omega
    | some r =>
      simp only [Option.getD_some]
      cases hv : r[(y - 1).toNat]? with
      | none => simp; omega
      | some v => exact h r (List.mem_of_getElem? hr) v (List.mem_of_getElem? hv)
theorem tabV_small (k : Int) (ss : List Shp) (hk : 0 ≤ k) (hs : ∀ s ∈ ss, 1 ≤ s.W ∧ 1 ≤ s.H ∧ 0 ≤ s.V ∧ s.V ≤ 1000000) (w h : Nat) (hw : w ≤ 64) (hh : h ≤ 64) : ∀ r ∈ tabV k ss w h, ∀ v ∈ r, 0 ≤ v ∧ v ≤ 1000000000000 := by
  intro r hr v hv
  simp only [tabV, List.mem_map, List.mem_range] at hr
  obtain ⟨a, ha, rfl⟩ := hr
  simp only [rowV, List.mem_map, List.mem_range] at hv
  obtain ⟨b, hb, rfl⟩ := hv
  have := val_small k ss hk hs ((a : Int) + 1) ((b : Int) + 1) (by omega) (by omega)
  exact ⟨val_nonneg _ _ _ _, by omega⟩
theorem tabP_small (k : Int) (ss : List Shp) (hk : 0 ≤ k) (hs : ∀ s ∈ ss, 1 ≤ s.W ∧ 1 ≤ s.H ∧ 0 ≤ s.V ∧ s.V ≤ 1000000) (h i j : Nat) (hi : i < 64) (hh : h ≤ 64) : ∀ r ∈ tabP k ss h i j, ∀ v ∈ r, 0 ≤ v ∧ v ≤ 1000000000000 := by
  intro r hr v hv
  rcases List.mem_append.1 hr with hr | hr
  · exact tabV_small k ss hk hs i h (by omega) hh r hr v hv
  · simp only [List.mem_singleton] at hr
    subst hr
    simp only [rowP, List.mem_map, List.mem_range] at hv
    obtain ⟨b, hb, rfl⟩ := hv
    split
    · have := val_small k ss hk hs ((i : Int) + 1) ((b : Int) + 1) (by omega) (by omega)
      exact ⟨val_nonneg _ _ _ _, by omega⟩
    · omega
theorem panOk_ok {w h k : Int} {ss : List Shp} (hp : panOk w h k ss = true) : 1 ≤ w ∧ w ≤ 64 ∧ 1 ≤ h ∧ h ≤ 64 ∧ 0 ≤ k ∧ k ≤ 8 ∧ ss.length ≤ 16 ∧ ∀ s ∈ ss, (1 ≤ s.W ∧ s.W ≤ 64) ∧ (1 ≤ s.H ∧ s.H ≤ 64) ∧ 0 ≤ s.V ∧ s.V ≤ 1000000 := by
  simp only [panOk, inB, Bool.and_eq_true, decide_eq_true_eq, List.all_eq_true, shpOk] at hp
  obtain ⟨⟨⟨⟨⟨h1, h2⟩, h3, h4⟩, h5, h6⟩, h7⟩, h8⟩ := hp
  exact ⟨h1, h2, h3, h4, h5, h6, h7, fun s hs => by have := h8 s hs; omega⟩
end Go.Proofs.Ytfkpioibinpfhaa
