/-
  Plain mathematics of the panel, more: a value is bounded by its area; tables; no program in sight. Plain mathematics of the panel: the value is the least function that every shape and every cut stays under; so it grows with the sides, falls with the kerf, and does not mind turning the panel. No program in sight. Plain mathematics of the panel: the ceiling and the sheets; Best is worth at most the ceiling. No program in sight. Plain mathematics of reading a plan: what is read from a rectangle, the pieces, what is left; what that is worth and how the pieces lie. No program in sight. Plain mathematics of reading a plan, more: the best plan reads, and is worth the greatest value; areas; pieces lie apart; the document's reading with a list of rectangles. No program in sight. Plain mathematics of reading a plan by the document: a list of rectangles that wait; it agrees with the reading by parts. No program in sight. Contracts of must and of the reader's shape: both ways, the panic too; no condition but those that each states.
-/
import Derived.Test.YtndcijkgaadpgaaGreatDoorUm
import Derived.Test.YtndcijkgaadpgaaGreatDoorMMem
import Derived.BigQuiet
import Derived.Deep.QuietTactic
namespace Go.Proofs.YtndcijkgaadpgaaGreatDoor
section
def fitsP (w h : Int) (s : Shp) : Prop := (s.W ≤ w ∧ s.H ≤ h) ∨ (s.T = true ∧ s.H ≤ w ∧ s.W ≤ h)
/-- A rectangle's value times D is at most c times its area, if that holds for every shape that fits into the panel. -/
theorem val_area (k : Int) (ss : List Shp) (hk : 0 ≤ k) (D c w0 h0 : Int) (hc : 0 ≤ c)
    (hs : ∀ s ∈ ss, fitsP w0 h0 s → s.V * D ≤ c * (s.W * s.H)) : ∀ (f : Nat) (w h : Int), w.toNat + h.toNat ≤ f → 0 ≤ w → 0 ≤ h → w ≤ w0 → h ≤ h0 → val k ss w h * D ≤ c * (w * h) := by
  intro f
  induction f with
  | zero =>
    intro w h hf hw hh _ _
    rw [val_lt k ss w h (by omega), Int.zero_mul]
    exact Int.mul_nonneg hc (Int.mul_nonneg hw hh)
  | succ f ih =>
    intro w h hf hw hh hw0 hh0
    have harea : 0 ≤ c * (w * h) := Int.mul_nonneg hc (Int.mul_nonneg hw hh)
    by_cases hlt : w < 1 ∨ h < 1
    · rw [val_lt k ss w h hlt, Int.zero_mul]; exact harea
    · obtain ⟨x, hx, he⟩ := most_mem (val k ss) k ss w h
      rw [← val_eq k ss hk w h (by omega) (by omega)] at he
      rw [← he]
      rcases (mem_ways _ k ss w h (by omega) (by omega) x).1 hx with rfl | ⟨j, s, hj, ⟨h1, h2, rfl⟩ | ⟨h0', h1, h2, rfl⟩⟩ | ⟨a, ha1, ha2, rfl⟩ | ⟨a, ha1, ha2, rfl⟩
      · simpa using harea
      · have := hs s (List.mem_of_getElem? hj) (.inl ⟨by omega, by omega⟩)
        rwa [h1, h2] at this
      · have := hs s (List.mem_of_getElem? hj) (.inr ⟨h0', by omega, by omega⟩)
        rwa [h1, h2, Int.mul_comm h w] at this
      · have i1 := ih a h (by omega) (by omega) hh (by omega) hh0
        have i2 : val k ss (w - a - k) h * D ≤ c * ((w - a) * h) := by
          by_cases hr : w - a - k < 1
          · rw [val_lt k ss _ h (.inl hr), Int.zero_mul]; exact Int.mul_nonneg hc (Int.mul_nonneg (by omega) hh)
          · have i3 := ih (w - a - k) h (by omega) (by omega) hh (by omega) hh0
            refine Int.le_trans i3 (Int.mul_le_mul_of_nonneg_left (Int.mul_le_mul_of_nonneg_right (by omega) hh) hc)
        have e1 : w * h = a * h + (w - a) * h := by rw [← Int.add_mul]; congr 1; omega
        simp only [Int.add_mul]
        rw [e1, Int.mul_add]
        omega
      · have i1 := ih w a (by omega) hw (by omega) hw0 (by omega)
        have i2 : val k ss w (h - a - k) * D ≤ c * (w * (h - a)) := by
          by_cases hr : h - a - k < 1
          · rw [val_lt k ss w _ (.inr hr), Int.zero_mul]; exact Int.mul_nonneg hc (Int.mul_nonneg hw (by omega))
          · have i3 := ih w (h - a - k) (by omega) hw (by omega) hw0 (by omega)
            refine Int.le_trans i3 (Int.mul_le_mul_of_nonneg_left (Int.mul_le_mul_of_nonneg_left (by omega) hw) hc)
        have e1 : w * h = w * a + w * (h - a) := by rw [← Int.mul_add]; congr 1; omega
        simp only [Int.add_mul]
        rw [e1, Int.mul_add]
        omega
/-- Of shapes worth at most 10^6 each: no rectangle up to 64 by 64 is worth more than 4096 times that. -/
theorem val_small (k : Int) (ss : List Shp) (hk : 0 ≤ k) (hs : ∀ s ∈ ss, 1 ≤ s.W ∧ 1 ≤ s.H ∧ 0 ≤ s.V ∧ s.V ≤ 1000000) (w h : Int) (hw : w ≤ 64) (hh : h ≤ 64) : val k ss w h ≤ 4096000000 := by
  by_cases hlt : w < 1 ∨ h < 1
  · rw [val_lt k ss w h hlt]; omega
  · have h1 := val_area k ss hk 1 1000000 64 64 (by omega) (fun s hs' _ => by
      obtain ⟨h1, h2, h3, h4⟩ := hs s hs'
      have : 1 ≤ s.W * s.H := by have := Int.mul_le_mul h1 h2 (by omega) (by omega); simpa using this
      omega) _ w h (Nat.le_refl _) (by omega) (by omega) hw hh
    have h2 : w * h ≤ 64 * 64 := Int.mul_le_mul hw hh (by omega) (by omega)
    omega

/-! ### tables -/
def tabF (rows : List (List Int)) (x y : Int) : Int := if x < 1 ∨ y < 1 then 0 else (rows.getD (x - 1).toNat []).getD (y - 1).toNat 0
def rowV (k : Int) (ss : List Shp) (h : Nat) (i : Nat) : List Int := (List.range h).map fun (b : Nat) => val k ss ((i : Int) + 1) ((b : Int) + 1)
def tabV (k : Int) (ss : List Shp) (w h : Nat) : List (List Int) := (List.range w).map fun i => rowV k ss h i
/-- The row under way: the first j values, then 0. -/
def rowP (k : Int) (ss : List Shp) (h : Nat) (i j : Nat) : List Int := (List.range h).map fun (b : Nat) => if b < j then val k ss ((i : Int) + 1) ((b : Int) + 1) else 0
def tabP (k : Int) (ss : List Shp) (h : Nat) (i j : Nat) : List (List Int) := tabV k ss i h ++ [rowP k ss h i j]
theorem rowV_len (k : Int) (ss : List Shp) (h i : Nat) : (rowV k ss h i).length = h := by simp [rowV]
theorem rowP_len (k : Int) (ss : List Shp) (h i j : Nat) : (rowP k ss h i j).length = h := by simp [rowP]
theorem tabV_len (k : Int) (ss : List Shp) (w h : Nat) : (tabV k ss w h).length = w := by simp [tabV]
theorem rowP_full (k : Int) (ss : List Shp) (h i : Nat) : rowP k ss h i h = rowV k ss h i := by
  unfold rowP rowV
  refine List.map_congr_left fun b hb => ?_
  rw [if_pos (List.mem_range.1 hb)]
theorem rowP_zero (k : Int) (ss : List Shp) (h i : Nat) : rowP k ss h i 0 = List.replicate h 0 := by
  unfold rowP
  simp only [Nat.not_lt_zero, if_false]
  rw [List.map_const']
  simp
theorem tabP_full (k : Int) (ss : List Shp) (h i : Nat) : tabP k ss h i h = tabV k ss (i + 1) h := by
  simp [tabP, rowP_full, tabV, List.range_succ]
theorem rowP_set (k : Int) (ss : List Shp) (h i j : Nat) (hj : j < h) : (rowP k ss h i j).set j (val k ss ((i : Int) + 1) ((j : Int) + 1)) = rowP k ss h i (j + 1) := by
  apply List.ext_getElem?
  intro b
  rw [List.getElem?_set]
  by_cases hb : b < h
  · by_cases hjb : j = b
    · subst hjb
      simp [rowP, hj]
    · rw [if_neg hjb]
      simp only [rowP, List.getElem?_map, List.getElem?_range hb, Option.map_some]
      congr 1
      by_cases h1 : b < j
      · rw [if_pos h1, if_pos (by omega)]
      · rw [if_neg h1, if_neg (by omega)]
  · rw [if_neg (by omega)]
    simp only [rowP, List.getElem?_map]
    rw [List.getElem?_eq_none (by simp; omega)]
    rfl
theorem tabV_get (k : Int) (ss : List Shp) (w h i : Nat) (hi : i < w) : (tabV k ss w h)[i]? = some (rowV k ss h i) := by simp [tabV, hi]
theorem rowV_get (k : Int) (ss : List Shp) (h i j : Nat) (hj : j < h) : (rowV k ss h i)[j]? = some (val k ss ((i : Int) + 1) ((j : Int) + 1)) := by simp [rowV, hj]
theorem tabP_get (k : Int) (ss : List Shp) (h i j a : Nat) (ha : a < i) : (tabP k ss h i j)[a]? = some (rowV k ss h a) := by
  rw [tabP, List.getElem?_append_left (by rw [tabV_len]; exact ha), tabV_get _ _ _ _ _ ha]
theorem tabP_last (k : Int) (ss : List Shp) (h i j : Nat) : (tabP k ss h i j)[i]? = some (rowP k ss h i j) := by
  rw [tabP, List.getElem?_append_right (by rw [tabV_len]; exact Nat.le_refl _), tabV_len]
  simp
theorem tabF_V (k : Int) (ss : List Shp) (w h : Nat) (x y : Int) (hx : x ≤ w) (hy : y ≤ h) : tabF (tabV k ss w h) x y = val k ss x y := by
  unfold tabF
  split
  · rename_i h1; rw [val_lt k ss x y h1]
  · rename_i h1
    obtain ⟨a, rfl⟩ : ∃ a : Nat, x = a + 1 := ⟨(x - 1).toNat, by omega⟩
    obtain ⟨b, rfl⟩ : ∃ b : Nat, y = b + 1 := ⟨(y - 1).toNat, by omega⟩
    rw [show ((a : Int) + 1 - 1).toNat = a by omega, show ((b : Int) + 1 - 1).toNat = b by omega]
    rw [List.getD_eq_getElem?_getD, List.getD_eq_getElem?_getD, tabV_get _ _ _ _ _ (by omega)]
    simp only [Option.getD_some]
    rw [rowV_get _ _ _ _ _ (by omega)]
    rfl
theorem tabF_P (k : Int) (ss : List Shp) (h i j : Nat) (x y : Int) (hxy : (x ≤ i ∧ y ≤ h) ∨ (x = (i : Int) + 1 ∧ y ≤ j ∧ j ≤ h)) : tabF (tabP k ss h i j) x y = val k ss x y := by
  unfold tabF
  split
  · rename_i h1; rw [val_lt k ss x y h1]
  · rename_i h1
    obtain ⟨a, rfl⟩ : ∃ a : Nat, x = a + 1 := ⟨(x - 1).toNat, by omega⟩
    obtain ⟨b, rfl⟩ : ∃ b : Nat, y = b + 1 := ⟨(y - 1).toNat, by omega⟩
    rw [show ((a : Int) + 1 - 1).toNat = a by omega, show ((b : Int) + 1 - 1).toNat = b by omega]
    rw [List.getD_eq_getElem?_getD, List.getD_eq_getElem?_getD]
    rcases hxy with ⟨p, q⟩ | ⟨p, q, r⟩
    · rw [tabP_get _ _ _ _ _ _ (by omega)]
      simp only [Option.getD_some]
      rw [rowV_get _ _ _ _ _ (by omega)]
      rfl
    · obtain rfl : a = i := by omega
      rw [tabP_last]
      simp [rowP, show b < h by omega, show b < j by omega]
theorem ways_tabP (k : Int) (ss : List Shp) (hk : 0 ≤ k) (h i j : Nat) (hj : j < h) : ways (tabF (tabP k ss h i j)) k ss ((i : Int) + 1) ((j : Int) + 1) = ways (val k ss) k ss ((i : Int) + 1) ((j : Int) + 1) :=
  ways_congr (by omega) (by omega) hk (fun x hx => tabF_P k ss h i j x _ (.inl ⟨by omega, by omega⟩)) (fun y hy => tabF_P k ss h i j _ y (.inr ⟨rfl, by omega, by omega⟩))
theorem ways_tabV (k : Int) (ss : List Shp) (hk : 0 ≤ k) (w h : Nat) (x y : Int) (hx : 1 ≤ x) (hxw : x ≤ w) (hy : 1 ≤ y) (hyh : y ≤ h) : ways (tabF (tabV k ss w h)) k ss x y = ways (val k ss) k ss x y :=
  ways_congr hx hy hk (fun x' hx => tabF_V k ss w h x' _ (by omega) (by omega)) (fun y' hy => tabF_V k ss w h _ y' (by omega) (by omega))
theorem tabF_mem (rows : List (List Int)) (b : Int) (hb : 0 ≤ b) (h : ∀ r ∈ rows, ∀ v ∈ r, 0 ≤ v ∧ v ≤ b) (x y : Int) : 0 ≤ tabF rows x y ∧ tabF rows x y ≤ b := by
  unfold tabF
  split
  · omega
  · rw [List.getD_eq_getElem?_getD, List.getD_eq_getElem?_getD]
    cases hr : rows[(x - 1).toNat]? with
    | none => simp; omega
    | some r =>
      simp only [Option.getD_some]
      cases hv : r[(y - 1).toNat]? with
      | none => simp; omega
      | some v => exact h r (List.mem_of_getElem? hr) v (List.mem_of_getElem? hv)
theorem tabV_small (k : Int) (ss : List Shp) (hk : 0 ≤ k) (hs : ∀ s ∈ ss, 1 ≤ s.W ∧ 1 ≤ s.H ∧ 0 ≤ s.V ∧ s.V ≤ 1000000) (w h : Nat) (hw : w ≤ 64) (hh : h ≤ 64) : ∀ r ∈ tabV k ss w h, ∀ v ∈ r, 0 ≤ v ∧ v ≤ 1000000000000 := by
  intro r hr v hv
  simp only [tabV, List.mem_map, List.mem_range] at hr
  obtain ⟨a, ha, rfl⟩ := hr
  simp only [rowV, List.mem_map, List.mem_range] at hv
  obtain ⟨b, hb, rfl⟩ := hv
  have := val_small k ss hk hs ((a : Int) + 1) ((b : Int) + 1) (by omega) (by omega)
  exact ⟨val_nonneg _ _ _ _, by omega⟩
theorem tabP_small (k : Int) (ss : List Shp) (hk : 0 ≤ k) (hs : ∀ s ∈ ss, 1 ≤ s.W ∧ 1 ≤ s.H ∧ 0 ≤ s.V ∧ s.V ≤ 1000000) (h i j : Nat) (hi : i < 64) (hh : h ≤ 64) : ∀ r ∈ tabP k ss h i j, ∀ v ∈ r, 0 ≤ v ∧ v ≤ 1000000000000 := by
  intro r hr v hv
  rcases List.mem_append.1 hr with hr | hr
  · exact tabV_small k ss hk hs i h (by omega) hh r hr v hv
  · simp only [List.mem_singleton] at hr
    subst hr
    simp only [rowP, List.mem_map, List.mem_range] at hv
    obtain ⟨b, hb, rfl⟩ := hv
    split
    · have := val_small k ss hk hs ((i : Int) + 1) ((b : Int) + 1) (by omega) (by omega)
      exact ⟨val_nonneg _ _ _ _, by omega⟩
    · omega
theorem panOk_ok {w h k : Int} {ss : List Shp} (hp : panOk w h k ss = true) : 1 ≤ w ∧ w ≤ 64 ∧ 1 ≤ h ∧ h ≤ 64 ∧ 0 ≤ k ∧ k ≤ 8 ∧ ss.length ≤ 16 ∧ ∀ s ∈ ss, (1 ≤ s.W ∧ s.W ≤ 64) ∧ (1 ≤ s.H ∧ s.H ≤ 64) ∧ 0 ≤ s.V ∧ s.V ≤ 1000000 := by
  simp only [panOk, inB, Bool.and_eq_true, decide_eq_true_eq, List.all_eq_true, shpOk] at hp
  obtain ⟨⟨⟨⟨⟨h1, h2⟩, h3, h4⟩, h5, h6⟩, h7⟩, h8⟩ := hp
  exact ⟨h1, h2, h3, h4, h5, h6, h7, fun s hs => by have := h8 s hs; omega⟩
end
section
theorem val_least (k : Int) (ss : List Shp) (hk : 0 ≤ k) (g : Int → Int → Int) (h0 : ∀ w h, 0 ≤ g w h)
    (hs : ∀ s ∈ ss, 1 ≤ s.W → 1 ≤ s.H → s.V ≤ g s.W s.H ∧ (s.T = true → s.V ≤ g s.H s.W))
    (ha : ∀ w h a, 1 ≤ w → 1 ≤ h → 1 ≤ a → a < w → g a h + g (w - a - k) h ≤ g w h)
    (hd : ∀ w h a, 1 ≤ w → 1 ≤ h → 1 ≤ a → a < h → g w a + g w (h - a - k) ≤ g w h) : ∀ (f : Nat) (w h : Int), w.toNat + h.toNat ≤ f → val k ss w h ≤ g w h := by
  intro f
  induction f with
  | zero =>
    intro w h hf
    rw [val_lt k ss w h (by omega)]
    exact h0 w h
  | succ f ih =>
    intro w h hf
    by_cases hlt : w < 1 ∨ h < 1
    · rw [val_lt k ss w h hlt]; exact h0 w h
    · obtain ⟨x, hx, he⟩ := most_mem (val k ss) k ss w h
      rw [← val_eq k ss hk w h (by omega) (by omega)] at he
      rw [← he]
      rcases (mem_ways _ k ss w h (by omega) (by omega) x).1 hx with rfl | ⟨j, s, hj, ⟨h1, h2, rfl⟩ | ⟨ht, h1, h2, rfl⟩⟩ | ⟨a, ha1, ha2, rfl⟩ | ⟨a, ha1, ha2, rfl⟩
      · exact h0 w h
      · have := (hs s (List.mem_of_getElem? hj) (by omega) (by omega)).1
        rwa [h1, h2] at this
      · have := (hs s (List.mem_of_getElem? hj) (by omega) (by omega)).2 ht
        rwa [h1, h2] at this
      · have i1 := ih a h (by omega)
        have i2 := ih (w - a - k) h (by omega)
        have := ha w h a (by omega) (by omega) ha1 ha2
        show val k ss a h + val k ss (w - a - k) h ≤ g w h
        omega
      · have i1 := ih w a (by omega)
        have i2 := ih w (h - a - k) (by omega)
        have := hd w h a (by omega) (by omega) ha1 ha2
        show val k ss w a + val k ss w (h - a - k) ≤ g w h
        omega

section
variable {k : Int} {ss : List Shp} (hk : 0 ≤ k)
include hk
theorem val_way {w h : Int} (hw : 1 ≤ w) (hh : 1 ≤ h) {x : Way} (hx : x ∈ ways (val k ss) k ss w h) : x.2 ≤ val k ss w h := by
  rw [val_eq k ss hk w h hw hh]
  exact most_ge _ _ hx
theorem val_shape {s : Shp} (hs : s ∈ ss) (hw : 1 ≤ s.W) (hh : 1 ≤ s.H) : s.V ≤ val k ss s.W s.H := by
  obtain ⟨j, hj⟩ := List.getElem?_of_mem hs
  exact val_way hk hw hh (x := ((1, (j : Int)), s.V)) ((mem_ways _ _ _ _ _ hw hh _).2 (.inr (.inl ⟨j, s, hj, .inl ⟨rfl, rfl, rfl⟩⟩)))
theorem val_shape_turned {s : Shp} (hs : s ∈ ss) (ht : s.T = true) (hw : 1 ≤ s.W) (hh : 1 ≤ s.H) : s.V ≤ val k ss s.H s.W := by
  obtain ⟨j, hj⟩ := List.getElem?_of_mem hs
  exact val_way hk hh hw (x := ((2, (j : Int)), s.V)) ((mem_ways _ _ _ _ _ hh hw _).2 (.inr (.inl ⟨j, s, hj, .inr ⟨ht, rfl, rfl, rfl⟩⟩)))
theorem val_across (w h a : Int) (hw : 1 ≤ w) (hh : 1 ≤ h) (ha : 1 ≤ a) (haw : a < w) : val k ss a h + val k ss (w - a - k) h ≤ val k ss w h :=
  val_way hk hw hh (x := ((3, a), _)) ((mem_ways _ _ _ _ _ hw hh _).2 (.inr (.inr (.inl ⟨a, ha, haw, rfl⟩))))
theorem val_down (w h a : Int) (hw : 1 ≤ w) (hh : 1 ≤ h) (ha : 1 ≤ a) (hah : a < h) : val k ss w a + val k ss w (h - a - k) ≤ val k ss w h :=
  val_way hk hw hh (x := ((4, a), _)) ((mem_ways _ _ _ _ _ hw hh _).2 (.inr (.inr (.inr ⟨a, ha, hah, rfl⟩))))
theorem val_wider (w w' h : Int) (h1 : w ≤ w') : val k ss w h ≤ val k ss w' h := by
  by_cases hlt : w < 1 ∨ h < 1
  · rw [val_lt k ss w h hlt]; exact val_nonneg _ _ _ _
  · by_cases he : w = w'
    · subst he; exact Int.le_refl _
    · have := val_across (ss := ss) hk w' h w (by omega) (by omega) (by omega) (by omega)
      have := val_nonneg k ss (w' - w - k) h
      omega
theorem val_higher (w h h' : Int) (h1 : h ≤ h') : val k ss w h ≤ val k ss w h' := by
  by_cases hlt : w < 1 ∨ h < 1
  · rw [val_lt k ss w h hlt]; exact val_nonneg _ _ _ _
  · by_cases he : h = h'
    · subst he; exact Int.le_refl _
    · have := val_down (ss := ss) hk w h' h (by omega) (by omega) (by omega) (by omega)
      have := val_nonneg k ss w (h' - h - k)
      omega
end
/-- Every shape of the one list has its like, turned, in the other: so has the value. -/
theorem val_flip_le (k : Int) (ss ss' : List Shp) (hk : 0 ≤ k) (h1 : ∀ s ∈ ss, ∃ s' ∈ ss', s'.V = s.V ∧ ((s'.W = s.H ∧ s'.H = s.W ∧ (s.T = true → s'.T = true)) ∨ (s'.W = s.W ∧ s'.H = s.H ∧ s'.T = true))) (w h : Int) :
    val k ss w h ≤ val k ss' h w := by
  refine val_least k ss hk (fun a b => val k ss' b a) (fun _ _ => val_nonneg _ _ _ _) (fun s hs hw hh => ?_) (fun w h a hw hh ha haw => val_down hk h w a hh hw ha haw) (fun w h a hw hh ha haw => val_across hk h w a hh hw ha haw) _ w h (Nat.le_refl _)
  obtain ⟨s', hs', e, ⟨e1, e2, e3⟩ | ⟨e1, e2, e3⟩⟩ := h1 s hs
  · have a1 := val_shape (ss := ss') hk hs' (by omega) (by omega)
    rw [e1, e2, e] at a1
    refine ⟨a1, fun ht => ?_⟩
    have a2 := val_shape_turned (ss := ss') hk hs' (e3 ht) (by omega) (by omega)
    rwa [e1, e2, e] at a2
  · have a1 := val_shape_turned (ss := ss') hk hs' e3 (by omega) (by omega)
    rw [e1, e2, e] at a1
    refine ⟨a1, fun _ => ?_⟩
    have a2 := val_shape (ss := ss') hk hs' (by omega) (by omega)
    rwa [e1, e2, e] at a2
/-- Less kerf, more shapes, freer shapes: no less value. -/
theorem val_more (k k' : Int) (ss ss' : List Shp) (hk' : 0 ≤ k') (hkk : k' ≤ k) (h1 : ∀ s ∈ ss, ∃ s' ∈ ss', s'.V = s.V ∧ s'.W = s.W ∧ s'.H = s.H ∧ (s.T = true → s'.T = true)) (w h : Int) :
    val k ss w h ≤ val k' ss' w h := by
  refine val_least k ss (by omega) (fun a b => val k' ss' a b) (fun _ _ => val_nonneg _ _ _ _) (fun s hs hw hh => ?_) (fun w h a hw hh ha haw => ?_) (fun w h a hw hh ha haw => ?_) _ w h (Nat.le_refl _)
  · obtain ⟨s', hs', e, e1, e2, e3⟩ := h1 s hs
    have a1 := val_shape (ss := ss') hk' hs' (by omega) (by omega)
    rw [e1, e2, e] at a1
    refine ⟨a1, fun ht => ?_⟩
    have a2 := val_shape_turned (ss := ss') hk' hs' (e3 ht) (by omega) (by omega)
    rwa [e1, e2, e] at a2
  · have b1 := val_across (ss := ss') hk' w h a hw hh ha haw
    have b2 := val_wider (ss := ss') hk' (w - a - k) (w - a - k') h (by omega)
    show val k' ss' a h + val k' ss' (w - a - k) h ≤ val k' ss' w h
    omega
  · have b1 := val_down (ss := ss') hk' w h a hw hh ha haw
    have b2 := val_higher (ss := ss') hk' w (h - a - k) (h - a - k') (by omega)
    show val k' ss' w a + val k' ss' w (h - a - k) ≤ val k' ss' w h
    omega
end
section
def fitsB (w h : Int) (s : Shp) : Bool := (decide (s.W ≤ w) && decide (s.H ≤ h)) || (s.T && decide (s.H ≤ w) && decide (s.W ≤ h))
def ceilS (w h m : Int) (s : Shp) : Int := if fitsB w h s = true then max m (w * h * s.V / (s.W * s.H)) else m
def ceilF (w h : Int) (m : Int) (l : List Shp) : Int := l.foldl (ceilS w h) m
def ceilV (w h : Int) (ss : List Shp) : Int := ceilF w h 0 ss
theorem ceilS_ge (w h m : Int) (s : Shp) : m ≤ ceilS w h m s := by
  unfold ceilS; split <;> omega
theorem ceilF_ge (w h : Int) (l : List Shp) : ∀ m, m ≤ ceilF w h m l := by
  induction l with
  | nil => intro m; exact Int.le_refl _
  | cons a r ih =>
    intro m
    have := ih (ceilS w h m a)
    have := ceilS_ge w h m a
    show m ≤ ceilF w h (ceilS w h m a) r
    omega
theorem ceilF_mem (w h : Int) (l : List Shp) : ∀ m, ∀ s ∈ l, fitsB w h s = true → w * h * s.V / (s.W * s.H) ≤ ceilF w h m l := by
  induction l with
  | nil => intro m s hs; cases hs
  | cons a r ih =>
    intro m s hs hf
    show _ ≤ ceilF w h (ceilS w h m a) r
    rcases List.mem_cons.1 hs with rfl | hs
    · have := ceilF_ge w h r (ceilS w h m s)
      have h2 : w * h * s.V / (s.W * s.H) ≤ ceilS w h m s := by unfold ceilS; rw [if_pos hf]; omega
      omega
    · exact ih _ s hs hf
theorem ceil_take (w h : Int) (l : List Shp) (k : Nat) (x : Shp) (hx : l[k]? = some x) : ceilV w h (l.take (k + 1)) = ceilS w h (ceilV w h (l.take k)) x := by
  obtain ⟨hk, rfl⟩ := List.getElem?_eq_some_iff.1 hx
  unfold ceilV ceilF
  rw [List.take_succ_eq_append_getElem hk, List.foldl_append]
  rfl
theorem mul_bd {a b m n : Int} (ha : 0 ≤ a) (hb : 0 ≤ b) (ham : a ≤ m) (hbn : b ≤ n) : 0 ≤ a * b ∧ a * b ≤ m * n := ⟨Int.mul_nonneg ha hb, Int.mul_le_mul ham hbn hb (by omega)⟩
theorem quo_bd {w h V W H : Int} (hw : 1 ≤ w ∧ w ≤ 64) (hh : 1 ≤ h ∧ h ≤ 64) (hV : 0 ≤ V ∧ V ≤ 1000000) (hW : 1 ≤ W) (hH : 1 ≤ H) : 0 ≤ w * h * V / (W * H) ∧ w * h * V / (W * H) ≤ 4096000000 := by
  have h1 := mul_bd (a := w) (b := h) (by omega) (by omega) hw.2 hh.2
  have h2 := mul_bd (a := w * h) (b := V) h1.1 hV.1 h1.2 hV.2
  have h3 : 1 ≤ W * H := by have := Int.mul_le_mul hW hH (by omega) (by omega); simpa using this
  exact ⟨Int.ediv_nonneg h2.1 (by omega), Int.le_trans (Int.ediv_le_self _ h2.1) (by omega)⟩
theorem ceilS_bd {w h m : Int} {s : Shp} (hw : 1 ≤ w ∧ w ≤ 64) (hh : 1 ≤ h ∧ h ≤ 64) (hs : (1 ≤ s.W ∧ s.W ≤ 64) ∧ (1 ≤ s.H ∧ s.H ≤ 64) ∧ 0 ≤ s.V ∧ s.V ≤ 1000000) (hm : 0 ≤ m ∧ m ≤ 4096000000) : 0 ≤ ceilS w h m s ∧ ceilS w h m s ≤ 4096000000 := by
  have := quo_bd (V := s.V) hw hh hs.2.2 hs.1.1 hs.2.1.1
  unfold ceilS; split <;> omega
theorem ceilF_bd {w h : Int} (hw : 1 ≤ w ∧ w ≤ 64) (hh : 1 ≤ h ∧ h ≤ 64) (l : List Shp) (hs : ∀ s ∈ l, (1 ≤ s.W ∧ s.W ≤ 64) ∧ (1 ≤ s.H ∧ s.H ≤ 64) ∧ 0 ≤ s.V ∧ s.V ≤ 1000000) : ∀ m, 0 ≤ m ∧ m ≤ 4096000000 → 0 ≤ ceilF w h m l ∧ ceilF w h m l ≤ 4096000000 := by
  induction l with
  | nil => intro m hm; exact hm
  | cons a r ih =>
    intro m hm
    exact ih (fun s h => hs s (by simp [h])) _ (ceilS_bd hw hh (hs a (by simp)) hm)
theorem val_ceil (k : Int) (ss : List Shp) (hk : 0 ≤ k) {w h : Int} (hw : 1 ≤ w ∧ w ≤ 64) (hh : 1 ≤ h ∧ h ≤ 64) (hs : ∀ s ∈ ss, (1 ≤ s.W ∧ s.W ≤ 64) ∧ (1 ≤ s.H ∧ s.H ≤ 64) ∧ 0 ≤ s.V ∧ s.V ≤ 1000000) : val k ss w h ≤ ceilV w h ss := by
  obtain ⟨M, hM⟩ : ∃ M, ceilV w h ss = M := ⟨_, rfl⟩
  have hM0 : 0 ≤ M := by rw [← hM]; exact ceilF_ge w h ss 0
  have hwh : 1 ≤ w * h := by have := Int.mul_le_mul hw.1 hh.1 (by omega) (by omega); simpa using this
  have key := val_area k ss hk (w * h * 4096) ((M + 1) * 4096 - 1) w h (by omega) (fun s hs' hf => by
    obtain ⟨⟨a1, a2⟩, ⟨b1, b2⟩, c1, c2⟩ := hs s hs'
    have hfb : fitsB w h s = true := by
      rcases hf with ⟨f1, f2⟩ | ⟨f0, f1, f2⟩
      · simp [fitsB, f1, f2]
      · simp [fitsB, f0, f1, f2]
    have h1 := ceilF_mem w h ss 0 s hs' hfb
    rw [show ceilF w h 0 ss = M from hM] at h1
    have hD : 1 ≤ s.W * s.H := by have := Int.mul_le_mul a1 b1 (by omega) (by omega); simpa using this
    have hD2 : s.W * s.H ≤ 64 * 64 := Int.mul_le_mul a2 b2 (by omega) (by omega)
    have h2 : w * h * s.V < (M + 1) * (s.W * s.H) := by
      have := Int.lt_mul_of_ediv_lt (by omega) (show w * h * s.V / (s.W * s.H) < M + 1 by omega)
      exact this
    generalize s.W * s.H = D at *
    have e1 : s.V * (w * h * 4096) = w * h * s.V * 4096 := by rw [← Int.mul_assoc, Int.mul_comm s.V (w * h)]
    have e2 : ((M + 1) * 4096 - 1) * D = (M + 1) * D * 4096 - D := by rw [Int.sub_mul, Int.one_mul, Int.mul_assoc, Int.mul_comm 4096 D, ← Int.mul_assoc]
    rw [e1, e2]
    omega) _ w h (Nat.le_refl _) (by omega) (by omega) (Int.le_refl _) (Int.le_refl _)
  rw [hM]
  have e3 : val k ss w h * (w * h * 4096) = val k ss w h * 4096 * (w * h) := by rw [Int.mul_comm (w * h) 4096, ← Int.mul_assoc]
  rw [e3] at key
  have := Int.le_of_mul_le_mul_right key (by omega)
  omega

def okWants (l : List Int) : Bool := l.all fun n => inB n 0 1000000
def areaV : List Shp → List Int → Int
  | s :: ss, n :: ns => s.W * s.H * n + areaV ss ns
  | _, _ => 0
def fitAll (w h : Int) : List Shp → List Int → Bool
  | s :: ss, n :: ns => (decide (n ≤ 0) || fitsB w h s) && fitAll w h ss ns
  | _, _ => true
theorem areaV_take : ∀ (ss : List Shp) (ns : List Int) (k : Nat) (s : Shp) (n : Int), ss[k]? = some s → ns[k]? = some n → areaV (ss.take (k + 1)) (ns.take (k + 1)) = areaV (ss.take k) (ns.take k) + s.W * s.H * n
  | [], ns, k, s, n, hs, _ => by simp at hs
  | a :: r, [], k, s, n, _, hn => by simp at hn
  | a :: r, b :: q, 0, s, n, hs, hn => by
    simp at hs hn; subst hs hn
    simp [areaV]
  | a :: r, b :: q, k + 1, s, n, hs, hn => by
    have ih := areaV_take r q k s n (by simpa using hs) (by simpa using hn)
    simp only [List.take_succ_cons, areaV] at *
    omega
theorem fitAll_take (w h : Int) : ∀ (ss : List Shp) (ns : List Int) (k : Nat) (s : Shp) (n : Int), ss[k]? = some s → ns[k]? = some n → fitAll w h (ss.take (k + 1)) (ns.take (k + 1)) = (fitAll w h (ss.take k) (ns.take k) && (decide (n ≤ 0) || fitsB w h s))
  | [], ns, k, s, n, hs, _ => by simp at hs
  | a :: r, [], k, s, n, _, hn => by simp at hn
  | a :: r, b :: q, 0, s, n, hs, hn => by
    simp at hs hn; subst hs hn
    simp [fitAll]
  | a :: r, b :: q, k + 1, s, n, hs, hn => by
    have ih := fitAll_take w h r q k s n (by simpa using hs) (by simpa using hn)
    simp only [List.take_succ_cons, fitAll] at *
    rw [ih, Bool.and_assoc]
theorem fitAll_false (w h : Int) : ∀ (ss : List Shp) (ns : List Int) (k : Nat) (s : Shp) (n : Int), ss[k]? = some s → ns[k]? = some n → (decide (n ≤ 0) || fitsB w h s) = false → fitAll w h ss ns = false
  | [], ns, k, s, n, hs, _, _ => by simp at hs
  | a :: r, [], k, s, n, _, hn, _ => by simp at hn
  | a :: r, b :: q, 0, s, n, hs, hn, h0 => by
    simp at hs hn; subst hs hn
    simp only [fitAll, h0, Bool.false_and]
  | a :: r, b :: q, k + 1, s, n, hs, hn, h0 => by
    have ih := fitAll_false w h r q k s n (by simpa using hs) (by simpa using hn) h0
    simp only [fitAll, ih, Bool.and_false]
theorem areaV_bd : ∀ (ss : List Shp) (ns : List Int), (∀ s ∈ ss, (1 ≤ s.W ∧ s.W ≤ 64) ∧ (1 ≤ s.H ∧ s.H ≤ 64)) → (∀ n ∈ ns, 0 ≤ n ∧ n ≤ 1000000) → 0 ≤ areaV ss ns ∧ areaV ss ns ≤ 4096000000 * ss.length
  | [], ns, _, _ => by simp [areaV]
  | a :: r, [], _, _ => by simp [areaV]; omega
  | a :: r, b :: q, hs, hn => by
    have ih := areaV_bd r q (fun s h => hs s (by simp [h])) (fun n h => hn n (by simp [h]))
    obtain ⟨⟨a1, a2⟩, b1, b2⟩ := hs a (by simp)
    obtain ⟨c1, c2⟩ := hn b (by simp)
    have h1 := mul_bd (a := a.W) (b := a.H) (by omega) (by omega) a2 b2
    have h2 := mul_bd h1.1 c1 h1.2 c2
    simp only [areaV, List.length_cons]
    omega
end
section
structure Pc where
  X : Int
  Y : Int
  W : Int
  H : Int
  S : Int
abbrev Cuts := List (Int × Int)
def rdAs (w h : Int) (s : Shp) (t : Bool) : Bool := if t then s.T && (s.H == w) && (s.W == h) else (s.W == w) && (s.H == h)
def rdSh (ss : List Shp) (a w h : Int) (t : Bool) : Bool := if 0 ≤ a then (match ss[a.toNat]? with | some s => rdAs w h s t | none => false) else false
def rd (k : Int) (ss : List Shp) : Nat → Int → Int → Int → Int → Cuts → Option (Cuts × List Pc)
  | 0, _, _, _, _, _ => none
  | _ + 1, _, _, _, _, [] => none
  | f + 1, x, y, w, h, (c, a) :: r =>
    if c = 0 then (if a = 0 then some (r, []) else none)
    else if c = 1 then (if rdSh ss a w h false = true then some (r, [⟨x, y, w, h, a⟩]) else none)
    else if c = 2 then (if rdSh ss a w h true = true then some (r, [⟨x, y, w, h, a⟩]) else none)
    else if c = 3 then (if 1 ≤ a ∧ a < w then (rd k ss f x y a h r).bind fun q => if 1 ≤ w - a - k then (rd k ss f (x + a + k) y (w - a - k) h q.1).map fun u => (u.1, q.2 ++ u.2) else some q else none)
    else if c = 4 then (if 1 ≤ a ∧ a < h then (rd k ss f x y w a r).bind fun q => if 1 ≤ h - a - k then (rd k ss f x (y + a + k) w (h - a - k) q.1).map fun u => (u.1, q.2 ++ u.2) else some q else none)
    else none
/-- A plan read: from a rectangle at a place, l is read down to l', and yields p. -/
inductive Rd (k : Int) (ss : List Shp) : Int → Int → Int → Int → Cuts → Cuts → List Pc → Prop
  | waste (x y w h : Int) (r : Cuts) : Rd k ss x y w h ((0, 0) :: r) r []
  | shape (x y w h : Int) (r : Cuts) (a : Nat) (s : Shp) (t : Bool) (c : Int) (hc : c = 1 ∧ t = false ∨ c = 2 ∧ t = true) (hs : ss[a]? = some s) (ha : rdAs w h s t = true) : Rd k ss x y w h ((c, (a : Int)) :: r) r [⟨x, y, w, h, a⟩]
  | across1 (x y w h a : Int) (r l1 : Cuts) (p1 : List Pc) (h1 : 1 ≤ a) (h2 : a < w) (h3 : w - a - k < 1) (i1 : Rd k ss x y a h r l1 p1) : Rd k ss x y w h ((3, a) :: r) l1 p1
  | across2 (x y w h a : Int) (r l1 l2 : Cuts) (p1 p2 : List Pc) (h1 : 1 ≤ a) (h2 : a < w) (h3 : 1 ≤ w - a - k) (i1 : Rd k ss x y a h r l1 p1) (i2 : Rd k ss (x + a + k) y (w - a - k) h l1 l2 p2) : Rd k ss x y w h ((3, a) :: r) l2 (p1 ++ p2)
  | down1 (x y w h a : Int) (r l1 : Cuts) (p1 : List Pc) (h1 : 1 ≤ a) (h2 : a < h) (h3 : h - a - k < 1) (i1 : Rd k ss x y w a r l1 p1) : Rd k ss x y w h ((4, a) :: r) l1 p1
  | down2 (x y w h a : Int) (r l1 l2 : Cuts) (p1 p2 : List Pc) (h1 : 1 ≤ a) (h2 : a < h) (h3 : 1 ≤ h - a - k) (i1 : Rd k ss x y w a r l1 p1) (i2 : Rd k ss x (y + a + k) w (h - a - k) l1 l2 p2) : Rd k ss x y w h ((4, a) :: r) l2 (p1 ++ p2)
theorem rdSh_some {ss : List Shp} {a w h : Int} {t : Bool} (hh : rdSh ss a w h t = true) : ∃ (i : Nat) (s : Shp), a = (i : Int) ∧ ss[i]? = some s ∧ rdAs w h s t = true := by
  unfold rdSh at hh
  split at hh
  · cases hs : ss[a.toNat]? with
    | none => rw [hs] at hh; cases hh
    | some s => rw [hs] at hh; exact ⟨a.toNat, s, by omega, hs, hh⟩
  · cases hh
theorem rd_Rd (k : Int) (ss : List Shp) : ∀ (f : Nat) (x y w h : Int) (l l' : Cuts) (p : List Pc), rd k ss f x y w h l = some (l', p) → Rd k ss x y w h l l' p := by
  intro f
  induction f with
  | zero => intro x y w h l l' p hh; simp [rd] at hh
  | succ f ih =>
    intro x y w h l l' p hh
    match l with
    | [] => simp [rd] at hh
    | (c, a) :: r =>
      simp only [rd] at hh
      by_cases c0 : c = 0
      · subst c0
        simp only [if_true] at hh
        by_cases a0 : a = 0
        · subst a0
          simp only [if_true, Option.some.injEq, Prod.mk.injEq] at hh
          obtain ⟨rfl, rfl⟩ := hh
          exact .waste x y w h r
        · simp [a0] at hh
      rw [if_neg c0] at hh
      by_cases c1 : c = 1
      · subst c1
        simp only [if_true] at hh
        split at hh
        · rename_i hs
          obtain ⟨i, s, rfl, hs1, hs2⟩ := rdSh_some hs
          simp only [Option.some.injEq, Prod.mk.injEq] at hh
          obtain ⟨rfl, rfl⟩ := hh
          exact .shape x y w h r i s false 1 (.inl ⟨rfl, rfl⟩) hs1 hs2
        · cases hh
      rw [if_neg c1] at hh
      by_cases c2 : c = 2
      · subst c2
        simp only [if_true] at hh
        split at hh
        · rename_i hs
          obtain ⟨i, s, rfl, hs1, hs2⟩ := rdSh_some hs
          simp only [Option.some.injEq, Prod.mk.injEq] at hh
          obtain ⟨rfl, rfl⟩ := hh
          exact .shape x y w h r i s true 2 (.inr ⟨rfl, rfl⟩) hs1 hs2
        · cases hh
      rw [if_neg c2] at hh
      by_cases c3 : c = 3
      · subst c3
        simp only [if_true] at hh
        split at hh
        · rename_i ha
          cases h1 : rd k ss f x y a h r with
          | none => rw [h1] at hh; cases hh
          | some q =>
            obtain ⟨l1, p1⟩ := q
            rw [h1] at hh
            simp only [Option.bind_some] at hh
            split at hh
            · rename_i hr
              cases h2 : rd k ss f (x + a + k) y (w - a - k) h l1 with
              | none => rw [h2] at hh; cases hh
              | some u =>
                obtain ⟨l2, p2⟩ := u
                rw [h2] at hh
                simp only [Option.map_some, Option.some.injEq, Prod.mk.injEq] at hh
                obtain ⟨rfl, rfl⟩ := hh
                exact .across2 x y w h a r l1 _ p1 p2 ha.1 ha.2 hr (ih _ _ _ _ _ _ _ h1) (ih _ _ _ _ _ _ _ h2)
            · rename_i hr
              simp only [Option.some.injEq, Prod.mk.injEq] at hh
              obtain ⟨rfl, rfl⟩ := hh
              exact .across1 x y w h a r _ _ ha.1 ha.2 (by omega) (ih _ _ _ _ _ _ _ h1)
        · cases hh
      rw [if_neg c3] at hh
      by_cases c4 : c = 4
      · subst c4
        simp only [if_true] at hh
        split at hh
        · rename_i ha
          cases h1 : rd k ss f x y w a r with
          | none => rw [h1] at hh; cases hh
          | some q =>
            obtain ⟨l1, p1⟩ := q
            rw [h1] at hh
            simp only [Option.bind_some] at hh
            split at hh
            · rename_i hr
              cases h2 : rd k ss f x (y + a + k) w (h - a - k) l1 with
              | none => rw [h2] at hh; cases hh
              | some u =>
                obtain ⟨l2, p2⟩ := u
                rw [h2] at hh
                simp only [Option.map_some, Option.some.injEq, Prod.mk.injEq] at hh
                obtain ⟨rfl, rfl⟩ := hh
                exact .down2 x y w h a r l1 _ p1 p2 ha.1 ha.2 hr (ih _ _ _ _ _ _ _ h1) (ih _ _ _ _ _ _ _ h2)
            · rename_i hr
              simp only [Option.some.injEq, Prod.mk.injEq] at hh
              obtain ⟨rfl, rfl⟩ := hh
              exact .down1 x y w h a r _ _ ha.1 ha.2 (by omega) (ih _ _ _ _ _ _ _ h1)
        · cases hh
      rw [if_neg c4] at hh
      cases hh
theorem Rd.len {k : Int} {ss : List Shp} {x y w h : Int} {l l' : Cuts} {p : List Pc} (hr : Rd k ss x y w h l l' p) : l'.length < l.length ∧ p.length + l'.length ≤ l.length := by
  induction hr with
  | waste => simp
  | shape => simp; omega
  | across1 x y w h a r l1 p1 h1 h2 h3 i1 j1 => simp; omega
  | across2 x y w h a r l1 l2 p1 p2 h1 h2 h3 i1 i2 j1 j2 => simp; omega
  | down1 x y w h a r l1 p1 h1 h2 h3 i1 j1 => simp; omega
  | down2 x y w h a r l1 l2 p1 p2 h1 h2 h3 i1 i2 j1 j2 => simp; omega
theorem rdSh_eq {ss : List Shp} {a : Nat} {s : Shp} (hs : ss[a]? = some s) (w h : Int) (t : Bool) : rdSh ss (a : Int) w h t = rdAs w h s t := by
  unfold rdSh
  rw [if_pos (by omega), Int.toNat_natCast, hs]
theorem rdSh_out {ss : List Shp} {a w h : Int} {t : Bool} (ha : ¬ (0 ≤ a ∧ a < (ss.length : Int))) : rdSh ss a w h t = false := by
  unfold rdSh
  split
  · rw [List.getElem?_eq_none (by omega)]
  · rfl
theorem rd_shape {ss : List Shp} {a : Nat} {s : Shp} (hs : ss[a]? = some s) {w h : Int} {t : Bool} (ha : rdAs w h s t = true) : rdSh ss (a : Int) w h t = true := by
  unfold rdSh
  rw [if_pos (by omega), Int.toNat_natCast, hs]
  exact ha
theorem Rd.rd {k : Int} {ss : List Shp} {x y w h : Int} {l l' : Cuts} {p : List Pc} (hr : Rd k ss x y w h l l' p) : ∀ f, l.length < f → rd k ss f x y w h l = some (l', p) := by
  induction hr with
  | waste => intro f hf; cases f with
    | zero => omega
    | succ f => simp [Go.Proofs.YtndcijkgaadpgaaGreatDoor.rd]
  | shape x y w h r a s t c hc hs ha => intro f hf; cases f with
    | zero => omega
    | succ f =>
      rcases hc with ⟨rfl, rfl⟩ | ⟨rfl, rfl⟩
      · simp [Go.Proofs.YtndcijkgaadpgaaGreatDoor.rd, rd_shape hs ha]
      · simp [Go.Proofs.YtndcijkgaadpgaaGreatDoor.rd, rd_shape hs ha]
  | across1 x y w h a r l1 p1 h1 h2 h3 i1 j1 => intro f hf; cases f with
    | zero => omega
    | succ f =>
      simp only [List.length_cons] at hf
      have := j1 f (by omega)
      simp only [Go.Proofs.YtndcijkgaadpgaaGreatDoor.rd, if_neg (show ¬ (3 : Int) = 0 by omega), if_neg (show ¬ (3 : Int) = 1 by omega), if_neg (show ¬ (3 : Int) = 2 by omega), if_true, if_pos (show 1 ≤ a ∧ a < w from ⟨h1, h2⟩), this, Option.bind_some, if_neg (show ¬ 1 ≤ w - a - k by omega)]
  | across2 x y w h a r l1 l2 p1 p2 h1 h2 h3 i1 i2 j1 j2 => intro f hf; cases f with
    | zero => omega
    | succ f =>
      simp only [List.length_cons] at hf
      have h4 := j1 f (by omega)
      have h5 := j2 f (by have := i1.len; omega)
      simp only [Go.Proofs.YtndcijkgaadpgaaGreatDoor.rd, if_neg (show ¬ (3 : Int) = 0 by omega), if_neg (show ¬ (3 : Int) = 1 by omega), if_neg (show ¬ (3 : Int) = 2 by omega), if_true, if_pos (show 1 ≤ a ∧ a < w from ⟨h1, h2⟩), h4, Option.bind_some, if_pos h3, h5, Option.map_some]
  | down1 x y w h a r l1 p1 h1 h2 h3 i1 j1 => intro f hf; cases f with
    | zero => omega
    | succ f =>
      simp only [List.length_cons] at hf
      have := j1 f (by omega)
      simp only [Go.Proofs.YtndcijkgaadpgaaGreatDoor.rd, if_neg (show ¬ (4 : Int) = 0 by omega), if_neg (show ¬ (4 : Int) = 1 by omega), if_neg (show ¬ (4 : Int) = 2 by omega), if_neg (show ¬ (4 : Int) = 3 by omega), if_true, if_pos (show 1 ≤ a ∧ a < h from ⟨h1, h2⟩), this, Option.bind_some, if_neg (show ¬ 1 ≤ h - a - k by omega)]
  | down2 x y w h a r l1 l2 p1 p2 h1 h2 h3 i1 i2 j1 j2 => intro f hf; cases f with
    | zero => omega
    | succ f =>
      simp only [List.length_cons] at hf
      have h4 := j1 f (by omega)
      have h5 := j2 f (by have := i1.len; omega)
      simp only [Go.Proofs.YtndcijkgaadpgaaGreatDoor.rd, if_neg (show ¬ (4 : Int) = 0 by omega), if_neg (show ¬ (4 : Int) = 1 by omega), if_neg (show ¬ (4 : Int) = 2 by omega), if_neg (show ¬ (4 : Int) = 3 by omega), if_true, if_pos (show 1 ≤ a ∧ a < h from ⟨h1, h2⟩), h4, Option.bind_some, if_pos h3, h5, Option.map_some]
theorem rd_none (k : Int) (ss : List Shp) {f g : Nat} {x y w h : Int} {l : Cuts} (hf : l.length < f) (hg : l.length < g) : rd k ss f x y w h l = rd k ss g x y w h l := by
  cases h1 : rd k ss f x y w h l with
  | some q => rw [((rd_Rd k ss f x y w h l q.1 q.2 h1).rd g hg)]
  | none =>
    cases h2 : rd k ss g x y w h l with
    | none => rfl
    | some q => rw [((rd_Rd k ss g x y w h l q.1 q.2 h2).rd f hf)] at h1; cases h1

/-! ### what pieces are worth, and their area -/
def pcVal (ss : List Shp) (q : Pc) : Int := match ss[q.S.toNat]? with | some s => s.V | none => 0
def worthP (ss : List Shp) (p : List Pc) : Int := p.foldl (fun m q => m + pcVal ss q) 0
def areaP (p : List Pc) : Int := p.foldl (fun m q => m + q.W * q.H) 0
theorem foldl_add {α : Type} (g : α → Int) (l : List α) : ∀ m, l.foldl (fun m q => m + g q) m = m + l.foldl (fun m q => m + g q) 0 := by
  induction l with
  | nil => intro m; simp
  | cons a r ih =>
    intro m
    simp only [List.foldl_cons]
    rw [ih (m + g a), ih (0 + g a)]
    omega
theorem worthP_append (ss : List Shp) (p q : List Pc) : worthP ss (p ++ q) = worthP ss p + worthP ss q := by
  unfold worthP; rw [List.foldl_append, foldl_add]
theorem areaP_append (p q : List Pc) : areaP (p ++ q) = areaP p + areaP q := by
  unfold areaP; rw [List.foldl_append, foldl_add]
theorem rdAs_eq {w h : Int} {s : Shp} {t : Bool} (ha : rdAs w h s t = true) : (t = false ∧ s.W = w ∧ s.H = h) ∨ (t = true ∧ s.T = true ∧ s.H = w ∧ s.W = h) := by
  cases t
  · simp [rdAs] at ha; exact .inl ⟨rfl, ha⟩
  · simp [rdAs] at ha; exact .inr ⟨rfl, ha.1.1, ha.1.2, ha.2⟩
theorem Rd.worth {k : Int} {ss : List Shp} (hk : 0 ≤ k) {x y w h : Int} {l l' : Cuts} {p : List Pc} (hr : Rd k ss x y w h l l' p) (hw : 1 ≤ w) (hh : 1 ≤ h) : worthP ss p ≤ val k ss w h := by
  induction hr with
  | waste => exact val_nonneg _ _ _ _
  | shape x y w h r a s t c hc hs ha =>
    have e : worthP ss [⟨x, y, w, h, (a : Int)⟩] = s.V := by simp [worthP, pcVal, hs]
    rw [e]
    rcases rdAs_eq ha with ⟨_, e1, e2⟩ | ⟨_, e0, e1, e2⟩
    · have := val_shape hk (List.mem_of_getElem? hs) (by omega) (by omega)
      rw [e1, e2] at this; exact this
    · have := val_shape_turned hk (List.mem_of_getElem? hs) e0 (by omega) (by omega)
      rw [e1, e2] at this; exact this
  | across1 x y w h a r l1 p1 h1 h2 h3 i1 j1 =>
    have := j1 h1 hh
    have := val_wider (ss := ss) hk a w h (by omega)
    omega
  | across2 x y w h a r l1 l2 p1 p2 h1 h2 h3 i1 i2 j1 j2 =>
    have := j1 h1 hh
    have := j2 h3 hh
    have := val_across (ss := ss) hk w h a hw hh h1 h2
    rw [worthP_append]; omega
  | down1 x y w h a r l1 p1 h1 h2 h3 i1 j1 =>
    have := j1 hw h1
    have := val_higher (ss := ss) hk w a h (by omega)
    omega
  | down2 x y w h a r l1 l2 p1 p2 h1 h2 h3 i1 i2 j1 j2 =>
    have := j1 hw h1
    have := j2 hw h3
    have := val_down (ss := ss) hk w h a hw hh h1 h2
    rw [worthP_append]; omega
end
section
theorem shWs_get {w h : Int} {x : Way} : ∀ (ss : List Shp) (i : Nat), x ∈ shWs w h i ss → ∃ (j : Nat) (s : Shp) (t : Bool) (c : Int), ss[j]? = some s ∧ rdAs w h s t = true ∧ (c = 1 ∧ t = false ∨ c = 2 ∧ t = true) ∧ x = ((c, ((i + j : Nat) : Int)), s.V)
  | [], i, hx => by simp [shWs] at hx
  | s :: r, i, hx => by
    simp only [shWs, List.mem_append] at hx
    rcases hx with hx | hx
    · simp only [shW, List.mem_append] at hx
      rcases hx with hx | hx
      · split at hx
        · rename_i hc
          simp only [List.mem_singleton] at hx
          exact ⟨0, s, false, 1, by simp, by simp [rdAs, hc.1, hc.2], .inl ⟨rfl, rfl⟩, by simpa using hx⟩
        · simp at hx
      · split at hx
        · rename_i hc
          simp only [List.mem_singleton] at hx
          exact ⟨0, s, true, 2, by simp, by simp [rdAs, hc.1, hc.2.1, hc.2.2], .inr ⟨rfl, rfl⟩, by simpa using hx⟩
        · simp at hx
    · obtain ⟨j, s', t, c, h1, h2, h3, h4⟩ := shWs_get r (i + 1) hx
      exact ⟨j + 1, s', t, c, by simpa using h1, h2, h3, by rw [h4]; congr 3; omega⟩
/-- The best plan of a rectangle reads, whatever stands behind it, and is worth the greatest value. -/
theorem planL_Rd (k : Int) (ss : List Shp) (hk : 0 ≤ k) : ∀ (f : Nat) (x y w h : Int) (r : Cuts), w.toNat + h.toNat ≤ f → 1 ≤ w → 1 ≤ h → ∃ p, Rd k ss x y w h (planL k ss w h ++ r) r p ∧ worthP ss p = val k ss w h := by
  intro f
  induction f with
  | zero => intro x y w h r hf hw hh; omega
  | succ f ih =>
    intro x y w h r hf hw hh
    obtain ⟨⟨⟨c, a⟩, v⟩, hp, hm, hv⟩ := pick_some k ss hk w h hw hh
    rw [planL_eq k ss hk w h hw hh hp, ← hv]
    dsimp only
    unfold ways at hm
    rcases List.mem_cons.1 hm with h0 | hm
    · simp only [Prod.mk.injEq] at h0
      obtain ⟨⟨rfl, rfl⟩, rfl⟩ := h0
      exact ⟨[], by simpa using Rd.waste x y w h r, rfl⟩
    rcases List.mem_append.1 hm with hm | hm
    · obtain ⟨j, s, t, c', h1, h2, h3, h4⟩ := shWs_get ss 0 hm
      simp only [Prod.mk.injEq, Nat.zero_add] at h4
      obtain ⟨⟨rfl, rfl⟩, rfl⟩ := h4
      refine ⟨[⟨x, y, w, h, (j : Int)⟩], ?_, by simp [worthP, pcVal, h1]⟩
      have hsh := Rd.shape (k := k) x y w h r j s t c h3 h1 h2
      rcases h3 with ⟨rfl, _⟩ | ⟨rfl, _⟩ <;> simpa using hsh
    rcases List.mem_append.1 hm with hm | hm
    · simp only [acW, List.mem_map, List.mem_range] at hm
      obtain ⟨b, hb, h4⟩ := hm
      simp only [Prod.mk.injEq] at h4
      obtain ⟨⟨rfl, rfl⟩, rfl⟩ := h4
      simp only [if_true]
      by_cases hr : 1 ≤ w - ((b : Int) + 1) - k
      · obtain ⟨p2, i2, e2⟩ := ih (x + ((b : Int) + 1) + k) y (w - ((b : Int) + 1) - k) h r (by omega) hr hh
        obtain ⟨p1, i1, e1⟩ := ih x y ((b : Int) + 1) h (planL k ss (w - ((b : Int) + 1) - k) h ++ r) (by omega) (by omega) hh
        refine ⟨p1 ++ p2, ?_, by rw [worthP_append, e1, e2]⟩
        have := Rd.across2 x y w h ((b : Int) + 1) _ _ _ _ _ (by omega) (by omega) hr i1 i2
        simpa using this
      · obtain ⟨p1, i1, e1⟩ := ih x y ((b : Int) + 1) h r (by omega) (by omega) hh
        refine ⟨p1, ?_, by rw [e1, val_lt k ss (w - ((b : Int) + 1) - k) h (by omega)]; omega⟩
        rw [planL_lt k ss (w - ((b : Int) + 1) - k) h (by omega), List.append_nil]
        exact Rd.across1 x y w h ((b : Int) + 1) _ _ _ (by omega) (by omega) (by omega) i1
    · simp only [dnW, List.mem_map, List.mem_range] at hm
      obtain ⟨b, hb, h4⟩ := hm
      simp only [Prod.mk.injEq] at h4
      obtain ⟨⟨rfl, rfl⟩, rfl⟩ := h4
      simp only [if_neg (show ¬ (4 : Int) = 3 by omega), if_true]
      by_cases hr : 1 ≤ h - ((b : Int) + 1) - k
      · obtain ⟨p2, i2, e2⟩ := ih x (y + ((b : Int) + 1) + k) w (h - ((b : Int) + 1) - k) r (by omega) hw hr
        obtain ⟨p1, i1, e1⟩ := ih x y w ((b : Int) + 1) (planL k ss w (h - ((b : Int) + 1) - k) ++ r) (by omega) hw (by omega)
        refine ⟨p1 ++ p2, ?_, by rw [worthP_append, e1, e2]⟩
        have := Rd.down2 x y w h ((b : Int) + 1) _ _ _ _ _ (by omega) (by omega) hr i1 i2
        simpa using this
      · obtain ⟨p1, i1, e1⟩ := ih x y w ((b : Int) + 1) r (by omega) hw (by omega)
        refine ⟨p1, ?_, by rw [e1, val_lt k ss w (h - ((b : Int) + 1) - k) (by omega)]; omega⟩
        rw [planL_lt k ss w (h - ((b : Int) + 1) - k) (by omega), List.append_nil]
        exact Rd.down1 x y w h ((b : Int) + 1) _ _ _ (by omega) (by omega) (by omega) i1

/-! ### area; apart -/
def apartP (k : Int) (a b : Pc) : Prop := (b.X + b.W + k ≤ a.X ∨ a.X + a.W + k ≤ b.X) ∨ (b.Y + b.H + k ≤ a.Y ∨ a.Y + a.H + k ≤ b.Y)
def insideP (x y w h : Int) (a : Pc) : Prop := x ≤ a.X ∧ y ≤ a.Y ∧ 1 ≤ a.W ∧ 1 ≤ a.H ∧ a.X + a.W ≤ x + w ∧ a.Y + a.H ≤ y + h
theorem Rd.inside {k : Int} {ss : List Shp} (hk : 0 ≤ k) {x y w h : Int} {l l' : Cuts} {p : List Pc} (hr : Rd k ss x y w h l l' p) (hw : 1 ≤ w) (hh : 1 ≤ h) : ∀ a ∈ p, insideP x y w h a ∧ ∃ (i : Nat) (s : Shp), a.S = i ∧ ss[i]? = some s ∧ a.W * a.H = s.W * s.H := by
  induction hr with
  | waste => intro a ha; simp at ha
  | shape x y w h r i s t c hc hs ha =>
    intro a hm
    simp only [List.mem_singleton] at hm
    subst hm
    refine ⟨⟨Int.le_refl _, Int.le_refl _, hw, hh, Int.le_refl _, Int.le_refl _⟩, i, s, rfl, hs, ?_⟩
    rcases rdAs_eq ha with ⟨_, e1, e2⟩ | ⟨_, _, e1, e2⟩
    · rw [e1, e2]
    · dsimp only; rw [e1, e2, Int.mul_comm]
  | across1 x y w h a r l1 p1 h1 h2 h3 i1 j1 =>
    intro b hb
    obtain ⟨⟨q1, q2, q3, q4, q5, q6⟩, q⟩ := j1 h1 hh b hb
    exact ⟨⟨q1, q2, q3, q4, by omega, q6⟩, q⟩
  | across2 x y w h a r l1 l2 p1 p2 h1 h2 h3 i1 i2 j1 j2 =>
    intro b hb
    rcases List.mem_append.1 hb with hb | hb
    · obtain ⟨⟨q1, q2, q3, q4, q5, q6⟩, q⟩ := j1 h1 hh b hb
      exact ⟨⟨q1, q2, q3, q4, by omega, q6⟩, q⟩
    · obtain ⟨⟨q1, q2, q3, q4, q5, q6⟩, q⟩ := j2 h3 hh b hb
      exact ⟨⟨by omega, q2, q3, q4, by omega, q6⟩, q⟩
  | down1 x y w h a r l1 p1 h1 h2 h3 i1 j1 =>
    intro b hb
    obtain ⟨⟨q1, q2, q3, q4, q5, q6⟩, q⟩ := j1 hw h1 b hb
    exact ⟨⟨q1, q2, q3, q4, q5, by omega⟩, q⟩
  | down2 x y w h a r l1 l2 p1 p2 h1 h2 h3 i1 i2 j1 j2 =>
    intro b hb
    rcases List.mem_append.1 hb with hb | hb
    · obtain ⟨⟨q1, q2, q3, q4, q5, q6⟩, q⟩ := j1 hw h1 b hb
      exact ⟨⟨q1, q2, q3, q4, q5, by omega⟩, q⟩
    · obtain ⟨⟨q1, q2, q3, q4, q5, q6⟩, q⟩ := j2 hw h3 b hb
      exact ⟨⟨q1, by omega, q3, q4, q5, by omega⟩, q⟩
theorem Rd.apart {k : Int} {ss : List Shp} (hk : 0 ≤ k) {x y w h : Int} {l l' : Cuts} {p : List Pc} (hr : Rd k ss x y w h l l' p) (hw : 1 ≤ w) (hh : 1 ≤ h) : p.Pairwise (fun b a => apartP k a b) := by
  induction hr with
  | waste => exact List.Pairwise.nil
  | shape => exact List.pairwise_singleton _ _
  | across1 x y w h a r l1 p1 h1 h2 h3 i1 j1 => exact j1 h1 hh
  | across2 x y w h a r l1 l2 p1 p2 h1 h2 h3 i1 i2 j1 j2 =>
    refine List.pairwise_append.2 ⟨j1 h1 hh, j2 h3 hh, fun b hb c hc => ?_⟩
    obtain ⟨⟨q1, q2, q3, q4, q5, q6⟩, _⟩ := i1.inside hk h1 hh b hb
    obtain ⟨⟨r1, r2, r3, r4, r5, r6⟩, _⟩ := i2.inside hk h3 hh c hc
    exact .inl (.inl (by omega))
  | down1 x y w h a r l1 p1 h1 h2 h3 i1 j1 => exact j1 hw h1
  | down2 x y w h a r l1 l2 p1 p2 h1 h2 h3 i1 i2 j1 j2 =>
    refine List.pairwise_append.2 ⟨j1 hw h1, j2 hw h3, fun b hb c hc => ?_⟩
    obtain ⟨⟨q1, q2, q3, q4, q5, q6⟩, _⟩ := i1.inside hk hw h1 b hb
    obtain ⟨⟨r1, r2, r3, r4, r5, r6⟩, _⟩ := i2.inside hk hw h3 c hc
    exact .inr (.inl (by omega))
theorem Rd.area {k : Int} {ss : List Shp} (hk : 0 ≤ k) {x y w h : Int} {l l' : Cuts} {p : List Pc} (hr : Rd k ss x y w h l l' p) (hw : 1 ≤ w) (hh : 1 ≤ h) : 0 ≤ areaP p ∧ areaP p ≤ w * h ∧ (p.length : Int) ≤ w * h := by
  induction hr with
  | waste x y w h r =>
    have : 0 ≤ w * h := Int.mul_nonneg (by omega) (by omega)
    exact ⟨by simp [areaP], by simpa [areaP] using this, by simpa using this⟩
  | shape x y w h r i s t c hc hs ha =>
    have : 1 ≤ w * h := by have := Int.mul_le_mul hw hh (by omega) (by omega); simpa using this
    have e : areaP [⟨x, y, w, h, (i : Int)⟩] = w * h := by simp [areaP]
    rw [e]
    exact ⟨by omega, Int.le_refl _, by simpa using this⟩
  | across1 x y w h a r l1 p1 h1 h2 h3 i1 j1 =>
    obtain ⟨q1, q2, q3⟩ := j1 h1 hh
    have : a * h ≤ w * h := Int.mul_le_mul_of_nonneg_right (by omega) (by omega)
    exact ⟨q1, by omega, by omega⟩
  | across2 x y w h a r l1 l2 p1 p2 h1 h2 h3 i1 i2 j1 j2 =>
    obtain ⟨q1, q2, q3⟩ := j1 h1 hh
    obtain ⟨r1, r2, r3⟩ := j2 h3 hh
    have e : a * h + (w - a) * h = w * h := by rw [← Int.add_mul]; congr 1; omega
    have : (w - a - k) * h ≤ (w - a) * h := Int.mul_le_mul_of_nonneg_right (by omega) (by omega)
    rw [areaP_append, List.length_append]
    exact ⟨by omega, by omega, by omega⟩
  | down1 x y w h a r l1 p1 h1 h2 h3 i1 j1 =>
    obtain ⟨q1, q2, q3⟩ := j1 hw h1
    have : w * a ≤ w * h := Int.mul_le_mul_of_nonneg_left (by omega) (by omega)
    exact ⟨q1, by omega, by omega⟩
  | down2 x y w h a r l1 l2 p1 p2 h1 h2 h3 i1 i2 j1 j2 =>
    obtain ⟨q1, q2, q3⟩ := j1 hw h1
    obtain ⟨r1, r2, r3⟩ := j2 hw h3
    have e : w * a + w * (h - a) = w * h := by rw [← Int.mul_add]; congr 1; omega
    have : w * (h - a - k) ≤ w * (h - a) := Int.mul_le_mul_of_nonneg_left (by omega) (by omega)
    rw [areaP_append, List.length_append]
    exact ⟨by omega, by omega, by omega⟩
end
section
structure Rs where
  X : Int
  Y : Int
  W : Int
  H : Int
/-- What one cut makes of one rectangle: the rectangles that wait then, the next one first, and the piece. -/
def stepR (k : Int) (ss : List Shp) (q : Rs) (c a : Int) : Option (List Rs × List Pc) :=
  if c = 0 then (if a = 0 then some ([], []) else none)
  else if c = 1 then (if rdSh ss a q.W q.H false = true then some ([], [⟨q.X, q.Y, q.W, q.H, a⟩]) else none)
  else if c = 2 then (if rdSh ss a q.W q.H true = true then some ([], [⟨q.X, q.Y, q.W, q.H, a⟩]) else none)
  else if c = 3 then (if 1 ≤ a ∧ a < q.W then some (⟨q.X, q.Y, a, q.H⟩ :: (if 1 ≤ q.W - a - k then [⟨q.X + a + k, q.Y, q.W - a - k, q.H⟩] else []), []) else none)
  else if c = 4 then (if 1 ≤ a ∧ a < q.H then some (⟨q.X, q.Y, q.W, a⟩ :: (if 1 ≤ q.H - a - k then [⟨q.X, q.Y + a + k, q.W, q.H - a - k⟩] else []), []) else none)
  else none
def lay (k : Int) (ss : List Shp) : List Rs → Cuts → Option (List Pc)
  | stk, [] => if stk = [] then some [] else none
  | [], _ :: _ => none
  | q :: stk, (c, a) :: r => (stepR k ss q c a).bind fun u => (lay k ss (u.1 ++ stk) r).map fun p => u.2 ++ p
theorem lay_nil (k : Int) (ss : List Shp) (l : Cuts) : lay k ss [] l = if l = [] then some [] else none := by
  cases l <;> simp [lay]
theorem lay_rd (k : Int) (ss : List Shp) : ∀ (f : Nat) (l : Cuts) (q : Rs) (stk : List Rs), l.length < f → lay k ss (q :: stk) l = (rd k ss f q.X q.Y q.W q.H l).bind fun u => (lay k ss stk u.1).map fun p => u.2 ++ p := by
  intro f
  induction f with
  | zero => intro l q stk h; omega
  | succ f ih =>
    intro l q stk hl
    match l with
    | [] => simp [lay, rd]
    | (c, a) :: r =>
      simp only [List.length_cons] at hl
      simp only [lay, rd, stepR]
      by_cases c0 : c = 0
      · simp only [if_pos c0]
        by_cases a0 : a = 0 <;> simp [a0]
      simp only [if_neg c0]
      by_cases c1 : c = 1
      · simp only [if_pos c1]
        split <;> simp
      simp only [if_neg c1]
      by_cases c2 : c = 2
      · simp only [if_pos c2]
        split <;> simp
      simp only [if_neg c2]
      by_cases c3 : c = 3
      · simp only [if_pos c3]
        by_cases ha : 1 ≤ a ∧ a < q.W
        · simp only [if_pos ha, Option.bind_some, List.nil_append]
          by_cases hr : 1 ≤ q.W - a - k
          · simp only [if_pos hr, List.cons_append, List.nil_append]
            rw [ih r _ _ (by omega)]
            cases h1 : rd k ss f q.X q.Y a q.H r with
            | none => simp
            | some u =>
              have hlen := (rd_Rd k ss f _ _ _ _ r u.1 u.2 h1).len
              simp only [Option.bind_some]
              rw [ih u.1 _ _ (by omega)]
              cases h2 : rd k ss f (q.X + a + k) q.Y (q.W - a - k) q.H u.1 with
              | none => simp
              | some v => simp [Function.comp_def]
          · simp only [if_neg hr, List.cons_append, List.nil_append]
            rw [ih r _ _ (by omega)]
            cases h1 : rd k ss f q.X q.Y a q.H r with
            | none => simp
            | some u => simp [Function.comp_def]
        · simp [if_neg ha]
      simp only [if_neg c3]
      by_cases c4 : c = 4
      · simp only [if_pos c4]
        by_cases ha : 1 ≤ a ∧ a < q.H
        · simp only [if_pos ha, Option.bind_some, List.nil_append]
          by_cases hr : 1 ≤ q.H - a - k
          · simp only [if_pos hr, List.cons_append, List.nil_append]
            rw [ih r _ _ (by omega)]
            cases h1 : rd k ss f q.X q.Y q.W a r with
            | none => simp
            | some u =>
              have hlen := (rd_Rd k ss f _ _ _ _ r u.1 u.2 h1).len
              simp only [Option.bind_some]
              rw [ih u.1 _ _ (by omega)]
              cases h2 : rd k ss f q.X (q.Y + a + k) q.W (q.H - a - k) u.1 with
              | none => simp
              | some v => simp [Function.comp_def]
          · simp only [if_neg hr, List.cons_append, List.nil_append]
            rw [ih r _ _ (by omega)]
            cases h1 : rd k ss f q.X q.Y q.W a r with
            | none => simp
            | some u => simp [Function.comp_def]
        · simp [if_neg ha]
      simp [if_neg c4]
/-- The pieces of a plan, if it is one. -/
def planOut (k : Int) (ss : List Shp) (w h : Int) (l : Cuts) : Option (List Pc) := (rd k ss (l.length + 1) 0 0 w h l).bind fun u => if u.1 = [] then some u.2 else none
theorem lay_planOut (k : Int) (ss : List Shp) (w h : Int) (l : Cuts) : lay k ss [⟨0, 0, w, h⟩] l = planOut k ss w h l := by
  rw [lay_rd k ss (l.length + 1) l _ _ (by omega)]
  unfold planOut
  cases rd k ss (l.length + 1) 0 0 w h l with
  | none => rfl
  | some u =>
    simp only [Option.bind_some, lay_nil]
    split <;> simp
theorem planOut_Rd {k : Int} {ss : List Shp} {w h : Int} {l : Cuts} {p : List Pc} (hp : planOut k ss w h l = some p) : Rd k ss 0 0 w h l [] p := by
  unfold planOut at hp
  cases h1 : rd k ss (l.length + 1) 0 0 w h l with
  | none => rw [h1] at hp; cases hp
  | some u =>
    rw [h1] at hp
    simp only [Option.bind_some] at hp
    split at hp
    · rename_i hu
      injection hp with hp
      have := rd_Rd k ss _ _ _ _ _ l u.1 u.2 h1
      rw [hu, hp] at this
      exact this
    · cases hp
theorem planOut_best (k : Int) (ss : List Shp) (hk : 0 ≤ k) (w h : Int) (hw : 1 ≤ w) (hh : 1 ≤ h) : ∃ p, planOut k ss w h (planL k ss w h) = some p ∧ worthP ss p = val k ss w h := by
  obtain ⟨p, hr, hv⟩ := planL_Rd k ss hk _ 0 0 w h [] (Nat.le_refl _) hw hh
  rw [List.append_nil] at hr
  refine ⟨p, ?_, hv⟩
  unfold planOut
  rw [hr.rd _ (Nat.lt_succ_self _)]
  simp
end
section
open Go.RowKit

/-- The panic of a plan that is none. -/
def malP : List PanicEntry := [{ v := .iface 457 (.agg #[]), recovered := false }]
set_option maxHeartbeats 400000 in
theorem must_ok (w : World) : Calls Tryz.prog 315 #[.bool true] w fun e w' => e = .returned (.tuple #[]) ∧ w = w' := by
  go_enter Tryz.func315, Tryz.ntmps315
  go_wp2
  go_end0
  exact ⟨rfl, rfl⟩
set_option maxHeartbeats 400000 in
theorem must_no (w : World) : Calls Tryz.prog 315 #[.bool false] w fun e w' => e = .panicked malP ∧ w = w' := by
  unfold malP
  go_enter Tryz.func315, Tryz.ntmps315
  go_wp2
  exact ⟨rfl, rfl, rfl⟩
/-- The reader at block p: its kerf, shapes, what is left of the plan, the pieces so far. -/
def rdrBox (W : World) (p : Nat) (k : Int) (B : Option Addr) (m d : Nat) (A : Option Addr) (n c : Nat) (v : Value) : Prop := W.heap[p]? = some (.cells #[.int .i64 k, .slice B m d, .slice A n c, v] 461 (0, 0))
set_option maxHeartbeats 400000 in
theorem shape_ok (p : Nat) (k : Int) (B : Option Addr) (m d : Nat) (A : Option Addr) (n c : Nat) (v : Value) (ss : List Shp) (i : Nat) (s : Shp) (w : World) (hp : rdrBox w p k B m d A n c v) (hS : SlE Shp.enc 4 w B m ss) (hi : ss[i]? = some s) (_hm : m ≤ 9223372036854775807) :
    Calls Tryz.prog 378 #[.pointer (some ⟨p, 0, none⟩), .int .i64 i] w fun e w' => e = .returned (.agg #[.int .i64 s.W, .int .i64 s.H, .int .i64 s.V, .bool s.T]) ∧ Below w.heap.size w w' := by
  refine calls_cps ?_
  intro R hR
  obtain ⟨q0, q1, q2, q3, q4⟩ := cells4 hp
  have hlt : i < m := by rw [hS.1]; exact (List.getElem?_eq_some_iff.1 hi).1
  obtain ⟨b, o, s', rfl, hbl, hs', c0, c1, c2, c3⟩ := hS.at4 hlt
  obtain rfl : s = s' := by
    rw [hi] at hs'
    injection hs'
  have Hs := Lib.hid hs'
  have hpz : p < w.heap.size := (Array.getElem?_eq_some_iff.1 hp).1
  clear hs' hi hS
  have i1 : (i : Int) < (m : Int) := by omega
  go_enter Tryz.func378, Tryz.ntmps378
  go_wp2_with (go_at_call 315; refine (must_ok _).mono ?_; rintro e w' ⟨rfl, rfl⟩)
  refine bodyPost_ret (v := .agg #[.int .i64 s.W, .int .i64 s.H, .int .i64 s.V, .bool s.T]) ?_ rfl (hR.out _ _ ⟨rfl, ?_⟩)
  · simp [results, Tryz.results378, go_sem]
  · exact below_new _ _
set_option maxHeartbeats 400000 in
theorem shape_no (p : Nat) (k : Int) (B : Option Addr) (m d : Nat) (A : Option Addr) (n c : Nat) (v : Value) (i : Int) (w : World) (hp : rdrBox w p k B m d A n c v) (hi : ¬ (0 ≤ i ∧ i < (m : Int))) (_hm : m ≤ 9223372036854775807) :
    Calls Tryz.prog 378 #[.pointer (some ⟨p, 0, none⟩), .int .i64 i] w fun e w' => e = .panicked malP ∧ Below w.heap.size w w' := by
  refine calls_cps ?_
  intro R hR
  obtain ⟨q0, q1, q2, q3, q4⟩ := cells4 hp
  have hpz : p < w.heap.size := (Array.getElem?_eq_some_iff.1 hp).1
  by_cases h0 : 0 ≤ i
  · have h1 : ¬ i < (m : Int) := fun h => hi ⟨h0, h⟩
    go_enter Tryz.func378, Tryz.ntmps378
    go_wp2_with (go_at_call 315; refine (must_no _).mono ?_; rintro e w' ⟨rfl, rfl⟩)
    exact ⟨rfl, hR.out _ _ ⟨rfl, below_new _ _⟩⟩
  · go_enter Tryz.func378, Tryz.ntmps378
    go_wp2_with (go_at_call 315; refine (must_no _).mono ?_; rintro e w' ⟨rfl, rfl⟩)
    exact ⟨rfl, hR.out _ _ ⟨rfl, below_new _ _⟩⟩
end
end Go.Proofs.YtndcijkgaadpgaaGreatDoor
