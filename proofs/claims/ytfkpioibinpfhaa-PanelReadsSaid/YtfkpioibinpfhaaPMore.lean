/-
  Plain mathematics of the panel: the value is the least function that every shape and every cut stays under; so it grows with the sides, falls with the kerf, and does not mind turning the panel. No program in sight.
-/
import Derived.Test.YtfkpioibinpfhaaPSpec2
namespace Go.Proofs.Ytfkpioibinpfhaa

theorem val_least (k : Int) (ss : List Shp) (hk : 0 ≤ k) (g : Int → Int → Int) (h0 : ∀ w h, 0 ≤ g w h)
    (hs : ∀ s ∈ ss, 1 ≤ s.W → 1 ≤ s.H → s.V ≤ g s.W s.H ∧ (s.T = true → s.V ≤ g s.H s.W))
    (ha : ∀ w h a, 1 ≤ w → 1 ≤ h → 1 ≤ a → a < w → g a h + g (w - a - k) h ≤ g w h)
    (hd : ∀ w h a, 1 ≤ w → 1 ≤ h → 1 ≤ a → a < h → g w a + g w (h - a - k) ≤ g w h) : ∀ (f : Nat) (w h : Int), w.toNat + h.toNat ≤ f → val k ss w h ≤ g w h := by
  intro f
  induction f with
  | zero =>
    intro w h hf
    rw [val_lt k ss w h (by omega)]
    exact h0 w h
  | succ f ih =>
    intro w h hf
    by_cases hlt : w < 1 ∨ h < 1
    · rw [val_lt k ss w h hlt]; exact h0 w h
    · obtain ⟨x, hx, he⟩ := most_mem (val k ss) k ss w h
      rw [← val_eq k ss hk w h (by omega) (by omega)] at he
      rw [← he]
      rcases (mem_ways _ k ss w h (by omega) (by omega) x).1 hx with rfl | ⟨j, s, hj, ⟨h1, h2, rfl⟩ | ⟨ht, h1, h2, rfl⟩⟩ | ⟨a, ha1, ha2, rfl⟩ | ⟨a, ha1, ha2, rfl⟩
      · exact h0 w h
      · have := (hs s (List.mem_of_getElem? hj) (by omega) (by omega)).1
        rwa [h1, h2] at this
      · have := (hs s (List.mem_of_getElem? hj) (by omega) (by omega)).2 ht
        rwa [h1, h2] at this
      · have i1 := ih a h (by omega)
        have i2 := ih (w - a - k) h (by omega)
        have := ha w h a (by omega) (by omega) ha1 ha2
        show val k ss a h + val k ss (w - a - k) h ≤ g w h
        omega
      · have i1 := ih w a (by omega)
        have i2 := ih w (h - a - k) (by omega)
        have := hd w h a (by omega) (by omega) ha1 ha2
        show val k ss w a + val k ss w (h - a - k) ≤ g w h
        omega

section
variable {k : Int} {ss : List Shp} (hk : 0 ≤ k)
include hk
theorem val_way {w h : Int} (hw : 1 ≤ w) (hh : 1 ≤ h) {x : Way} (hx : x ∈ ways (val k ss) k ss w h) : x.2 ≤ val k ss w h := by
  rw [val_eq k ss hk w h hw hh]
  exact most_ge _ _ hx
theorem val_shape {s : Shp} (hs : s ∈ ss) (hw : 1 ≤ s.W) (hh : 1 ≤ s.H) : s.V ≤ val k ss s.W s.H := by
  obtain ⟨j, hj⟩ := List.getElem?_of_mem hs
  exact val_way hk hw hh (x := ((1, (j : Int)), s.V)) ((mem_ways _ _ _ _ _ hw hh _).2 (.inr (.inl ⟨j, s, hj, .inl ⟨rfl, rfl, rfl⟩⟩)))
theorem val_shape_turned {s : Shp} (hs : s ∈ ss) (ht : s.T = true) (hw : 1 ≤ s.W) (hh : 1 ≤ s.H) : s.V ≤ val k ss s.H s.W := by
  obtain ⟨j, hj⟩ := List.getElem?_of_mem hs
  exact val_way hk hh hw (x := ((2, (j : Int)), s.V)) ((mem_ways _ _ _ _ _ hh hw _).2 (.inr (.inl ⟨j, s, hj, .inr ⟨ht, rfl, rfl, rfl⟩⟩)))
theorem val_across (w h a : Int) (hw : 1 ≤ w) (hh : 1 ≤ h) (ha : 1 ≤ a) (haw : a < w) : val k ss a h + val k ss (w - a - k) h ≤ val k ss w h :=
  val_way hk hw hh (x := ((3, a), _)) ((mem_ways _ _ _ _ _ hw hh _).2 (.inr (.inr (.inl ⟨a, ha, haw, rfl⟩))))
theorem val_down (w h a : Int) (hw : 1 ≤ w) (hh : 1 ≤ h) (ha : 1 ≤ a) (hah : a < h) : val k ss w a + val k ss w (h - a - k) ≤ val k ss w h :=
  val_way hk hw hh (x := ((4, a), _)) ((mem_ways _ _ _ _ _ hw hh _).2 (.inr (.inr (.inr ⟨a, ha, hah, rfl⟩))))
theorem val_wider (w w' h : Int) (h1 : w ≤ w') : val k ss w h ≤ val k ss w' h := by
  by_cases hlt : w < 1 ∨ h < 1
  · rw [val_lt k ss w h hlt]; exact val_nonneg _ _ _ _
  · by_cases he : w = w'
    · subst he; exact Int.le_refl _
    · have := val_across (ss := ss) hk w' h w (by omega) (by omega) (by omega) (by omega)
      have := val_nonneg k ss (w' - w - k) h
      omega
theorem val_higher (w h h' : Int) (h1 : h ≤ h') : val k ss w h ≤ val k ss w h' := by
  by_cases hlt : w < 1 ∨ h < 1
  · rw [val_lt k ss w h hlt]; exact val_nonneg _ _ _ _
  · by_cases he : h = h'
    · subst he; exact Int.le_refl _
    · have := val_down (ss := ss) hk w h' h (by omega) (by omega) (by omega) (by omega)
      have := val_nonneg k ss w (h' - h - k)
      omega
end
/-- Every shape of the one list has its like, turned, in the other: so has the value. -/
theorem val_flip_le (k : Int) (ss ss' : List Shp) (hk : 0 ≤ k) (h1 : ∀ s ∈ ss, ∃ s' ∈ ss', s'.V = s.V ∧ ((s'.W = s.H ∧ s'.H = s.W ∧ (s.T = true → s'.T = true)) ∨ (s'.W = s.W ∧ s'.H = s.H ∧ s'.T = true))) (w h : Int) :
    val k ss w h ≤ val k ss' h w := by
  refine val_least k ss hk (fun a b => val k ss' b a) (fun _ _ => val_nonneg _ _ _ _) (fun s hs hw hh => ?_) (fun w h a hw hh ha haw => val_down hk h w a hh hw ha haw) (fun w h a hw hh ha haw => val_across hk h w a hh hw ha haw) _ w h (Nat.le_refl _)
  obtain ⟨s', hs', e, ⟨e1, e2, e3⟩ | ⟨e1, e2, e3⟩⟩ := h1 s hs
  · have a1 := val_shape (ss := ss') hk hs' (by omega) (by omega)
    rw [e1, e2, e] at a1
    refine ⟨a1, fun ht => ?_⟩
    have a2 := val_shape_turned (ss := ss') hk hs' (e3 ht) (by omega) (by omega)
    rwa [e1, e2, e] at a2
  · have a1 := val_shape_turned (ss := ss') hk hs' e3 (by omega) (by omega)
    rw [e1, e2, e] at a1
    refine ⟨a1, fun _ => ?_⟩
    have a2 := val_shape (ss := ss') hk hs' (by omega) (by omega)
    rwa [e1, e2, e] at a2
/-- Less kerf, more shapes, freer shapes: no less value. -/
theorem val_more (k k' : Int) (ss ss' : List Shp) (hk' : 0 ≤ k') (hkk : k' ≤ k) (h1 : ∀ s ∈ ss, ∃ s' ∈ ss', s'.V = s.V ∧ s'.W = s.W ∧ s'.H = s.H ∧ (s.T = true → s'.T = true)) (w h : Int) :
    val k ss w h ≤ val k' ss' w h := by
  refine val_least k ss (by omega) (fun a b => val k' ss' a b) (fun _ _ => val_nonneg _ _ _ _) (fun s hs hw hh => ?_) (fun w h a hw hh ha haw => ?_) (fun w h a hw hh ha haw => ?_) _ w h (Nat.le_refl _)
  · obtain ⟨s', hs', e, e1, e2, e3⟩ := h1 s hs
    have a1 := val_shape (ss := ss') hk' hs' (by omega) (by omega)
    rw [e1, e2, e] at a1
    refine ⟨a1, fun ht => ?_⟩
    have a2 := val_shape_turned (ss := ss') hk' hs' (e3 ht) (by omega) (by omega)
    rwa [e1, e2, e] at a2
  · have b1 := val_across (ss := ss') hk' w h a hw hh ha haw
    have b2 := val_wider (ss := ss') hk' (w - a - k) (w - a - k') h (by omega)
    show val k' ss' a h + val k' ss' (w - a - k) h ≤ val k' ss' w h
    omega
  · have b1 := val_down (ss := ss') hk' w h a hw hh ha haw
    have b2 := val_higher (ss := ss') hk' w (h - a - k) (h - a - k') (by omega)
    show val k' ss' w a + val k' ss' w (h - a - k) ≤ val k' ss' w h
    omega
end Go.Proofs.Ytfkpioibinpfhaa
