/-
  The plain mathematics of a panel: what can be done with a rectangle, the greatest value of each rectangle, the plan that reaches it. No program in sight; no condition but those that each lemma states. How shapes, cuts and pieces lie in memory; no condition but those that each lemma states.
-/
import Derived.Test.YtndcijkgaadpgaaGreatDoorMMem
namespace Go.Proofs.YtndcijkgaadpgaaGreatDoor
section
structure Shp where
  W : Int
  H : Int
  V : Int
  T : Bool

def inB (v lo hi : Int) : Bool := decide (lo ≤ v) && decide (v ≤ hi)
def shpOk (s : Shp) : Bool := inB s.W 1 64 && inB s.H 1 64 && inB s.V 0 1000000
def panOk (w h k : Int) (ss : List Shp) : Bool := inB w 1 64 && inB h 1 64 && inB k 0 8 && decide (ss.length ≤ 16) && ss.all shpOk

abbrev Way := (Int × Int) × Int
def shW (w h : Int) (i : Nat) (s : Shp) : List Way :=
  (if s.W = w ∧ s.H = h then [((1, (i : Int)), s.V)] else []) ++ (if s.T = true ∧ s.H = w ∧ s.W = h then [((2, (i : Int)), s.V)] else [])
def shWs (w h : Int) : Nat → List Shp → List Way
  | _, [] => []
  | i, s :: r => shW w h i s ++ shWs w h (i + 1) r
def acW (T : Int → Int → Int) (k w h : Int) (n : Nat) : List Way := (List.range n).map fun (a : Nat) => ((3, (a : Int) + 1), T ((a : Int) + 1) h + T (w - ((a : Int) + 1) - k) h)
def dnW (T : Int → Int → Int) (k w h : Int) (n : Nat) : List Way := (List.range n).map fun (a : Nat) => ((4, (a : Int) + 1), T w ((a : Int) + 1) + T w (h - ((a : Int) + 1) - k))
def ways (T : Int → Int → Int) (k : Int) (ss : List Shp) (w h : Int) : List Way :=
  ((0, 0), 0) :: (shWs w h 0 ss ++ (acW T k w h (w - 1).toNat ++ dnW T k w h (h - 1).toNat))
def most (l : List Way) : Int := l.foldl (fun m x => max m x.2) 0
def valF (k : Int) (ss : List Shp) : Nat → Int → Int → Int
  | 0, _, _ => 0
  | f + 1, w, h => if w < 1 ∨ h < 1 then 0 else most (ways (valF k ss f) k ss w h)
def val (k : Int) (ss : List Shp) (w h : Int) : Int := valF k ss (w.toNat + h.toNat) w h

theorem val_lt (k : Int) (ss : List Shp) (w h : Int) (hh : w < 1 ∨ h < 1) : val k ss w h = 0 := by
  unfold val
  cases w.toNat + h.toNat with
  | zero => rfl
  | succ f => simp [valF, hh]
theorem acW_congr {T T' : Int → Int → Int} {k w h : Int} (n : Nat) (hn : (n : Int) ≤ w - 1) (hk : 0 ≤ k) (he : ∀ x, x < w → T x h = T' x h) : acW T k w h n = acW T' k w h n := by
  unfold acW
  refine List.map_congr_left fun a ha => ?_
  have := List.mem_range.1 ha
  rw [he _ (by omega), he _ (by omega)]
theorem dnW_congr {T T' : Int → Int → Int} {k w h : Int} (n : Nat) (hn : (n : Int) ≤ h - 1) (hk : 0 ≤ k) (he : ∀ x, x < h → T w x = T' w x) : dnW T k w h n = dnW T' k w h n := by
  unfold dnW
  refine List.map_congr_left fun a ha => ?_
  have := List.mem_range.1 ha
  rw [he _ (by omega), he _ (by omega)]
theorem ways_congr {T T' : Int → Int → Int} {k : Int} {ss : List Shp} {w h : Int} (hw : 1 ≤ w) (hh : 1 ≤ h) (hk : 0 ≤ k) (he : ∀ x, x < w → T x h = T' x h) (he' : ∀ x, x < h → T w x = T' w x) : ways T k ss w h = ways T' k ss w h := by
  unfold ways
  rw [acW_congr _ (by omega) hk he, dnW_congr _ (by omega) hk he']
theorem valF_fuel (k : Int) (ss : List Shp) (hk : 0 ≤ k) : ∀ (f : Nat) (w h : Int), w.toNat + h.toNat ≤ f → valF k ss f w h = val k ss w h := by
  intro f
  induction f using Nat.strongRecOn with
  | _ f ih =>
    intro w h hf
    by_cases hlt : w < 1 ∨ h < 1
    · rw [val_lt k ss w h hlt]
      cases f with
      | zero => rfl
      | succ f => simp [valF, hlt]
    · have hs : ∃ g, w.toNat + h.toNat = g + 1 := ⟨w.toNat + h.toNat - 1, by omega⟩
      obtain ⟨g, hg⟩ := hs
      obtain ⟨f', rfl⟩ : ∃ f', f = f' + 1 := ⟨f - 1, by omega⟩
      unfold val
      rw [hg]
      simp only [valF, if_neg hlt]
      congr 1
      refine ways_congr (by omega) (by omega) hk (fun x hx => ?_) (fun x hx => ?_)
      · rw [ih f' (by omega) _ _ (by omega)]
        rw [ih g (by omega) _ _ (by omega)]
      · rw [ih f' (by omega) _ _ (by omega)]
        rw [ih g (by omega) _ _ (by omega)]
theorem val_eq (k : Int) (ss : List Shp) (hk : 0 ≤ k) (w h : Int) (hw : 1 ≤ w) (hh : 1 ≤ h) : val k ss w h = most (ways (val k ss) k ss w h) := by
  have hg : w.toNat + h.toNat = (w.toNat + h.toNat - 1) + 1 := by omega
  rw [val, hg]
  simp only [valF, if_neg (show ¬ (w < 1 ∨ h < 1) by omega)]
  congr 1
  refine ways_congr hw hh hk (fun x hx => ?_) (fun x hx => ?_)
  · exact valF_fuel k ss hk _ _ _ (by omega)
  · exact valF_fuel k ss hk _ _ _ (by omega)

/-! ### the greatest of a list -/
theorem foldl_max_ge (l : List Way) : ∀ m : Int, m ≤ l.foldl (fun m x => max m x.2) m ∧ ∀ x ∈ l, x.2 ≤ l.foldl (fun m x => max m x.2) m := by
  induction l with
  | nil => intro m; simp
  | cons a r ih =>
    intro m
    have h := ih (max m a.2)
    refine ⟨?_, ?_⟩
    · simp only [List.foldl_cons]; omega
    · intro x hx
      simp only [List.foldl_cons]
      rcases List.mem_cons.1 hx with rfl | hx
      · omega
      · exact h.2 x hx
theorem foldl_max_le (l : List Way) (b : Int) : ∀ m : Int, m ≤ b → (∀ x ∈ l, x.2 ≤ b) → l.foldl (fun m x => max m x.2) m ≤ b := by
  induction l with
  | nil => intro m hm _; simpa using hm
  | cons a r ih =>
    intro m hm hx
    simp only [List.foldl_cons]
    have := hx a (by simp)
    exact ih _ (by omega) fun x h => hx x (by simp [h])
theorem foldl_max_mem (l : List Way) : ∀ m : Int, l.foldl (fun m x => max m x.2) m = m ∨ ∃ x ∈ l, l.foldl (fun m x => max m x.2) m = x.2 := by
  induction l with
  | nil => intro m; simp
  | cons a r ih =>
    intro m
    simp only [List.foldl_cons]
    rcases ih (max m a.2) with h | ⟨x, hx, h⟩
    · rw [h]
      by_cases hc : m ≤ a.2
      · exact .inr ⟨a, by simp, by omega⟩
      · exact .inl (by omega)
    · exact .inr ⟨x, by simp [hx], h⟩
theorem most_ge (l : List Way) (x : Way) (hx : x ∈ l) : x.2 ≤ most l := (foldl_max_ge l 0).2 x hx
theorem most_nonneg (l : List Way) : 0 ≤ most l := (foldl_max_ge l 0).1
theorem most_le (l : List Way) (b : Int) (hb : 0 ≤ b) (h : ∀ x ∈ l, x.2 ≤ b) : most l ≤ b := foldl_max_le l b 0 hb h
theorem most_mem (T : Int → Int → Int) (k : Int) (ss : List Shp) (w h : Int) : ∃ x ∈ ways T k ss w h, x.2 = most (ways T k ss w h) := by
  rcases foldl_max_mem (ways T k ss w h) 0 with h0 | ⟨x, hx, h0⟩
  · exact ⟨((0, 0), 0), by simp [ways], by unfold most; omega⟩
  · exact ⟨x, hx, by unfold most; omega⟩
theorem most_snoc (l : List Way) (x : Way) : most (l ++ [x]) = max (most l) x.2 := by simp [most, List.foldl_append]

theorem val_nonneg (k : Int) (ss : List Shp) (w h : Int) : 0 ≤ val k ss w h := by
  unfold val
  generalize w.toNat + h.toNat = f
  cases f with
  | zero => exact Int.le_refl _
  | succ f =>
    simp only [valF]
    split
    · exact Int.le_refl _
    · exact most_nonneg _

/-! ### what the ways are -/
theorem mem_shWs (w h : Int) (x : Way) : ∀ (ss : List Shp) (i : Nat), x ∈ shWs w h i ss ↔
    ∃ (j : Nat) (s : Shp), ss[j]? = some s ∧ ((s.W = w ∧ s.H = h ∧ x = ((1, ((i + j : Nat) : Int)), s.V)) ∨ (s.T = true ∧ s.H = w ∧ s.W = h ∧ x = ((2, ((i + j : Nat) : Int)), s.V))) := by
  intro ss
  induction ss with
  | nil => intro i; simp [shWs]
  | cons s r ih =>
    intro i
    simp only [shWs, List.mem_append, ih, shW]
    constructor
    · rintro ((h1 | h1) | ⟨j, t, hj, h1⟩)
      · split at h1
        · rename_i hc; exact ⟨0, s, rfl, .inl ⟨hc.1, hc.2, by simpa using h1⟩⟩
        · simp at h1
      · split at h1
        · rename_i hc; exact ⟨0, s, rfl, .inr ⟨hc.1, hc.2.1, hc.2.2, by simpa using h1⟩⟩
        · simp at h1
      · exact ⟨j + 1, t, by simpa using hj, by rw [show i + (j + 1) = i + 1 + j by omega]; exact h1⟩
    · rintro ⟨j, t, hj, h1⟩
      cases j with
      | zero =>
        simp at hj; subst hj
        rcases h1 with ⟨a, b, c⟩ | ⟨a, b, c, d⟩
        · exact .inl (.inl (by rw [if_pos ⟨a, b⟩]; simpa using c))
        · exact .inl (.inr (by rw [if_pos ⟨a, b, c⟩]; simpa using d))
      | succ j => exact .inr ⟨j, t, by simpa using hj, by rw [show i + 1 + j = i + (j + 1) by omega]; exact h1⟩
theorem mem_acW (T : Int → Int → Int) (k w h : Int) (n : Nat) (x : Way) : x ∈ acW T k w h n ↔ ∃ a : Int, 1 ≤ a ∧ a ≤ n ∧ x = ((3, a), T a h + T (w - a - k) h) := by
  simp only [acW, List.mem_map, List.mem_range]
  constructor
  · rintro ⟨a, ha, rfl⟩; exact ⟨a + 1, by omega, by omega, rfl⟩
  · rintro ⟨a, h1, h2, rfl⟩; exact ⟨(a - 1).toNat, by omega, by rw [show (((a - 1).toNat : Nat) : Int) + 1 = a by omega]⟩
theorem mem_dnW (T : Int → Int → Int) (k w h : Int) (n : Nat) (x : Way) : x ∈ dnW T k w h n ↔ ∃ a : Int, 1 ≤ a ∧ a ≤ n ∧ x = ((4, a), T w a + T w (h - a - k)) := by
  simp only [dnW, List.mem_map, List.mem_range]
  constructor
  · rintro ⟨a, ha, rfl⟩; exact ⟨a + 1, by omega, by omega, rfl⟩
  · rintro ⟨a, h1, h2, rfl⟩; exact ⟨(a - 1).toNat, by omega, by rw [show (((a - 1).toNat : Nat) : Int) + 1 = a by omega]⟩
/-- WHAT CAN BE DONE WITH A RECTANGLE. -/
theorem mem_ways (T : Int → Int → Int) (k : Int) (ss : List Shp) (w h : Int) (hw : 1 ≤ w) (hh : 1 ≤ h) (x : Way) : x ∈ ways T k ss w h ↔
    x = ((0, 0), 0) ∨ (∃ (j : Nat) (s : Shp), ss[j]? = some s ∧ ((s.W = w ∧ s.H = h ∧ x = ((1, (j : Int)), s.V)) ∨ (s.T = true ∧ s.H = w ∧ s.W = h ∧ x = ((2, (j : Int)), s.V)))) ∨
    (∃ a : Int, 1 ≤ a ∧ a < w ∧ x = ((3, a), T a h + T (w - a - k) h)) ∨ (∃ a : Int, 1 ≤ a ∧ a < h ∧ x = ((4, a), T w a + T w (h - a - k))) := by
  simp only [ways, List.mem_cons, List.mem_append, mem_shWs, mem_acW, mem_dnW, Nat.zero_add]
  constructor
  · rintro (h1 | h1 | ⟨a, h1, h2, h3⟩ | ⟨a, h1, h2, h3⟩)
    · exact .inl h1
    · exact .inr (.inl h1)
    · exact .inr (.inr (.inl ⟨a, h1, by omega, h3⟩))
    · exact .inr (.inr (.inr ⟨a, h1, by omega, h3⟩))
  · rintro (h1 | h1 | ⟨a, h1, h2, h3⟩ | ⟨a, h1, h2, h3⟩)
    · exact .inl h1
    · exact .inr (.inl h1)
    · exact .inr (.inr (.inl ⟨a, h1, by omega, h3⟩))
    · exact .inr (.inr (.inr ⟨a, h1, by omega, h3⟩))

/-! ### the plan -/
def pick (k : Int) (ss : List Shp) (w h : Int) : Option Way := (ways (val k ss) k ss w h).find? fun x => x.2 == val k ss w h
def planF (k : Int) (ss : List Shp) : Nat → Int → Int → List (Int × Int)
  | 0, _, _ => []
  | f + 1, w, h => if w < 1 ∨ h < 1 then [] else
    match pick k ss w h with
    | none => []
    | some ((c, a), _) => (c, a) :: (if c = 3 then planF k ss f a h ++ planF k ss f (w - a - k) h else if c = 4 then planF k ss f w a ++ planF k ss f w (h - a - k) else [])
def planL (k : Int) (ss : List Shp) (w h : Int) : List (Int × Int) := planF k ss (w.toNat + h.toNat) w h
theorem pick_some (k : Int) (ss : List Shp) (hk : 0 ≤ k) (w h : Int) (hw : 1 ≤ w) (hh : 1 ≤ h) : ∃ x, pick k ss w h = some x ∧ x ∈ ways (val k ss) k ss w h ∧ x.2 = val k ss w h := by
  obtain ⟨y, hy, he⟩ := most_mem (val k ss) k ss w h
  rw [← val_eq k ss hk w h hw hh] at he
  cases hp : pick k ss w h with
  | none =>
    have := List.find?_eq_none.1 hp y hy
    simp [he] at this
  | some x =>
    have h1 := List.mem_of_find?_eq_some hp
    have h2 := List.find?_some hp
    exact ⟨x, rfl, h1, by simpa using h2⟩
theorem planF_lt (k : Int) (ss : List Shp) (f : Nat) (w h : Int) (hh : w < 1 ∨ h < 1) : planF k ss f w h = [] := by
  cases f with
  | zero => rfl
  | succ f => simp [planF, hh]
theorem planF_fuel (k : Int) (ss : List Shp) (hk : 0 ≤ k) : ∀ (f : Nat) (w h : Int), w.toNat + h.toNat ≤ f → planF k ss f w h = planL k ss w h := by
  intro f
  induction f using Nat.strongRecOn with
  | _ f ih =>
    intro w h hf
    by_cases hlt : w < 1 ∨ h < 1
    · rw [planL, planF_lt _ _ _ _ _ hlt, planF_lt _ _ _ _ _ hlt]
    · obtain ⟨g, hg⟩ : ∃ g, w.toNat + h.toNat = g + 1 := ⟨w.toNat + h.toNat - 1, by omega⟩
      obtain ⟨f', rfl⟩ : ∃ f', f = f' + 1 := ⟨f - 1, by omega⟩
      unfold planL
      rw [hg]
      simp only [planF, if_neg hlt]
      obtain ⟨⟨⟨c, a⟩, v⟩, hp, hm, hv⟩ := pick_some k ss hk w h (by omega) (by omega)
      rw [hp]
      rcases (mem_ways _ k ss w h (by omega) (by omega) _).1 hm with h1 | ⟨j, s, _, ⟨_, _, h1⟩ | ⟨_, _, _, h1⟩⟩ | ⟨b, hb1, hb2, h1⟩ | ⟨b, hb1, hb2, h1⟩ <;> simp only [Prod.mk.injEq] at h1 <;> obtain ⟨⟨rfl, rfl⟩, rfl⟩ := h1
      · simp
      · simp
      · simp
      · simp only [if_true]
        rw [ih f' (by omega) _ _ (by omega), ih g (by omega) _ _ (by omega), ih f' (by omega) _ _ (by omega), ih g (by omega) _ _ (by omega)]
      · simp only [if_neg (show ¬ (4 : Int) = 3 by omega), if_true]
        rw [ih f' (by omega) _ _ (by omega), ih g (by omega) _ _ (by omega), ih f' (by omega) _ _ (by omega), ih g (by omega) _ _ (by omega)]
theorem planL_lt (k : Int) (ss : List Shp) (w h : Int) (hh : w < 1 ∨ h < 1) : planL k ss w h = [] := planF_lt _ _ _ _ _ hh
theorem planL_eq (k : Int) (ss : List Shp) (hk : 0 ≤ k) (w h : Int) (hw : 1 ≤ w) (hh : 1 ≤ h) {c a v : Int} (hp : pick k ss w h = some ((c, a), v)) :
    planL k ss w h = (c, a) :: (if c = 3 then planL k ss a h ++ planL k ss (w - a - k) h else if c = 4 then planL k ss w a ++ planL k ss w (h - a - k) else []) := by
  obtain ⟨g, hg⟩ : ∃ g, w.toNat + h.toNat = g + 1 := ⟨w.toNat + h.toNat - 1, by omega⟩
  obtain ⟨x, hp', hm, _⟩ := pick_some k ss hk w h hw hh
  rw [hp] at hp'
  injection hp' with hp'
  subst hp'
  rw [planL, hg]
  simp only [planF, if_neg (show ¬ (w < 1 ∨ h < 1) by omega), hp]
  rcases (mem_ways _ k ss w h (by omega) (by omega) _).1 hm with h1 | ⟨j, s, _, ⟨_, _, h1⟩ | ⟨_, _, _, h1⟩⟩ | ⟨b, hb1, hb2, h1⟩ | ⟨b, hb1, hb2, h1⟩ <;> simp only [Prod.mk.injEq] at h1 <;> obtain ⟨⟨rfl, rfl⟩, rfl⟩ := h1
  · simp
  · simp
  · simp
  · simp only [if_true]
    rw [planF_fuel k ss hk g _ _ (by omega), planF_fuel k ss hk g _ _ (by omega)]
  · simp only [if_neg (show ¬ (4 : Int) = 3 by omega), if_true]
    rw [planF_fuel k ss hk g _ _ (by omega), planF_fuel k ss hk g _ _ (by omega)]
end
section
open Go.RowKit
def Shp.enc (s : Shp) : List Value := [.int .i64 s.W, .int .i64 s.H, .int .i64 s.V, .bool s.T]
theorem Shp.enc_len (s : Shp) : s.enc.length = 4 := rfl
def cutE (c : Int × Int) : List Value := [.int .i64 c.1, .int .i64 c.2]
theorem cutE_len (c : Int × Int) : (cutE c).length = 2 := rfl
theorem SlE.at4 {w : World} {A : Option Addr} {n k : Nat} {l : List Shp} (h : SlE Shp.enc 4 w A n l) (hk : k < n) :
    ∃ b o s, A = some ⟨b, o, none⟩ ∧ b < w.heap.size ∧ l[k]? = some s ∧ w.cell? ⟨b, o + k * 4, none⟩ = some (.int .i64 s.W) ∧ w.cell? ⟨b, o + k * 4 + 1, none⟩ = some (.int .i64 s.H) ∧
      w.cell? ⟨b, o + k * 4 + 2, none⟩ = some (.int .i64 s.V) ∧ w.cell? ⟨b, o + k * 4 + 3, none⟩ = some (.bool s.T) := by
  obtain ⟨b, o, x, hA, hb, hx, hc⟩ := h.at_ Shp.enc_len hk
  exact ⟨b, o, x, hA, hb, hx, by simpa using hc 0 _ rfl, by simpa [Nat.add_assoc] using hc 1 _ rfl, by simpa [Nat.add_assoc] using hc 2 _ rfl, by simpa [Nat.add_assoc] using hc 3 _ rfl⟩
theorem SlE.at2 {w : World} {A : Option Addr} {n k : Nat} {l : List (Int × Int)} (h : SlE cutE 2 w A n l) (hk : k < n) :
    ∃ b o s, A = some ⟨b, o, none⟩ ∧ b < w.heap.size ∧ l[k]? = some s ∧ w.cell? ⟨b, o + k * 2, none⟩ = some (.int .i64 s.1) ∧ w.cell? ⟨b, o + k * 2 + 1, none⟩ = some (.int .i64 s.2) := by
  obtain ⟨b, o, x, hA, hb, hx, hc⟩ := h.at_ cutE_len hk
  exact ⟨b, o, x, hA, hb, hx, by simpa using hc 0 _ rfl, by simpa [Nat.add_assoc] using hc 1 _ rfl⟩
theorem all_of_take {α : Type} (p : α → Bool) (l : List α) (k : Nat) (x : α) (h : (l.take k).all p = true) (hx : l[k]? = some x) (hp : p x = true) : (l.take (k + 1)).all p = true := by
  obtain ⟨hk, rfl⟩ := List.getElem?_eq_some_iff.1 hx
  rw [List.take_succ_eq_append_getElem hk, List.all_append, h]
  simpa using hp
theorem all_false_of {α : Type} (p : α → Bool) (l : List α) (k : Nat) (x : α) (hx : l[k]? = some x) (hp : p x = false) : l.all p = false := by
  rw [List.all_eq_false]
  exact ⟨x, List.mem_of_getElem? hx, by simp [hp]⟩
end
end Go.Proofs.YtndcijkgaadpgaaGreatDoor
