/-
  Plain mathematics of reading a plan, more: the best plan reads, and is worth the greatest value; areas; pieces lie apart; the document's reading with a list of rectangles. No program in sight.
-/
import Derived.Test.YtfkpioibinpfhaaPRead
namespace Go.Proofs.Ytfkpioibinpfhaa

theorem shWs_get {w h : Int} {x : Way} : ∀ (ss : List Shp) (i : Nat), x ∈ shWs w h i ss → ∃ (j : Nat) (s : Shp) (t : Bool) (c : Int), ss[j]? = some s ∧ rdAs w h s t = true ∧ (c = 1 ∧ t = false ∨ c = 2 ∧ t = true) ∧ x = ((c, ((i + j : Nat) : Int)), s.V)
  | [], i, hx => by simp [shWs] at hx
  | s :: r, i, hx => by
    simp only [shWs, List.mem_append] at hx
    rcases hx with hx | hx
    · simp only [shW, List.mem_append] at hx
      rcases hx with hx | hx
      · split at hx
        · rename_i hc
          simp only [List.mem_singleton] at hx
          exact ⟨0, s, false, 1, by simp, by simp [rdAs, hc.1, hc.2], .inl ⟨rfl, rfl⟩, by simpa using hx⟩
        · simp at hx
      · split at hx
        · rename_i hc
          simp only [List.mem_singleton] at hx
          exact ⟨0, s, true, 2, by simp, by simp [rdAs, hc.1, hc.2.1, hc.2.2], .inr ⟨rfl, rfl⟩, by simpa using hx⟩
        · simp at hx
    · obtain ⟨j, s', t, c, h1, h2, h3, h4⟩ := shWs_get r (i + 1) hx
      exact ⟨j + 1, s', t, c, by simpa using h1, h2, h3, by rw [h4]; congr 3; omega⟩
/-- The best plan of a rectangle reads, whatever stands behind it, and is worth the greatest value. -/
theorem planL_Rd (k : Int) (ss : List Shp) (hk : 0 ≤ k) : ∀ (f : Nat) (x y w h : Int) (r : Cuts), w.toNat + h.toNat ≤ f → 1 ≤ w → 1 ≤ h → ∃ p, Rd k ss x y w h (planL k ss w h ++ r) r p ∧ worthP ss p = val k ss w h := by
  intro f
  induction f with
  | zero => intro x y w h r hf hw hh; omega
  | succ f ih =>
    intro x y w h r hf hw hh
    obtain ⟨⟨⟨c, a⟩, v⟩, hp, hm, hv⟩ := pick_some k ss hk w h hw hh
    rw [planL_eq k ss hk w h hw hh hp, ← hv]
    dsimp only
    unfold ways at hm
    rcases List.mem_cons.1 hm with h0 | hm
    · simp only [Prod.mk.injEq] at h0
      obtain ⟨⟨rfl, rfl⟩, rfl⟩ := h0
      exact ⟨[], by simpa using Rd.waste x y w h r, rfl⟩
    rcases List.mem_append.1 hm with hm | hm
    · obtain ⟨j, s, t, c', h1, h2, h3, h4⟩ := shWs_get ss 0 hm
      simp only [Prod.mk.injEq, Nat.zero_add] at h4
      obtain ⟨⟨rfl, rfl⟩, rfl⟩ := h4
      refine ⟨[⟨x, y, w, h, (j : Int)⟩], ?_, by simp [worthP, pcVal, h1]⟩
      have hsh := Rd.shape (k := k) x y w h r j s t c h3 h1 h2
      rcases h3 with ⟨rfl, _⟩ | ⟨rfl, _⟩ <;> simpa using hsh
    rcases List.mem_append.1 hm with hm | hm
    · simp only [acW, List.mem_map, List.mem_range] at hm
      obtain ⟨b, hb, h4⟩ := hm
      simp only [Prod.mk.injEq] at h4
      obtain ⟨⟨rfl, rfl⟩, rfl⟩ := h4
      simp only [if_true]
      by_cases hr : 1 ≤ w - ((b : Int) + 1) - k
      · obtain ⟨p2, i2, e2⟩ := ih (x + ((b : Int) + 1) + k) y (w - ((b : Int) + 1) - k) h r (by omega) hr hh
        obtain ⟨p1, i1, e1⟩ := ih x y ((b : Int) + 1) h (planL k ss (w - ((b : Int) + 1) - k) h ++ r) (by omega) (by omega) hh
        refine ⟨p1 ++ p2, ?_, by rw [worthP_append, e1, e2]⟩
        have := Rd.across2 x y w h ((b : Int) + 1) _ _ _ _ _ (by omega) (by omega) hr i1 i2
        simpa using this
      · obtain ⟨p1, i1, e1⟩ := ih x y ((b : Int) + 1) h r (by omega) (by omega) hh
        refine ⟨p1, ?_, by rw [e1, val_lt k ss (w - ((b : Int) + 1) - k) h (by omega)]; omega⟩
        rw [planL_lt k ss (w - ((b : Int) + 1) - k) h (by omega), List.append_nil]
        exact Rd.across1 x y w h ((b : Int) + 1) _ _ _ (by omega) (by omega) (by omega) i1
    · simp only [dnW, List.mem_map, List.mem_range] at hm
      obtain ⟨b, hb, h4⟩ := hm
      simp only [Prod.mk.injEq] at h4
      obtain ⟨⟨rfl, rfl⟩, rfl⟩ := h4
      simp only [if_neg (show ¬ (4 : Int) = 3 by omega), if_true]
      by_cases hr : 1 ≤ h - ((b : Int) + 1) - k
      · obtain ⟨p2, i2, e2⟩ := ih x (y + ((b : Int) + 1) + k) w (h - ((b : Int) + 1) - k) r (by omega) hw hr
        obtain ⟨p1, i1, e1⟩ := ih x y w ((b : Int) + 1) (planL k ss w (h - ((b : Int) + 1) - k) ++ r) (by omega) hw (by omega)
        refine ⟨p1 ++ p2, ?_, by rw [worthP_append, e1, e2]⟩
        have := Rd.down2 x y w h ((b : Int) + 1) _ _ _ _ _ (by omega) (by omega) hr i1 i2
        simpa using this
      · obtain ⟨p1, i1, e1⟩ := ih x y w ((b : Int) + 1) r (by omega) hw (by omega)
        refine ⟨p1, ?_, by rw [e1, val_lt k ss w (h - ((b : Int) + 1) - k) (by omega)]; omega⟩
        rw [planL_lt k ss w (h - ((b : Int) + 1) - k) (by omega), List.append_nil]
        exact Rd.down1 x y w h ((b : Int) + 1) _ _ _ (by omega) (by omega) (by omega) i1

/-! ### area; apart -/
def apartP (k : Int) (a b : Pc) : Prop := (b.X + b.W + k ≤ a.X ∨ a.X + a.W + k ≤ b.X) ∨ (b.Y + b.H + k ≤ a.Y ∨ a.Y + a.H + k ≤ b.Y)
def insideP (x y w h : Int) (a : Pc) : Prop := x ≤ a.X ∧ y ≤ a.Y ∧ 1 ≤ a.W ∧ 1 ≤ a.H ∧ a.X + a.W ≤ x + w ∧ a.Y + a.H ≤ y + h
theorem Rd.inside {k : Int} {ss : List Shp} (hk : 0 ≤ k) {x y w h : Int} {l l' : Cuts} {p : List Pc} (hr : Rd k ss x y w h l l' p) (hw : 1 ≤ w) (hh : 1 ≤ h) : ∀ a ∈ p, insideP x y w h a ∧ ∃ (i : Nat) (s : Shp), a.S = i ∧ ss[i]? = some s ∧ a.W * a.H = s.W * s.H := by
  induction hr with
  | waste => intro a ha; simp at ha
  | shape x y w h r i s t c hc hs ha =>
    intro a hm
    simp only [List.mem_singleton] at hm
    subst hm
    refine ⟨⟨Int.le_refl _, Int.le_refl _, hw, hh, Int.le_refl _, Int.le_refl _⟩, i, s, rfl, hs, ?_⟩
    rcases rdAs_eq ha with ⟨_, e1, e2⟩ | ⟨_, _, e1, e2⟩
    · rw [e1, e2]
    · dsimp only; rw [e1, e2, Int.mul_comm]
  | across1 x y w h a r l1 p1 h1 h2 h3 i1 j1 =>
    intro b hb
    obtain ⟨⟨q1, q2, q3, q4, q5, q6⟩, q⟩ := j1 h1 hh b hb
    exact ⟨⟨q1, q2, q3, q4, by omega, q6⟩, q⟩
  | across2 x y w h a r l1 l2 p1 p2 h1 h2 h3 i1 i2 j1 j2 =>
    intro b hb
    rcases List.mem_append.1 hb with hb | hb
    · obtain ⟨⟨q1, q2, q3, q4, q5, q6⟩, q⟩ := j1 h1 hh b hb
      exact ⟨⟨q1, q2, q3, q4, by omega, q6⟩, q⟩
    · obtain ⟨⟨q1, q2, q3, q4, q5, q6⟩, q⟩ := j2 h3 hh b hb
      exact ⟨⟨by omega, q2, q3, q4, by omega, q6⟩, q⟩
  | down1 x y w h a r l1 p1 h1 h2 h3 i1 j1 =>
    intro b hb
    obtain ⟨⟨q1, q2, q3, q4, q5, q6⟩, q⟩ := j1 hw h1 b hb
    exact ⟨⟨q1, q2, q3, q4, q5, by omega⟩, q⟩
  | down2 x y w h a r l1 l2 p1 p2 h1 h2 h3 i1 i2 j1 j2 =>
    intro b hb
    rcases List.mem_append.1 hb with hb | hb
    · obtain ⟨⟨q1, q2, q3, q4, q5, q6⟩, q⟩ := j1 hw h1 b hb
      exact ⟨⟨q1, q2, q3, q4, q5, by omega⟩, q⟩
    · obtain ⟨⟨q1, q2, q3, q4, q5, q6⟩, q⟩ := j2 hw h3 b hb
      exact ⟨⟨q1, by omega, q3, q4, q5, by omega⟩, q⟩
theorem Rd.apart {k : Int} {ss : List Shp} (hk : 0 ≤ k) {x y w h : Int} {l l' : Cuts} {p : List Pc} (hr : Rd k ss x y w h l l' p) (hw : 1 ≤ w) (hh : 1 ≤ h) : p.Pairwise (fun b a => apartP k a b) := by
  induction hr with
  | waste => exact List.Pairwise.nil
  | shape => exact List.pairwise_singleton _ _
  | across1 x y w h a r l1 p1 h1 h2 h3 i1 j1 => exact j1 h1 hh
  | across2 x y w h a r l1 l2 p1 p2 h1 h2 h3 i1 i2 j1 j2 =>
    refine List.pairwise_append.2 ⟨j1 h1 hh, j2 h3 hh, fun b hb c hc => ?_⟩
    obtain ⟨⟨q1, q2, q3, q4, q5, q6⟩, _⟩ := i1.inside hk h1 hh b hb
    obtain ⟨⟨r1, r2, r3, r4, r5, r6⟩, _⟩ := i2.inside hk h3 hh c hc
    exact .inl (.inl (by omega))
  | down1 x y w h a r l1 p1 h1 h2 h3 i1 j1 => exact j1 hw h1
  | down2 x y w h a r l1 l2 p1 p2 h1 h2 h3 i1 i2 j1 j2 =>
    refine List.pairwise_append.2 ⟨j1 hw h1, j2 hw h3, fun b hb c hc => ?_⟩
    obtain ⟨⟨q1, q2, q3, q4, q5, q6⟩, _⟩ := i1.inside hk hw h1 b hb
    obtain ⟨⟨r1, r2, r3, r4, r5, r6⟩, _⟩ := i2.inside hk hw h3 c hc
    exact .inr (.inl (by omega))
theorem Rd.area {k : Int} {ss : List Shp} (hk : 0 ≤ k) {x y w h : Int} {l l' : Cuts} {p : List Pc} (hr : Rd k ss x y w h l l' p) (hw : 1 ≤ w) (hh : 1 ≤ h) : 0 ≤ areaP p ∧ areaP p ≤ w * h ∧ (p.length : Int) ≤ w * h := by
  induction hr with
  | waste x y w h r =>
    have : 0 ≤ w * h := Int.mul_nonneg (by omega) (by omega)
    exact ⟨by simp [areaP], by simpa [areaP] using this, by simpa using this⟩
  | shape x y w h r i s t c hc hs ha =>
    have : 1 ≤ w * h := by have := Int.mul_le_mul hw hh (by omega) (by omega); simpa using this
    have e : areaP [⟨x, y, w, h, (i : Int)⟩] = w * h := by simp [areaP]
    rw [e]
    exact ⟨by omega, Int.le_refl _, by simpa using this⟩
  | across1 x y w h a r l1 p1 h1 h2 h3 i1 j1 =>
    obtain ⟨q1, q2, q3⟩ := j1 h1 hh
    have : a * h ≤ w * h := Int.mul_le_mul_of_nonneg_right (by omega) (by omega)
    exact ⟨q1, by omega, by omega⟩
  | across2 x y w h a r l1 l2 p1 p2 h1 h2 h3 i1 i2 j1 j2 =>
    obtain ⟨q1, q2, q3⟩ := j1 h1 hh
    obtain ⟨r1, r2, r3⟩ := j2 h3 hh
    have e : a * h + (w - a) * h = w * h := by rw [← Int.add_mul]; congr 1; omega
    have : (w - a - k) * h ≤ (w - a) * h := Int.mul_le_mul_of_nonneg_right (by omega) (by omega)
    rw [areaP_append, List.length_append]
    exact ⟨by omega, by omega, by omega⟩
  | down1 x y w h a r l1 p1 h1 h2 h3 i1 j1 =>
    obtain ⟨q1, q2, q3⟩ := j1 hw h1
    have : w * a ≤ w * h := Int.mul_le_mul_of_nonneg_left (by omega) (by omega)
    exact ⟨q1, by omega, by omega⟩
  | down2 x y w h a r l1 l2 p1 p2 h1 h2 h3 i1 i2 j1 j2 =>
    obtain ⟨q1, q2, q3⟩ := j1 hw h1
    obtain ⟨r1, r2, r3⟩ := j2 hw h3
    have e : w * a + w * (h - a) = w * h := by rw [← Int.mul_add]; congr 1; omega
    have : w * (h - a - k) ≤ w * (h - a) := Int.mul_le_mul_of_nonneg_left (by omega) (by omega)
    rw [areaP_append, List.length_append]
    exact ⟨by omega, by omega, by omega⟩
end Go.Proofs.Ytfkpioibinpfhaa
