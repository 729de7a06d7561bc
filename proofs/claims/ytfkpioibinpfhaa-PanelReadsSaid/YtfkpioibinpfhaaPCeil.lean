/-
  Plain mathematics of the panel: the ceiling and the sheets; Best is worth at most the ceiling. No program in sight.
-/
import Derived.Test.YtfkpioibinpfhaaPMore
namespace Go.Proofs.Ytfkpioibinpfhaa

def fitsB (w h : Int) (s : Shp) : Bool := (decide (s.W ≤ w) && decide (s.H ≤ h)) || (s.T && decide (s.H ≤ w) && decide (s.W ≤ h))
def ceilS (w h m : Int) (s : Shp) : Int := if fitsB w h s = true then max m (w * h * s.V / (s.W * s.H)) else m
def ceilF (w h : Int) (m : Int) (l : List Shp) : Int := l.foldl (ceilS w h) m
def ceilV (w h : Int) (ss : List Shp) : Int := ceilF w h 0 ss
theorem ceilS_ge (w h m : Int) (s : Shp) : m ≤ ceilS w h m s := by
  unfold ceilS; split <;> omega
theorem ceilF_ge (w h : Int) (l : List Shp) : ∀ m, m ≤ ceilF w h m l := by
  induction l with
  | nil => intro m; exact Int.le_refl _
  | cons a r ih =>
    intro m
    have := ih (ceilS w h m a)
    have := ceilS_ge w h m a
    show m ≤ ceilF w h (ceilS w h m a) r
    omega
theorem ceilF_mem (w h : Int) (l : List Shp) : ∀ m, ∀ s ∈ l, fitsB w h s = true → w * h * s.V / (s.W * s.H) ≤ ceilF w h m l := by
  induction l with
  | nil => intro m s hs; cases hs
  | cons a r ih =>
    intro m s hs hf
    show _ ≤ ceilF w h (ceilS w h m a) r
    rcases List.mem_cons.1 hs with rfl | hs
    · have := ceilF_ge w h r (ceilS w h m s)
      have h2 : w * h * s.V / (s.W * s.H) ≤ ceilS w h m s := by unfold ceilS; rw [if_pos hf]; omega
      omega
    · exact ih _ s hs hf
theorem ceil_take (w h : Int) (l : List Shp) (k : Nat) (x : Shp) (hx : l[k]? = some x) : ceilV w h (l.take (k + 1)) = ceilS w h (ceilV w h (l.take k)) x := by
  obtain ⟨hk, rfl⟩ := List.getElem?_eq_some_iff.1 hx
  unfold ceilV ceilF
  rw [List.take_succ_eq_append_getElem hk, List.foldl_append]
  rfl
theorem mul_bd {a b m n : Int} (ha : 0 ≤ a) (hb : 0 ≤ b) (ham : a ≤ m) (hbn : b ≤ n) : 0 ≤ a * b ∧ a * b ≤ m * n := ⟨Int.mul_nonneg ha hb, Int.mul_le_mul ham hbn hb (by omega)⟩
theorem quo_bd {w h V W H : Int} (hw : 1 ≤ w ∧ w ≤ 64) (hh : 1 ≤ h ∧ h ≤ 64) (hV : 0 ≤ V ∧ V ≤ 1000000) (hW : 1 ≤ W) (hH : 1 ≤ H) : 0 ≤ w * h * V / (W * H) ∧ w * h * V / (W * H) ≤ 4096000000 := by
  have h1 := mul_bd (a := w) (b := h) (by omega) (by omega) hw.2 hh.2
  have h2 := mul_bd (a := w * h) (b := V) h1.1 hV.1 h1.2 hV.2
  have h3 : 1 ≤ W * H := by have := Int.mul_le_mul hW hH (by omega) (by omega); simpa using this
  exact ⟨Int.ediv_nonneg h2.1 (by omega), Int.le_trans (Int.ediv_le_self _ h2.1) (by omega)⟩
theorem ceilS_bd {w h m : Int} {s : Shp} (hw : 1 ≤ w ∧ w ≤ 64) (hh : 1 ≤ h ∧ h ≤ 64) (hs : (1 ≤ s.W ∧ s.W ≤ 64) ∧ (1 ≤ s.H ∧ s.H ≤ 64) ∧ 0 ≤ s.V ∧ s.V ≤ 1000000) (hm : 0 ≤ m ∧ m ≤ 4096000000) : 0 ≤ ceilS w h m s ∧ ceilS w h m s ≤ 4096000000 := by
  have := quo_bd (V := s.V) hw hh hs.2.2 hs.1.1 hs.2.1.1
  unfold ceilS; split <;> omega
theorem ceilF_bd {w h : Int} (hw : 1 ≤ w ∧ w ≤ 64) (hh : 1 ≤ h ∧ h ≤ 64) (l : List Shp) (hs : ∀ s ∈ l, (1 ≤ s.W ∧ s.W ≤ 64) ∧ (1 ≤ s.H ∧ s.H ≤ 64) ∧ 0 ≤ s.V ∧ s.V ≤ 1000000) : ∀ m, 0 ≤ m ∧ m ≤ 4096000000 → 0 ≤ ceilF w h m l ∧ ceilF w h m l ≤ 4096000000 := by
  induction l with
  | nil => intro m hm; exact hm
  | cons a r ih =>
    intro m hm
    exact ih (fun s h => hs s (by simp [h])) _ (ceilS_bd hw hh (hs a (by simp)) hm)
theorem val_ceil (k : Int) (ss : List Shp) (hk : 0 ≤ k) {w h : Int} (hw : 1 ≤ w ∧ w ≤ 64) (hh : 1 ≤ h ∧ h ≤ 64) (hs : ∀ s ∈ ss, (1 ≤ s.W ∧ s.W ≤ 64) ∧ (1 ≤ s.H ∧ s.H ≤ 64) ∧ 0 ≤ s.V ∧ s.V ≤ 1000000) : val k ss w h ≤ ceilV w h ss := by
  obtain ⟨M, hM⟩ : ∃ M, ceilV w h ss = M := ⟨_, rfl⟩
  have hM0 : 0 ≤ M := by rw [← hM]; exact ceilF_ge w h ss 0
  have hwh : 1 ≤ w * h := by have := Int.mul_le_mul hw.1 hh.1 (by omega) (by omega); simpa using this
  have key := val_area k ss hk (w * h * 4096) ((M + 1) * 4096 - 1) w h (by omega) (fun s hs' hf => by
    obtain ⟨⟨a1, a2⟩, ⟨b1, b2⟩, c1, c2⟩ := hs s hs'
    have hfb : fitsB w h s = true := by
      rcases hf with ⟨f1, f2⟩ | ⟨f0, f1, f2⟩
      · simp [fitsB, f1, f2]
      · simp [fitsB, f0, f1, f2]
    have h1 := ceilF_mem w h ss 0 s hs' hfb
    rw [show ceilF w h 0 ss = M from hM] at h1
    have hD : 1 ≤ s.W * s.H := by have := Int.mul_le_mul a1 b1 (by omega) (by omega); simpa using this
    have hD2 : s.W * s.H ≤ 64 * 64 := Int.mul_le_mul a2 b2 (by omega) (by omega)
    have h2 : w * h * s.V < (M + 1) * (s.W * s.H) := by
      have := Int.lt_mul_of_ediv_lt (by omega) (show w * h * s.V / (s.W * s.H) < M + 1 by omega)
      exact this
    generalize s.W * s.H = D at *
    have e1 : s.V * (w * h * 4096) = w * h * s.V * 4096 := by rw [← Int.mul_assoc, Int.mul_comm s.V (w * h)]
    have e2 : ((M + 1) * 4096 - 1) * D = (M + 1) * D * 4096 - D := by rw [Int.sub_mul, Int.one_mul, Int.mul_assoc, Int.mul_comm 4096 D, ← Int.mul_assoc]
    rw [e1, e2]
    omega) _ w h (Nat.le_refl _) (by omega) (by omega) (Int.le_refl _) (Int.le_refl _)
  rw [hM]
  have e3 : val k ss w h * (w * h * 4096) = val k ss w h * 4096 * (w * h) := by rw [Int.mul_comm (w * h) 4096, ← Int.mul_assoc]
  rw [e3] at key
  have := Int.le_of_mul_le_mul_right key (by omega)
  omega

def okWants (l : List Int) : Bool := l.all fun n => inB n 0 1000000
def areaV : List Shp → List Int → Int
  | s :: ss, n :: ns => s.W * s.H * n + areaV ss ns
  | _, _ => 0
def fitAll (w h : Int) : List Shp → List Int → Bool
  | s :: ss, n :: ns => (decide (n ≤ 0) || fitsB w h s) && fitAll w h ss ns
  | _, _ => true
theorem areaV_take : ∀ (ss : List Shp) (ns : List Int) (k : Nat) (s : Shp) (n : Int), ss[k]? = some s → ns[k]? = some n → areaV (ss.take (k + 1)) (ns.take (k + 1)) = areaV (ss.take k) (ns.take k) + s.W * s.H * n
  | [], ns, k, s, n, hs, _ => by simp at hs
  | a :: r, [], k, s, n, _, hn => by simp at hn
  | a :: r, b :: q, 0, s, n, hs, hn => by
    simp at hs hn; subst hs hn
    simp [areaV]
  | a :: r, b :: q, k + 1, s, n, hs, hn => by
    have ih := areaV_take r q k s n (by simpa using hs) (by simpa using hn)
    simp only [List.take_succ_cons, areaV] at *
    omega
theorem fitAll_take (w h : Int) : ∀ (ss : List Shp) (ns : List Int) (k : Nat) (s : Shp) (n : Int), ss[k]? = some s → ns[k]? = some n → fitAll w h (ss.take (k + 1)) (ns.take (k + 1)) = (fitAll w h (ss.take k) (ns.take k) && (decide (n ≤ 0) || fitsB w h s))
  | [], ns, k, s, n, hs, _ => by simp at hs
  | a :: r, [], k, s, n, _, hn => by simp at hn
  | a :: r, b :: q, 0, s, n, hs, hn => by
    simp at hs hn; subst hs hn
    simp [fitAll]
  | a :: r, b :: q, k + 1, s, n, hs, hn => by
    have ih := fitAll_take w h r q k s n (by simpa using hs) (by simpa using hn)
    simp only [List.take_succ_cons, fitAll] at *
    rw [ih, Bool.and_assoc]
theorem fitAll_false (w h : Int) : ∀ (ss : List Shp) (ns : List Int) (k : Nat) (s : Shp) (n : Int), ss[k]? = some s → ns[k]? = some n → (decide (n ≤ 0) || fitsB w h s) = false → fitAll w h ss ns = false
  | [], ns, k, s, n, hs, _, _ => by simp at hs
  | a :: r, [], k, s, n, _, hn, _ => by simp at hn
  | a :: r, b :: q, 0, s, n, hs, hn, h0 => by
    simp at hs hn; subst hs hn
    simp only [fitAll, h0, Bool.false_and]
  | a :: r, b :: q, k + 1, s, n, hs, hn, h0 => by
    have ih := fitAll_false w h r q k s n (by simpa using hs) (by simpa using hn) h0
    simp only [fitAll, ih, Bool.and_false]
theorem areaV_bd : ∀ (ss : List Shp) (ns : List Int), (∀ s ∈ ss, (1 ≤ s.W ∧ s.W ≤ 64) ∧ (1 ≤ s.H ∧ s.H ≤ 64)) → (∀ n ∈ ns, 0 ≤ n ∧ n ≤ 1000000) → 0 ≤ areaV ss ns ∧ areaV ss ns ≤ 4096000000 * ss.length
  | [], ns, _, _ => by simp [areaV]
  | a :: r, [], _, _ => by simp [areaV]; omega
  | a :: r, b :: q, hs, hn => by
    have ih := areaV_bd r q (fun s h => hs s (by simp [h])) (fun n h => hn n (by simp [h]))
    obtain ⟨⟨a1, a2⟩, b1, b2⟩ := hs a (by simp)
    obtain ⟨c1, c2⟩ := hn b (by simp)
    have h1 := mul_bd (a := a.W) (b := a.H) (by omega) (by omega) a2 b2
    have h2 := mul_bd h1.1 c1 h1.2 c2
    simp only [areaV, List.length_cons]
    omega
end Go.Proofs.Ytfkpioibinpfhaa
