/-
  Plain mathematics of reading a plan: what is read from a rectangle, the pieces, what is left; what that is worth and how the pieces lie. No program in sight.
-/
import Derived.Test.YtfkpioibinpfhaaPCeil
namespace Go.Proofs.Ytfkpioibinpfhaa

structure Pc where
  X : Int
  Y : Int
  W : Int
  H : Int
  S : Int
abbrev Cuts := List (Int × Int)
def rdAs (w h : Int) (s : Shp) (t : Bool) : Bool := if t then s.T && (s.H == w) && (s.W == h) else (s.W == w) && (s.H == h)
def rdSh (ss : List Shp) (a w h : Int) (t : Bool) : Bool := if 0 ≤ a then (match ss[a.toNat]? with | some s => rdAs w h s t | none => false) else false
def rd (k : Int) (ss : List Shp) : Nat → Int → Int → Int → Int → Cuts → Option (Cuts × List Pc)
  | 0, _, _, _, _, _ => none
  | _ + 1, _, _, _, _, [] => none
  | f + 1, x, y, w, h, (c, a) :: r =>
    if c = 0 then (if a = 0 then some (r, []) else none)
    else if c = 1 then (if rdSh ss a w h false = true then some (r, [⟨x, y, w, h, a⟩]) else none)
    else if c = 2 then (if rdSh ss a w h true = true then some (r, [⟨x, y, w, h, a⟩]) else none)
    else if c = 3 then (if 1 ≤ a ∧ a < w then (rd k ss f x y a h r).bind fun q => if 1 ≤ w - a - k then (rd k ss f (x + a + k) y (w - a - k) h q.1).map fun u => (u.1, q.2 ++ u.2) else some q else none)
    else if c = 4 then (if 1 ≤ a ∧ a < h then (rd k ss f x y w a r).bind fun q => if 1 ≤ h - a - k then (rd k ss f x (y + a + k) w (h - a - k) q.1).map fun u => (u.1, q.2 ++ u.2) else some q else none)
    else none
/-- A plan read: from a rectangle at a place, l is read down to l', and yields p. -/
inductive Rd (k : Int) (ss : List Shp) : Int → Int → Int → Int → Cuts → Cuts → List Pc → Prop
  | waste (x y w h : Int) (r : Cuts) : Rd k ss x y w h ((0, 0) :: r) r []
  | shape (x y w h : Int) (r : Cuts) (a : Nat) (s : Shp) (t : Bool) (c : Int) (hc : c = 1 ∧ t = false ∨ c = 2 ∧ t = true) (hs : ss[a]? = some s) (ha : rdAs w h s t = true) : Rd k ss x y w h ((c, (a : Int)) :: r) r [⟨x, y, w, h, a⟩]
  | across1 (x y w h a : Int) (r l1 : Cuts) (p1 : List Pc) (h1 : 1 ≤ a) (h2 : a < w) (h3 : w - a - k < 1) (i1 : Rd k ss x y a h r l1 p1) : Rd k ss x y w h ((3, a) :: r) l1 p1
  | across2 (x y w h a : Int) (r l1 l2 : Cuts) (p1 p2 : List Pc) (h1 : 1 ≤ a) (h2 : a < w) (h3 : 1 ≤ w - a - k) (i1 : Rd k ss x y a h r l1 p1) (i2 : Rd k ss (x + a + k) y (w - a - k) h l1 l2 p2) : Rd k ss x y w h ((3, a) :: r) l2 (p1 ++ p2)
  | down1 (x y w h a : Int) (r l1 : Cuts) (p1 : List Pc) (h1 : 1 ≤ a) (h2 : a < h) (h3 : h - a - k < 1) (i1 : Rd k ss x y w a r l1 p1) : Rd k ss x y w h ((4, a) :: r) l1 p1
  | down2 (x y w h a : Int) (r l1 l2 : Cuts) (p1 p2 : List Pc) (h1 : 1 ≤ a) (h2 : a < h) (h3 : 1 ≤ h - a - k) (i1 : Rd k ss x y w a r l1 p1) (i2 : Rd k ss x (y + a + k) w (h - a - k) l1 l2 p2) : Rd k ss x y w h ((4, a) :: r) l2 (p1 ++ p2)
theorem rdSh_some {ss : List Shp} {a w h : Int} {t : Bool} (hh : rdSh ss a w h t = true) : ∃ (i : Nat) (s : Shp), a = (i : Int) ∧ ss[i]? = some s ∧ rdAs w h s t = true := by
  unfold rdSh at hh
  split at hh
  · cases hs : ss[a.toNat]? with
    | none => rw [hs] at hh; cases hh
    | some s => rw [hs] at hh; exact ⟨a.toNat, s, by omega, hs, hh⟩
  · cases hh
theorem rd_Rd (k : Int) (ss : List Shp) : ∀ (f : Nat) (x y w h : Int) (l l' : Cuts) (p : List Pc), rd k ss f x y w h l = some (l', p) → Rd k ss x y w h l l' p := by
  intro f
  induction f with
  | zero => intro x y w h l l' p hh; simp [rd] at hh
  | succ f ih =>
    intro x y w h l l' p hh
    match l with
    | [] => simp [rd] at hh
    | (c, a) :: r =>
      simp only [rd] at hh
      by_cases c0 : c = 0
      · subst c0
        simp only [if_true] at hh
        by_cases a0 : a = 0
        · subst a0
          simp only [if_true, Option.some.injEq, Prod.mk.injEq] at hh
          obtain ⟨rfl, rfl⟩ := hh
          exact .waste x y w h r
        · simp [a0] at hh
      rw [if_neg c0] at hh
      by_cases c1 : c = 1
      · subst c1
        simp only [if_true] at hh
        split at hh
        · rename_i hs
          obtain ⟨i, s, rfl, hs1, hs2⟩ := rdSh_some hs
          simp only [Option.some.injEq, Prod.mk.injEq] at hh
          obtain ⟨rfl, rfl⟩ := hh
          exact .shape x y w h r i s false 1 (.inl ⟨rfl, rfl⟩) hs1 hs2
        · cases hh
      rw [if_neg c1] at hh
      by_cases c2 : c = 2
      · subst c2
        simp only [if_true] at hh
        split at hh
        · rename_i hs
          obtain ⟨i, s, rfl, hs1, hs2⟩ := rdSh_some hs
          simp only [Option.some.injEq, Prod.mk.injEq] at hh
          obtain ⟨rfl, rfl⟩ := hh
          exact .shape x y w h r i s true 2 (.inr ⟨rfl, rfl⟩) hs1 hs2
        · cases hh
      rw [if_neg c2] at hh
      by_cases c3 : c = 3
      · subst c3
        simp only [if_true] at hh
        split at hh
        · rename_i ha
          cases h1 : rd k ss f x y a h r with
          | none => rw [h1] at hh; cases hh
          | some q =>
            obtain ⟨l1, p1⟩ := q
            rw [h1] at hh
            simp only [Option.bind_some] at hh
            split at hh
            · rename_i hr
              cases h2 : rd k ss f (x + a + k) y (w - a - k) h l1 with
              | none => rw [h2] at hh; cases hh
              | some u =>
                obtain ⟨l2, p2⟩ := u
                rw [h2] at hh
                simp only [Option.map_some, Option.some.injEq, Prod.mk.injEq] at hh
                obtain ⟨rfl, rfl⟩ := hh
                exact .across2 x y w h a r l1 _ p1 p2 ha.1 ha.2 hr (ih _ _ _ _ _ _ _ h1) (ih _ _ _ _ _ _ _ h2)
            · rename_i hr
              simp only [Option.some.injEq, Prod.mk.injEq] at hh
              obtain ⟨rfl, rfl⟩ := hh
              exact .across1 x y w h a r _ _ ha.1 ha.2 (by omega) (ih _ _ _ _ _ _ _ h1)
        · cases hh
      rw [if_neg c3] at hh
      by_cases c4 : c = 4
      · subst c4
        simp only [if_true] at hh
        split at hh
        · rename_i ha
          cases h1 : rd k ss f x y w a r with
          | none => rw [h1] at hh; cases hh
          | some q =>
            obtain ⟨l1, p1⟩ := q
            rw [h1] at hh
            simp only [Option.bind_some] at hh
            split at hh
            · rename_i hr
              cases h2 : rd k ss f x (y + a + k) w (h - a - k) l1 with
              | none => rw [h2] at hh; cases hh
              | some u =>
                obtain ⟨l2, p2⟩ := u
                rw [h2] at hh
                simp only [Option.map_some, Option.some.injEq, Prod.mk.injEq] at hh
                obtain ⟨rfl, rfl⟩ := hh
                exact .down2 x y w h a r l1 _ p1 p2 ha.1 ha.2 hr (ih _ _ _ _ _ _ _ h1) (ih _ _ _ _ _ _ _ h2)
            · rename_i hr
              simp only [Option.some.injEq, Prod.mk.injEq] at hh
              obtain ⟨rfl, rfl⟩ := hh
              exact .down1 x y w h a r _ _ ha.1 ha.2 (by omega) (ih _ _ _ _ _ _ _ h1)
        · cases hh
      rw [if_neg c4] at hh
      cases hh
theorem Rd.len {k : Int} {ss : List Shp} {x y w h : Int} {l l' : Cuts} {p : List Pc} (hr : Rd k ss x y w h l l' p) : l'.length < l.length ∧ p.length + l'.length ≤ l.length := by
  induction hr with
  | waste => simp
  | shape => simp; omega
  | across1 x y w h a r l1 p1 h1 h2 h3 i1 j1 => simp; omega
  | across2 x y w h a r l1 l2 p1 p2 h1 h2 h3 i1 i2 j1 j2 => simp; omega
  | down1 x y w h a r l1 p1 h1 h2 h3 i1 j1 => simp; omega
  | down2 x y w h a r l1 l2 p1 p2 h1 h2 h3 i1 i2 j1 j2 => simp; omega
theorem rdSh_eq {ss : List Shp} {a : Nat} {s : Shp} (hs : ss[a]? = some s) (w h : Int) (t : Bool) : rdSh ss (a : Int) w h t = rdAs w h s t := by
  unfold rdSh
  rw [if_pos (by omega), Int.toNat_natCast, hs]
theorem rdSh_out {ss : List Shp} {a w h : Int} {t : Bool} (ha : ¬ (0 ≤ a ∧ a < (ss.length : Int))) : rdSh ss a w h t = false := by
  unfold rdSh
  split
  · rw [List.getElem?_eq_none (by omega)]
  · rfl
theorem rd_shape {ss : List Shp} {a : Nat} {s : Shp} (hs : ss[a]? = some s) {w h : Int} {t : Bool} (ha : rdAs w h s t = true) : rdSh ss (a : Int) w h t = true := by
  unfold rdSh
  rw [if_pos (by omega), Int.toNat_natCast, hs]
  exact ha
theorem Rd.rd {k : Int} {ss : List Shp} {x y w h : Int} {l l' : Cuts} {p : List Pc} (hr : Rd k ss x y w h l l' p) : ∀ f, l.length < f → rd k ss f x y w h l = some (l', p) := by
  induction hr with
  | waste => intro f hf; cases f with
    | zero => omega
    | succ f => simp [Go.Proofs.Ytfkpioibinpfhaa.rd]
  | shape x y w h r a s t c hc hs ha => intro f hf; cases f with
    | zero => omega
    | succ f =>
      rcases hc with ⟨rfl, rfl⟩ | ⟨rfl, rfl⟩
      · simp [Go.Proofs.Ytfkpioibinpfhaa.rd, rd_shape hs ha]
      · simp [Go.Proofs.Ytfkpioibinpfhaa.rd, rd_shape hs ha]
  | across1 x y w h a r l1 p1 h1 h2 h3 i1 j1 => intro f hf; cases f with
    | zero => omega
    | succ f =>
      simp only [List.length_cons] at hf
      have := j1 f (by omega)
      simp only [Go.Proofs.Ytfkpioibinpfhaa.rd, if_neg (show ¬ (3 : Int) = 0 by omega), if_neg (show ¬ (3 : Int) = 1 by omega), if_neg (show ¬ (3 : Int) = 2 by omega), if_true, if_pos (show 1 ≤ a ∧ a < w from ⟨h1, h2⟩), this, Option.bind_some, if_neg (show ¬ 1 ≤ w - a - k by omega)]
  | across2 x y w h a r l1 l2 p1 p2 h1 h2 h3 i1 i2 j1 j2 => intro f hf; cases f with
    | zero => omega
    | succ f =>
      simp only [List.length_cons] at hf
      have h4 := j1 f (by omega)
      have h5 := j2 f (by have := i1.len; omega)
      simp only [Go.Proofs.Ytfkpioibinpfhaa.rd, if_neg (show ¬ (3 : Int) = 0 by omega), if_neg (show ¬ (3 : Int) = 1 by omega), if_neg (show ¬ (3 : Int) = 2 by omega), if_true, if_pos (show 1 ≤ a ∧ a < w from ⟨h1, h2⟩), h4, Option.bind_some, if_pos h3, h5, Option.map_some]
  | down1 x y w h a r l1 p1 h1 h2 h3 i1 j1 => intro f hf; cases f with
    | zero => omega
    | succ f =>
      simp only [List.length_cons] at hf
      have := j1 f (by omega)
      simp only [Go.Proofs.Ytfkpioibinpfhaa.rd, if_neg (show ¬ (4 : Int) = 0 by omega), if_neg (show ¬ (4 : Int) = 1 by omega), if_neg (show ¬ (4 : Int) = 2 by omega), if_neg (show ¬ (4 : Int) = 3 by omega), if_true, if_pos (show 1 ≤ a ∧ a < h from ⟨h1, h2⟩), this, Option.bind_some, if_neg (show ¬ 1 ≤ h - a - k by omega)]
  | down2 x y w h a r l1 l2 p1 p2 h1 h2 h3 i1 i2 j1 j2 => intro f hf; cases f with
    | zero => omega
    | succ f =>
      simp only [List.length_cons] at hf
      have h4 := j1 f (by omega)
      have h5 := j2 f (by have := i1.len; omega)
      simp only [Go.Proofs.Ytfkpioibinpfhaa.rd, if_neg (show ¬ (4 : Int) = 0 by omega), if_neg (show ¬ (4 : Int) = 1 by omega), if_neg (show ¬ (4 : Int) = 2 by omega), if_neg (show ¬ (4 : Int) = 3 by omega), if_true, if_pos (show 1 ≤ a ∧ a < h from ⟨h1, h2⟩), h4, Option.bind_some, if_pos h3, h5, Option.map_some]
theorem rd_none (k : Int) (ss : List Shp) {f g : Nat} {x y w h : Int} {l : Cuts} (hf : l.length < f) (hg : l.length < g) : rd k ss f x y w h l = rd k ss g x y w h l := by
  cases h1 : rd k ss f x y w h l with
  | some q => rw [((rd_Rd k ss f x y w h l q.1 q.2 h1).rd g hg)]
  | none =>
    cases h2 : rd k ss g x y w h l with
    | none => rfl
    | some q => rw [((rd_Rd k ss g x y w h l q.1 q.2 h2).rd f hf)] at h1; cases h1

/-! ### what pieces are worth, and their area -/
def pcVal (ss : List Shp) (q : Pc) : Int := match ss[q.S.toNat]? with | some s => s.V | none => 0
def worthP (ss : List Shp) (p : List Pc) : Int := p.foldl (fun m q => m + pcVal ss q) 0
def areaP (p : List Pc) : Int := p.foldl (fun m q => m + q.W * q.H) 0
theorem foldl_add {α : Type} (g : α → Int) (l : List α) : ∀ m, l.foldl (fun m q => m + g q) m = m + l.foldl (fun m q => m + g q) 0 := by
  induction l with
  | nil => intro m; simp
  | cons a r ih =>
    intro m
    simp only [List.foldl_cons]
    rw [ih (m + g a), ih (0 + g a)]
    omega
theorem worthP_append (ss : List Shp) (p q : List Pc) : worthP ss (p ++ q) = worthP ss p + worthP ss q := by
  unfold worthP; rw [List.foldl_append, foldl_add]
theorem areaP_append (p q : List Pc) : areaP (p ++ q) = areaP p + areaP q := by
  unfold areaP; rw [List.foldl_append, foldl_add]
theorem rdAs_eq {w h : Int} {s : Shp} {t : Bool} (ha : rdAs w h s t = true) : (t = false ∧ s.W = w ∧ s.H = h) ∨ (t = true ∧ s.T = true ∧ s.H = w ∧ s.W = h) := by
  cases t
  · simp [rdAs] at ha; exact .inl ⟨rfl, ha⟩
  · simp [rdAs] at ha; exact .inr ⟨rfl, ha.1.1, ha.1.2, ha.2⟩
theorem Rd.worth {k : Int} {ss : List Shp} (hk : 0 ≤ k) {x y w h : Int} {l l' : Cuts} {p : List Pc} (hr : Rd k ss x y w h l l' p) (hw : 1 ≤ w) (hh : 1 ≤ h) : worthP ss p ≤ val k ss w h := by
  induction hr with
  | waste => exact val_nonneg _ _ _ _
  | shape x y w h r a s t c hc hs ha =>
    have e : worthP ss [⟨x, y, w, h, (a : Int)⟩] = s.V := by simp [worthP, pcVal, hs]
    rw [e]
    rcases rdAs_eq ha with ⟨_, e1, e2⟩ | ⟨_, e0, e1, e2⟩
    · have := val_shape hk (List.mem_of_getElem? hs) (by omega) (by omega)
      rw [e1, e2] at this; exact this
    · have := val_shape_turned hk (List.mem_of_getElem? hs) e0 (by omega) (by omega)
      rw [e1, e2] at this; exact this
  | across1 x y w h a r l1 p1 h1 h2 h3 i1 j1 =>
    have := j1 h1 hh
    have := val_wider (ss := ss) hk a w h (by omega)
    omega
  | across2 x y w h a r l1 l2 p1 p2 h1 h2 h3 i1 i2 j1 j2 =>
    have := j1 h1 hh
    have := j2 h3 hh
    have := val_across (ss := ss) hk w h a hw hh h1 h2
    rw [worthP_append]; omega
  | down1 x y w h a r l1 p1 h1 h2 h3 i1 j1 =>
    have := j1 hw h1
    have := val_higher (ss := ss) hk w a h (by omega)
    omega
  | down2 x y w h a r l1 l2 p1 p2 h1 h2 h3 i1 i2 j1 j2 =>
    have := j1 hw h1
    have := j2 hw h3
    have := val_down (ss := ss) hk w h a hw hh h1 h2
    rw [worthP_append]; omega
end Go.Proofs.Ytfkpioibinpfhaa
