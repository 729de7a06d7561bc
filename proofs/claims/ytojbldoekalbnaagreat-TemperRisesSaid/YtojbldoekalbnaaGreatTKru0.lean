/-
  Plain mathematics of Kruskal's method: links by rising weight and number, labels of what is connected, the links that are taken. No program in sight.
-/
import Derived.Test.YtojbldoekalbnaaGreatMMem
namespace Go.Proofs.YtojbldoekalbnaaGreat
structure Lk where
  a : Int
  b : Int
  w : Int
deriving DecidableEq, Inhabited
def lkW (L : List Lk) (i : Int) : Int := match L[i.toNat]? with
  | some l => l.w
  | none => 0
/-- Lighter, or as light and ahead. -/
def klt (L : List Lk) (x y : Int) : Prop := lkW L x < lkW L y ∨ (lkW L x = lkW L y ∧ x < y)
instance (L : List Lk) (x y : Int) : Decidable (klt L x y) := inferInstanceAs (Decidable (_ ∨ _))
theorem klt_trans {L : List Lk} {x y z : Int} (h : klt L x y) (k : klt L y z) : klt L x z := by unfold klt at *; omega
theorem klt_irrefl {L : List Lk} {x : Int} : ¬ klt L x x := by unfold klt; omega
theorem klt_asymm {L : List Lk} {x y : Int} (h : klt L x y) : ¬ klt L y x := by unfold klt at *; omega
theorem klt_total {L : List Lk} {x y : Int} (h : x ≠ y) : klt L x y ∨ klt L y x := by unfold klt at *; omega
/-- Rising. -/
def Ris (L : List Lk) (l : List Int) : Prop := l.Pairwise (klt L)
/-- Of as light ones the one ahead has the lower number. -/
def Stb (L : List Lk) (l : List Int) : Prop := l.Pairwise (fun x y => lkW L x = lkW L y → x < y)
theorem Ris.stb {L : List Lk} {l : List Int} (h : Ris L l) : Stb L l := h.imp (fun h e => by unfold klt at h; omega)
/-- Rising lists of the same elements are one. -/
theorem ris_uniq {L : List Lk} : ∀ {l k : List Int}, l.Perm k → Ris L l → Ris L k → l = k
  | [], k, hp, _, _ => (List.Perm.nil_eq hp)
  | x :: l, [], hp, _, _ => absurd hp.length_eq (by simp)
  | x :: l, y :: k, hp, hl, hk => by
    have hxy : x = y := by
      by_cases e : x = y
      · exact e
      · have h1 : x ∈ y :: k := hp.subset (by simp)
        have h2 : y ∈ x :: l := hp.symm.subset (by simp)
        rcases List.mem_cons.1 h1 with h1 | h1
        · exact h1
        · rcases List.mem_cons.1 h2 with h2 | h2
          · exact h2.symm
          · exact absurd ((List.pairwise_cons.1 hl).1 y h2) (klt_asymm ((List.pairwise_cons.1 hk).1 x h1))
    subst hxy
    rw [ris_uniq ((List.perm_cons x).1 hp) (List.pairwise_cons.1 hl).2 (List.pairwise_cons.1 hk).2]
/-- The links in the order in which they are examined. -/
def srt (L : List Lk) (l : List Int) : List Int := l.mergeSort (fun x y => !decide (klt L y x))
theorem srt_perm (L : List Lk) (l : List Int) : (srt L l).Perm l := List.mergeSort_perm _ _
theorem srt_ris {L : List Lk} {l : List Int} (h : l.Nodup) : Ris L (srt L l) := by
  have hs := List.pairwise_mergeSort (le := fun x y => !decide (klt L y x)) (fun a b c h1 h2 => by simp only [Bool.not_eq_true', decide_eq_false_iff_not] at *; unfold klt at *; omega) (fun a b => by
    rw [Bool.or_eq_true]
    by_cases h : klt L b a
    · right; simp [klt_asymm h]
    · left; simp [h]) l
  have hn : (srt L l).Nodup := (srt_perm L l).nodup_iff.2 h
  refine (List.pairwise_and_iff.2 ⟨hs, hn⟩).imp ?_
  rintro a b ⟨h1, h2⟩
  rcases klt_total (L := L) h2 with h | h
  · exact h
  · simp at h1; exact absurd h h1
/-- The next element on its way down: what stands ahead of it, what it has passed. -/
structure Ins (L : List Lk) (S1 : List Int) (x : Int) (S2 : List Int) : Prop where
  ris : Ris L (S1 ++ S2)
  pas : ∀ y ∈ S2, klt L x y
  stb : ∀ y ∈ S1, lkW L y = lkW L x → y < x
theorem Ins.step {L : List Lk} {S1 S2 : List Int} {x y : Int} (h : Ins L (S1 ++ [y]) x S2) (hw : lkW L x < lkW L y) : Ins L S1 x (y :: S2) :=
  ⟨by have := h.ris; rw [List.append_assoc] at this; exact this, fun z hz => by
    rcases List.mem_cons.1 hz with rfl | hz
    · exact .inl hw
    · exact h.pas z hz, fun z hz => h.stb z (by simp [hz])⟩
theorem Ins.stop {L : List Lk} {S1 S2 : List Int} {x y : Int} (h : Ins L (S1 ++ [y]) x S2) (hw : ¬ lkW L x < lkW L y) : Ris L (S1 ++ [y] ++ x :: S2) := by
  have hyx : klt L y x := by
    have := h.stb y (by simp)
    unfold klt; omega
  have hr := List.pairwise_append.1 h.ris
  refine List.pairwise_append.2 ⟨hr.1, List.pairwise_cons.2 ⟨fun z hz => h.pas z hz, hr.2.1⟩, fun a ha b hb => ?_⟩
  rcases List.mem_cons.1 hb with rfl | hb
  · rcases List.mem_append.1 ha with ha | ha
    · exact klt_trans ((List.pairwise_append.1 hr.1).2.2 a ha y (by simp)) hyx
    · simp at ha; subst ha; exact hyx
  · exact hr.2.2 a ha b hb
theorem Ins.fin {L : List Lk} {S2 : List Int} {x : Int} (h : Ins L [] x S2) : Ris L (x :: S2) := List.pairwise_cons.2 ⟨h.pas, h.ris⟩
/-- The labels of the notes: notes of one label are connected. -/
def relab (c : Nat → Nat) (p q : Nat) : Nat → Nat := fun i => if c i = p then q else c i
/-- Kruskal's method from a state on: the links still to examine, the labels, what is taken. -/
def krun (L : List Lk) (stop : List Int → (Nat → Nat) → Bool) : List Int → (Nat → Nat) → List Int → List Int × (Nat → Nat)
  | [], c, T => (T, c)
  | i :: r, c, T => match L[i.toNat]? with
    | none => krun L stop r c T
    | some l => if c l.a.toNat = c l.b.toNat then krun L stop r c T else
      if stop (T ++ [i]) (relab c (c l.a.toNat) (c l.b.toNat)) = true then (T ++ [i], relab c (c l.a.toNat) (c l.b.toNat)) else krun L stop r (relab c (c l.a.toNat) (c l.b.toNat)) (T ++ [i])
theorem krun_skip {L : List Lk} {stop : List Int → (Nat → Nat) → Bool} {i : Int} {r T : List Int} {c : Nat → Nat} {l : Lk} (hl : L[i.toNat]? = some l) (h : c l.a.toNat = c l.b.toNat) : krun L stop (i :: r) c T = krun L stop r c T := by
  rw [krun, hl]; simp only [h, if_true]
theorem krun_stop {L : List Lk} {stop : List Int → (Nat → Nat) → Bool} {i : Int} {r T : List Int} {c : Nat → Nat} {l : Lk} (hl : L[i.toNat]? = some l) (h : c l.a.toNat ≠ c l.b.toNat) (hs : stop (T ++ [i]) (relab c (c l.a.toNat) (c l.b.toNat)) = true) :
    krun L stop (i :: r) c T = (T ++ [i], relab c (c l.a.toNat) (c l.b.toNat)) := by
  rw [krun, hl]; simp only [h, if_false, hs, if_true]
theorem krun_go {L : List Lk} {stop : List Int → (Nat → Nat) → Bool} {i : Int} {r T : List Int} {c : Nat → Nat} {l : Lk} (hl : L[i.toNat]? = some l) (h : c l.a.toNat ≠ c l.b.toNat) (hs : stop (T ++ [i]) (relab c (c l.a.toNat) (c l.b.toNat)) = false) :
    krun L stop (i :: r) c T = krun L stop r (relab c (c l.a.toNat) (c l.b.toNat)) (T ++ [i]) := by
  rw [krun, hl]; simp only [h, if_false, hs]; rfl
def idxs (n : Nat) : List Int := (List.range n).map Int.ofNat
theorem idxs_nodup (n : Nat) : (idxs n).Nodup := List.Pairwise.map Int.ofNat (fun _a _b h e => h (Int.ofNat.inj e)) List.nodup_range
def kruL (L : List Lk) (stop : List Int → (Nat → Nat) → Bool) : List Int × (Nat → Nat) := krun L stop (srt L (idxs L.length)) id []
/-- Parents p that keep labels c, each step lower by h, one root a label. -/
structure UF (p c h : Nat → Nat) : Prop where
  lt : ∀ i, i < 64 → p i < 64
  dn : ∀ i, i < 64 → p i ≠ i → h (p i) < h i
  lab : ∀ i, i < 64 → c (p i) = c i
  one : ∀ i j, i < 64 → j < 64 → p i = i → p j = j → c i = c j → i = j
def upd (p : Nat → Nat) (k v : Nat) : Nat → Nat := fun i => if i = k then v else p i
/-- The same roots. -/
def Rts (p q : Nat → Nat) : Prop := ∀ i, i < 64 → (p i = i ↔ q i = i)
theorem Rts.refl (p : Nat → Nat) : Rts p p := fun _ _ => Iff.rfl
theorem Rts.trans {p q r : Nat → Nat} (h : Rts p q) (k : Rts q r) : Rts p r := fun i hi => (h i hi).trans (k i hi)
theorem UF.start : UF id id id := ⟨fun _ h => h, fun _i _ h => absurd rfl h, fun _ _ => rfl, fun _ _ _ _ _ _ h => h⟩
theorem UF.halve {p c h : Nat → Nat} (u : UF p c h) {n : Nat} (hn : n < 64) (hr : p n ≠ n) : UF (upd p n (p (p n))) c h ∧ Rts p (upd p n (p (p n))) ∧ h (p (p n)) < h n := by
  have h1 := u.dn n hn hr
  have h2 : h (p (p n)) < h n := by
    by_cases e : p (p n) = p n
    · rw [e]; exact h1
    · exact Nat.lt_trans (u.dn _ (u.lt n hn) e) h1
  have h3 : p (p n) ≠ n := fun e => by rw [e] at h2; omega
  refine ⟨⟨fun i hi => ?_, fun i hi he => ?_, fun i hi => ?_, fun i j hi hj ei ej => ?_⟩, fun i hi => ?_, h2⟩
  · unfold upd; split
    · exact u.lt _ (u.lt _ hn)
    · exact u.lt i hi
  · unfold upd at he ⊢; split at he
    · rename_i e; subst e; simp only [if_true]; exact h2
    · rename_i e; simp only [e, if_false]; exact u.dn i hi he
  · unfold upd; split
    · rename_i e; subst e; rw [u.lab _ (u.lt _ hn), u.lab _ hn]
    · exact u.lab i hi
  · unfold upd at ei ej
    split at ei
    · rename_i e; subst e; exact absurd ei h3
    · split at ej
      · rename_i e; subst e; exact absurd ej h3
      · exact u.one i j hi hj ei ej
  · unfold upd
    split
    · rename_i e; subst e; exact ⟨fun e => absurd e hr, fun e => absurd e h3⟩
    · exact Iff.rfl
theorem UF.union {p c h : Nat → Nat} (u : UF p c h) {a b : Nat} (ha : a < 64) (hb : b < 64) (ra : p a = a) (rb : p b = b) (hne : a ≠ b) :
    c a ≠ c b ∧ ∃ h', UF (upd p a b) (relab c (c a) (c b)) h' := by
  have hc : c a ≠ c b := fun e => hne (u.one a b ha hb ra rb e)
  refine ⟨hc, fun i => h i + (if c i = c a then h b + 1 else 0), ⟨fun i hi => ?_, fun i hi he => ?_, fun i hi => ?_, fun i j hi hj ei ej hl => ?_⟩⟩
  · unfold upd; split
    · exact hb
    · exact u.lt i hi
  · unfold upd at he ⊢; split at he
    · rename_i e; subst e; simp only [if_true, if_neg (Ne.symm hc)]; omega
    · rename_i e; simp only [e, if_false]; have := u.dn i hi he; rw [u.lab i hi]; omega
  · unfold upd relab; split
    · rename_i e; subst e; simp only [if_true, if_neg (Ne.symm hc)]
    · rw [u.lab i hi]
  · unfold upd at ei ej
    have key : ∀ k, k < 64 → k ≠ a → p k = k → relab c (c a) (c b) k = c k := fun k hk hka rk => by
      unfold relab
      exact if_neg fun e => hka (u.one k a hk ha rk ra e)
    split at ei
    · rename_i e; exact absurd (e.symm.trans ei.symm) hne
    · rename_i hia
      split at ej
      · rename_i e; exact absurd (e.symm.trans ej.symm) hne
      · rename_i hja
        rw [key i hi hia ei, key j hj hja ej] at hl
        exact u.one i j hi hj ei ej hl
end Go.Proofs.YtojbldoekalbnaaGreat
