/-
  Plain mathematics of the search along shortest ways: one row is placed. No program in sight.
-/
import Derived.Test.YtjdhcdoekfikpaaMHung
namespace Go.Proofs.Ytjdhcdoekfikpaa

def aF (T : List (List Int)) (i j : Nat) : Int := if ct T (i - 1) (j - 1) = -1 then 1000000000000 else ct T (i - 1) (j - 1)
def nearD (a : Nat → Nat → Int) (u v : List Int) (row j : Nat) : Int := a row j - u.getD row 0 - v.getD j 0
def searchF (a : Nat → Nat → Int) (m : Nat) (p : List Nat) : Nat → Nat → List Int → List Int → List Int → List Nat → List Bool → List Int × List Int × List Nat × Nat
  | 0, col, u, v, _, way, _ => (u, v, way, col)
  | f + 1, col, u, v, least, way, used =>
    if p.getD (nearF (nearD a u v (p.getD col 0)) (used.set col true) col least way m).2.2 0 = 0 then
      ((shiftF ((nearF (nearD a u v (p.getD col 0)) (used.set col true) col least way m).1.getD (nearF (nearD a u v (p.getD col 0)) (used.set col true) col least way m).2.2 0) (used.set col true) p (u, v, (nearF (nearD a u v (p.getD col 0)) (used.set col true) col least way m).1) (m + 1)).1,
       (shiftF ((nearF (nearD a u v (p.getD col 0)) (used.set col true) col least way m).1.getD (nearF (nearD a u v (p.getD col 0)) (used.set col true) col least way m).2.2 0) (used.set col true) p (u, v, (nearF (nearD a u v (p.getD col 0)) (used.set col true) col least way m).1) (m + 1)).2.1,
       (nearF (nearD a u v (p.getD col 0)) (used.set col true) col least way m).2.1, (nearF (nearD a u v (p.getD col 0)) (used.set col true) col least way m).2.2)
    else
      searchF a m p f (nearF (nearD a u v (p.getD col 0)) (used.set col true) col least way m).2.2
        (shiftF ((nearF (nearD a u v (p.getD col 0)) (used.set col true) col least way m).1.getD (nearF (nearD a u v (p.getD col 0)) (used.set col true) col least way m).2.2 0) (used.set col true) p (u, v, (nearF (nearD a u v (p.getD col 0)) (used.set col true) col least way m).1) (m + 1)).1
        (shiftF ((nearF (nearD a u v (p.getD col 0)) (used.set col true) col least way m).1.getD (nearF (nearD a u v (p.getD col 0)) (used.set col true) col least way m).2.2 0) (used.set col true) p (u, v, (nearF (nearD a u v (p.getD col 0)) (used.set col true) col least way m).1) (m + 1)).2.1
        (shiftF ((nearF (nearD a u v (p.getD col 0)) (used.set col true) col least way m).1.getD (nearF (nearD a u v (p.getD col 0)) (used.set col true) col least way m).2.2 0) (used.set col true) p (u, v, (nearF (nearD a u v (p.getD col 0)) (used.set col true) col least way m).1) (m + 1)).2.2
        (nearF (nearD a u v (p.getD col 0)) (used.set col true) col least way m).2.1 (used.set col true)
theorem searchF_step (a : Nat → Nat → Int) (m : Nat) (p : List Nat) (f col : Nat) (u v least : List Int) (way : List Nat) (used : List Bool) {s : List Int × List Nat × Nat} {t : Shs} (hs : nearF (nearD a u v (p.getD col 0)) (used.set col true) col least way m = s) (ht : shiftF (s.1.getD s.2.2 0) (used.set col true) p (u, v, s.1) (m + 1) = t) :
    searchF a m p (f + 1) col u v least way used = if p.getD s.2.2 0 = 0 then (t.1, t.2.1, s.2.1, s.2.2) else searchF a m p f s.2.2 t.1 t.2.1 t.2.2 s.2.1 (used.set col true) := by
  subst hs; subst ht; rw [searchF]
def BIG : Int := 4000000000000000000
def DEAR : Int := 1000000000000
/-- What stays of the row of each column while a row is placed. -/
structure PC (n m r : Nat) (p : List Nat) : Prop where
  len : p.length = m + 1
  p0 : p.getD 0 0 = r
  r1 : 1 ≤ r
  rn : r ≤ n
  lt : ∀ j, 1 ≤ j → j ≤ m → p.getD j 0 < r
  inj : ∀ i j, i ≤ m → j ≤ m → p.getD i 0 = p.getD j 0 → p.getD i 0 ≠ 0 → i = j
  free : ∃ j, 1 ≤ j ∧ j ≤ m ∧ p.getD j 0 = 0
theorem PC.le {n m r : Nat} {p : List Nat} (h : PC n m r p) {j : Nat} (hj : j ≤ m) : p.getD j 0 ≤ r := by
  cases j with
  | zero => rw [h.p0]; exact Nat.le_refl _
  | succ j => exact Nat.le_of_lt (h.lt _ (by omega) hj)
/-- The columns that were used, the last one first: each but column 0 was come to from an earlier one. -/
def Path (way : List Nat) : List Nat → Prop
  | [] => True
  | j :: r => ((j = 0 ∧ r = []) ∨ (j ≠ 0 ∧ way.getD j 0 ∈ r)) ∧ j ∉ r ∧ Path way r
theorem Path.congr {way way' : List Nat} : ∀ {ord : List Nat}, (∀ j ∈ ord, way'.getD j 0 = way.getD j 0) → Path way ord → Path way' ord
  | [], _, _ => trivial
  | j :: r, h, ⟨h1, h2, h3⟩ => by
    refine ⟨?_, h2, Path.congr (fun i hi => h i (by simp [hi])) h3⟩
    rcases h1 with h1 | ⟨h1, h4⟩
    · exact .inl h1
    · exact .inr ⟨h1, by rw [h j (by simp)]; exact h4⟩
theorem Path.nodup {way : List Nat} : ∀ {ord : List Nat}, Path way ord → ord.Nodup
  | [], _ => List.nodup_nil
  | _j :: _r, h => List.nodup_cons.2 ⟨h.2.1, Path.nodup h.2.2⟩
theorem Path.zero {way : List Nat} : ∀ {ord : List Nat}, Path way ord → ord ≠ [] → 0 ∈ ord
  | j :: r, h, _ => by
    rcases h.1 with ⟨h1, _⟩ | ⟨_, h2⟩
    · simp [h1]
    · have : r ≠ [] := fun e => by rw [e] at h2; simp at h2
      exact List.mem_cons_of_mem _ (Path.zero h.2.2 this)
/-- THE SEARCH's STATE at a round's head. -/
structure SI (a : Nat → Nat → Int) (n m r : Nat) (u0 v0 : List Int) (p : List Nat) (ord : List Nat) (col : Nat) (u v least : List Int) (way : List Nat) (used : List Bool) (dl : Int) : Prop where
  lu : u.length = n + 1
  lv : v.length = m + 1
  ll : least.length = m + 1
  lw : way.length = m + 1
  ls : used.length = m + 1
  cm : col ≤ m
  nc : col ∉ ord
  us : ∀ j, used.getD j false = true ↔ j ∈ ord
  om : ∀ j ∈ ord, j ≤ m
  op : ∀ j ∈ ord, p.getD j 0 ≠ 0
  path : Path way ord
  hd : (ord = [] ∧ col = 0) ∨ (ord ≠ [] ∧ col ≠ 0 ∧ way.getD col 0 ∈ ord ∧ u.getD (p.getD (way.getD col 0) 0) 0 + v.getD col 0 = a (p.getD (way.getD col 0) 0) col)
  tp : ∀ j ∈ ord, j ≠ 0 → u.getD (p.getD (way.getD j 0) 0) 0 + v.getD j 0 = a (p.getD (way.getD j 0) 0) j
  feas : ∀ i j, 1 ≤ i → i ≤ n → 1 ≤ j → j ≤ m → u.getD i 0 + v.getD j 0 ≤ a i j
  tm : ∀ j, 1 ≤ j → j ≤ m → p.getD j 0 ≠ 0 → u.getD (p.getD j 0) 0 + v.getD j 0 = a (p.getD j 0) j
  vneg : ∀ j, 1 ≤ j → j ≤ m → v.getD j 0 ≤ 0
  vfree : ∀ j, 1 ≤ j → j ≤ m → p.getD j 0 = 0 → v.getD j 0 = 0
  le : ord ≠ [] → ∀ j, 1 ≤ j → j ≤ m → j ∉ ord → way.getD j 0 ∈ ord ∧ least.getD j 0 = nearD a u v (p.getD (way.getD j 0) 0) j ∧ ∀ i ∈ ord, least.getD j 0 ≤ nearD a u v (p.getD i 0) j
  lb : ord = [] → ∀ j, 1 ≤ j → j ≤ m → least.getD j 0 = BIG
  d0 : 0 ≤ dl
  d1 : dl ≤ DEAR
  dr : u.getD r 0 = dl
  du : ∀ i, u0.getD i 0 ≤ u.getD i 0 ∧ u.getD i 0 ≤ u0.getD i 0 + dl
  dv : ∀ j, v0.getD j 0 - dl ≤ v.getD j 0 ∧ v.getD j 0 ≤ v0.getD j 0
  fl : ∀ i, r < i → u.getD i 0 = u0.getD i 0
theorem getD_getD_out {α : Type} (l : List α) (k : Nat) (d : α) (h : l.length ≤ k) : l.getD k d = d := by simp [List.getD_eq_getElem?_getD, h]
set_option maxHeartbeats 1000000 in
theorem search_step {a : Nat → Nat → Int} {n m r : Nat} {u0 v0 : List Int} {p : List Nat} (hp : PC n m r p) (ha : ∀ i j, 1 ≤ i → i ≤ n → 1 ≤ j → j ≤ m → 0 ≤ a i j ∧ a i j ≤ DEAR)
    (hu0 : ∀ i, -(1000 * DEAR) ≤ u0.getD i 0) (hv0 : ∀ j, -(1000 * DEAR) ≤ v0.getD j 0) {ord : List Nat} {col : Nat} {u v least : List Int} {way : List Nat} {used : List Bool} {dl : Int}
    (h : SI a n m r u0 v0 p ord col u v least way used dl) (hpc : p.getD col 0 ≠ 0) {s : List Int × List Nat × Nat} {t : Shs} (hs : nearF (nearD a u v (p.getD col 0)) (used.set col true) col least way m = s) (ht : shiftF (s.1.getD s.2.2 0) (used.set col true) p (u, v, s.1) (m + 1) = t) :
    s.2.2 ≠ 0 ∧ ∃ dl', SI a n m r u0 v0 p (col :: ord) s.2.2 t.1 t.2.1 t.2.2 s.2.1 (used.set col true) dl' := by
  have hD : DEAR = 1000000000000 := rfl
  have hB : BIG = 4000000000000000000 := rfl
  have cm := h.cm
  have ls := h.ls
  have us' : ∀ j, (used.set col true).getD j false = true ↔ j ∈ col :: ord := fun j => by
    by_cases e : j = col
    · subst e; rw [getD_set_eq _ _ _ _ (by omega)]; simp
    · rw [getD_set_ne _ _ _ _ _ (fun e' => e e'.symm), h.us j]; simp [e]
  have un' : ∀ j, j ∉ col :: ord → (used.set col true).getD j false = false := fun j hj => by
    cases hx : (used.set col true).getD j false
    · rfl
    · exact absurd ((us' j).1 hx) hj
  have om' : ∀ j ∈ col :: ord, j ≤ m := fun j hj => by
    rcases List.mem_cons.1 hj with rfl | hj
    · exact cm
    · exact h.om j hj
  have op' : ∀ j ∈ col :: ord, p.getD j 0 ≠ 0 := fun j hj => by
    rcases List.mem_cons.1 hj with rfl | hj
    · exact hpc
    · exact h.op j hj
  have ple : ∀ j ∈ col :: ord, 1 ≤ p.getD j 0 ∧ p.getD j 0 ≤ n := fun j hj => ⟨Nat.pos_of_ne_zero (op' j hj), Nat.le_trans (hp.le (om' j hj)) hp.rn⟩
  have hN := near_ok (nearD a u v (p.getD col 0)) (used.set col true) col least way m (by rw [h.ll]; omega) (by rw [h.lw]; omega)
  rw [hs] at hN
  have z' : 0 ∈ col :: ord := by
    rcases h.hd with ⟨_, e⟩ | ⟨e, _⟩
    · simp [e]
    · exact List.mem_cons_of_mem _ (h.path.zero e)
  -- of each column that is not used
  have key : ∀ j, 1 ≤ j → j ≤ m → j ∉ col :: ord → s.2.1.getD j 0 ∈ col :: ord ∧ s.1.getD j 0 = nearD a u v (p.getD (s.2.1.getD j 0) 0) j ∧ ∀ i ∈ col :: ord, s.1.getD j 0 ≤ nearD a u v (p.getD i 0) j := fun j h1 h2 h3 => by
    have hj := un' j h3
    have hjo : j ∉ ord := fun hx => h3 (List.mem_cons_of_mem _ hx)
    by_cases hd : nearD a u v (p.getD col 0) j < least.getD j 0
    · obtain ⟨e1, e2⟩ := hN.low j h1 h2 hj hd
      rw [e1, e2]
      refine ⟨by simp, rfl, fun i hi => ?_⟩
      rcases List.mem_cons.1 hi with rfl | hi
      · exact Int.le_refl _
      · have hne : ord ≠ [] := fun e => by rw [e] at hi; simp at hi
        have := (h.le hne j h1 h2 hjo).2.2 i hi
        omega
    · obtain ⟨e1, e2⟩ := hN.high j h1 h2 hj hd
      rw [e1, e2]
      by_cases hne : ord = []
      · exfalso
        rw [h.lb hne j h1 h2] at hd
        have b1 := (ha (p.getD col 0) j (ple col (by simp)).1 (ple col (by simp)).2 h1 h2).2
        have b2 := (h.du (p.getD col 0)).1
        have b3 := hu0 (p.getD col 0)
        have b4 := (h.dv j).1
        have b5 := hv0 j
        have b6 := h.d1
        unfold nearD at hd
        omega
      · obtain ⟨c1, c2, c3⟩ := h.le hne j h1 h2 hjo
        refine ⟨List.mem_cons_of_mem _ c1, c2, fun i hi => ?_⟩
        rcases List.mem_cons.1 hi with rfl | hi
        · omega
        · exact c3 i hi
  have nn : ∀ j, 1 ≤ j → j ≤ m → ∀ i ∈ col :: ord, 0 ≤ nearD a u v (p.getD i 0) j := fun j h1 h2 i hi => by
    have := h.feas (p.getD i 0) j (ple i hi).1 (ple i hi).2 h1 h2
    unfold nearD; omega
  obtain ⟨jf, jf1, jf2, jf3⟩ := hp.free
  have jfn : jf ∉ col :: ord := fun hx => op' jf hx jf3
  have hn0 : s.2.2 ≠ 0 := fun e => by
    have := (us' jf).1 (hN.none e jf jf1 jf2)
    exact jfn this
  obtain ⟨nm, nu, nmin⟩ := hN.some hn0
  have nno : s.2.2 ∉ col :: ord := fun hx => by rw [(us' _).2 hx] at nu; cases nu
  have n1 : 1 ≤ s.2.2 := Nat.pos_of_ne_zero hn0
  obtain ⟨kx1, kx2, kx3⟩ := key s.2.2 n1 nm nno
  obtain ⟨b, hb⟩ : ∃ b, s.1.getD s.2.2 0 = b := ⟨_, rfl⟩
  have hb0 : 0 ≤ b := by rw [← hb, kx2]; exact nn _ n1 nm _ kx1
  have hbmin : ∀ j, 1 ≤ j → j ≤ m → j ∉ col :: ord → ∀ i ∈ col :: ord, b ≤ nearD a u v (p.getD i 0) j := fun j h1 h2 h3 i hi => by
    have := nmin j h1 h2 (un' j h3)
    have := (key j h1 h2 h3).2.2 i hi
    omega
  have hS := shift_ok b (used.set col true) p (u, v, s.1) (m + 1) (by show m + 1 ≤ v.length; rw [h.lv]; omega) (by show m + 1 ≤ s.1.length; rw [hN.l1, h.ll]; omega)
    (fun j hj => by show p.getD j 0 < u.length; rw [h.lu]; have := hp.le (j := j) (by omega); have := hp.rn; omega)
    (fun i j hi hj hiu hju e => hp.inj i j (by omega) (by omega) e (op' i ((us' i).1 hiu)))
  rw [hb] at ht
  rw [ht] at hS
  have U1 : ∀ j ∈ col :: ord, t.1.getD (p.getD j 0) 0 = u.getD (p.getD j 0) 0 + b := fun j hj => hS.up j (by have := om' j hj; omega) ((us' j).2 hj)
  have U2 : ∀ i, (∀ j ∈ col :: ord, p.getD j 0 ≠ i) → t.1.getD i 0 = u.getD i 0 := fun i hi => hS.flat i (fun j _ hju => hi j ((us' j).1 hju))
  have V1 : ∀ j ∈ col :: ord, t.2.1.getD j 0 = v.getD j 0 - b := fun j hj => hS.down j (by have := om' j hj; omega) ((us' j).2 hj)
  have V2 : ∀ j, j ∉ col :: ord → t.2.1.getD j 0 = v.getD j 0 := fun j hj => hS.keep j (.inr (un' j hj))
  have W : ∀ j ∈ col :: ord, s.2.1.getD j 0 = way.getD j 0 := fun j hj => (hN.same j (.inr (.inr ((us' j).2 hj)))).2
  have Udec : ∀ i, (∃ j ∈ col :: ord, p.getD j 0 = i) ∨ (∀ j ∈ col :: ord, p.getD j 0 ≠ i) := fun i => by
    by_cases hx : ∃ j ∈ col :: ord, p.getD j 0 = i
    · exact .inl hx
    · exact .inr fun j hj e => hx ⟨j, hj, e⟩
  -- the same sums of what is used
  have keep2 : ∀ i ∈ col :: ord, ∀ j ∈ col :: ord, t.1.getD (p.getD i 0) 0 + t.2.1.getD j 0 = u.getD (p.getD i 0) 0 + v.getD j 0 := fun i hi j hj => by rw [U1 i hi, V1 j hj]; omega
  have hdr : r = p.getD 0 0 := hp.p0.symm
  have hbd : b ≤ DEAR - dl := by
    have h1 := hbmin jf jf1 jf2 jfn 0 z'
    have h2 := (ha r jf hp.r1 hp.rn jf1 jf2).2
    have h3 := h.vfree jf jf1 jf2 jf3
    have h4 := h.dr
    unfold nearD at h1
    rw [← hdr] at h1
    omega
  refine ⟨hn0, dl + b, ?_⟩
  refine ⟨hS.l1.trans h.lu, hS.l2.trans h.lv, hS.l3.trans (hN.l1.trans h.ll), hN.l2.trans h.lw, by simpa using h.ls, nm, nno, us', om', op', ?_, ?_, ?_, ?_, ?_, ?_, ?_, ?_, ?_, ?_, ?_, ?_, ?_, ?_, ?_⟩
  · -- path
    refine ⟨?_, h.nc, h.path.congr fun j hj => W j (List.mem_cons_of_mem _ hj)⟩
    rcases h.hd with ⟨e1, e2⟩ | ⟨_, e2, e3, _⟩
    · exact .inl ⟨e2, e1⟩
    · exact .inr ⟨e2, by rw [W col (by simp)]; exact e3⟩
  · -- hd
    refine .inr ⟨by simp, hn0, kx1, ?_⟩
    rw [U1 _ kx1, V2 _ nno]
    rw [hb] at kx2
    unfold nearD at kx2
    omega
  · -- tp
    intro j hj hj0
    rw [W j hj]
    rcases List.mem_cons.1 hj with rfl | hjo
    · rcases h.hd with ⟨_, e⟩ | ⟨_, _, e3, e4⟩
      · exact absurd e hj0
      · rw [keep2 _ (List.mem_cons_of_mem _ e3) _ hj]; exact e4
    · have hw : way.getD j 0 ∈ ord := by
        suffices H : ∀ o : List Nat, Path way o → ∀ j ∈ o, j ≠ 0 → way.getD j 0 ∈ o from H ord h.path j hjo hj0
        intro o
        induction o with
        | nil => intro _ j hj; simp at hj
        | cons x r ih =>
          intro hp j hj h0
          rcases List.mem_cons.1 hj with rfl | hj
          · rcases hp.1 with ⟨e, _⟩ | ⟨_, e⟩
            · exact absurd e h0
            · exact List.mem_cons_of_mem _ e
          · exact List.mem_cons_of_mem _ (ih hp.2.2 j hj h0)
      rw [keep2 _ (List.mem_cons_of_mem _ hw) _ hj]
      exact h.tp j hjo hj0
  · -- feas
    intro i j h1 h2 h3 h4
    have hf := h.feas i j h1 h2 h3 h4
    rcases Udec i with ⟨i0, hi0, rfl⟩ | hi
    · by_cases hj : j ∈ col :: ord
      · rw [keep2 _ hi0 _ hj]; exact hf
      · rw [U1 _ hi0, V2 _ hj]
        have := hbmin j h3 h4 hj i0 hi0
        unfold nearD at this
        omega
    · rw [U2 i hi]
      by_cases hj : j ∈ col :: ord
      · rw [V1 j hj]; omega
      · rw [V2 j hj]; exact hf
  · -- tm
    intro j h1 h2 h3
    have hf := h.tm j h1 h2 h3
    by_cases hj : j ∈ col :: ord
    · rw [keep2 _ hj _ hj]; exact hf
    · rw [U2 _ (fun i hi e => hj (by have := hp.inj i j (om' i hi) h2 e (op' i hi); rwa [this] at hi)), V2 j hj]; exact hf
  · -- vneg
    intro j h1 h2
    have := h.vneg j h1 h2
    by_cases hj : j ∈ col :: ord
    · rw [V1 j hj]; omega
    · rw [V2 j hj]; exact this
  · -- vfree
    intro j h1 h2 h3
    rw [V2 j (fun hj => op' j hj h3)]; exact h.vfree j h1 h2 h3
  · -- le
    intro _ j h1 h2 h3
    obtain ⟨k1, k2, k3⟩ := key j h1 h2 h3
    have hl : t.2.2.getD j 0 = s.1.getD j 0 - b := hS.less j (by omega) (un' j h3)
    refine ⟨k1, ?_, fun i hi => ?_⟩
    · rw [hl, k2]; unfold nearD; rw [U1 _ k1, V2 _ h3]; omega
    · have := k3 i hi
      rw [hl]; unfold nearD at this ⊢; rw [U1 _ hi, V2 _ h3]; omega
  · intro e; simp at e
  · have := h.d0; omega
  · omega
  · have := U1 0 z'
    rw [← hdr] at this
    rw [this, h.dr]
  · intro i
    have := h.du i
    have := h.d0
    rcases Udec i with ⟨i0, hi0, rfl⟩ | hi
    · rw [U1 _ hi0]; omega
    · rw [U2 i hi]; omega
  · intro j
    have := h.dv j
    by_cases hj : j ∈ col :: ord
    · rw [V1 j hj]; omega
    · rw [V2 j hj]; omega
  · intro i hi
    rw [U2 i (fun j hj e => by have := hp.le (om' j hj); omega)]
    exact h.fl i hi
theorem search_ok {a : Nat → Nat → Int} {n m r : Nat} {u0 v0 : List Int} {p : List Nat} (hp : PC n m r p) (ha : ∀ i j, 1 ≤ i → i ≤ n → 1 ≤ j → j ≤ m → 0 ≤ a i j ∧ a i j ≤ DEAR)
    (hu0 : ∀ i, -(1000 * DEAR) ≤ u0.getD i 0) (hv0 : ∀ j, -(1000 * DEAR) ≤ v0.getD j 0) : ∀ (f : Nat) (ord : List Nat) (col : Nat) (u v least : List Int) (way : List Nat) (used : List Bool) (dl : Int),
    SI a n m r u0 v0 p ord col u v least way used dl → p.getD col 0 ≠ 0 → m + 1 ≤ f + ord.length →
    ∃ ord' least' used' dl' u' v' way' col', searchF a m p f col u v least way used = (u', v', way', col') ∧ SI a n m r u0 v0 p ord' col' u' v' least' way' used' dl' ∧ col' ≠ 0 ∧ p.getD col' 0 = 0 := by
  intro f
  induction f with
  | zero =>
    intro ord col u v least way used dl h hpc hf
    exfalso
    obtain ⟨jf, jf1, jf2, jf3⟩ := hp.free
    have hnd := h.path.nodup
    have : (jf :: ord).length ≤ (List.range (m + 1)).length := length_le_of_nodup _ _ (List.nodup_cons.2 ⟨fun hx => h.op jf hx jf3, hnd⟩) (fun x hx => by
      rcases List.mem_cons.1 hx with rfl | hx
      · exact List.mem_range.2 (by omega)
      · exact List.mem_range.2 (by have := h.om x hx; omega))
    simp at this; omega
  | succ f ih =>
    intro ord col u v least way used dl h hpc hf
    obtain ⟨s, hs⟩ : ∃ s, nearF (nearD a u v (p.getD col 0)) (used.set col true) col least way m = s := ⟨_, rfl⟩
    obtain ⟨t, ht⟩ : ∃ t, shiftF (s.1.getD s.2.2 0) (used.set col true) p (u, v, s.1) (m + 1) = t := ⟨_, rfl⟩
    obtain ⟨hn0, dl', hs'⟩ := search_step hp ha hu0 hv0 h hpc hs ht
    rw [searchF_step a m p f col u v least way used hs ht]
    by_cases hpn : p.getD s.2.2 0 = 0
    · rw [if_pos hpn]
      exact ⟨_, _, _, _, _, _, _, _, rfl, hs', hn0, hpn⟩
    · rw [if_neg hpn]
      exact ih _ _ _ _ _ _ _ _ hs' hpn (by simp only [List.length_cons]; omega)
end Go.Proofs.Ytjdhcdoekfikpaa
