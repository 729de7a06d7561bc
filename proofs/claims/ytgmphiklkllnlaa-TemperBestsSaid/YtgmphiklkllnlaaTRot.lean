/-
  Plain mathematics of a ring: a ring that is rotated, or gone round the other way, costs the same. No program in sight.
-/
import Derived.Test.YtgmphiklkllnlaaTDv
namespace Go.Proofs.Ytgmphiklkllnlaa
theorem totF_rot (f : Nat → Int) {N b : Nat} (hb : b < N) : totF (fun i => f ((i + b) % N)) 0 N = totF f 0 N := by
  rw [totF_cut (fun i => f ((i + b) % N)) 0 (show N = (N - b) + b by omega), totF_cut f 0 (show N = b + (N - b) by omega)]
  have h1 : totF (fun i => f ((i + b) % N)) 0 (N - b) = totF f (0 + b) (N - b) := by
    rw [totF_shift]
    refine totF_congr (fun i _ hi => ?_)
    show f ((i + b) % N) = f (i + b)
    rw [Nat.mod_eq_of_lt (by omega)]
  have h2 : totF (fun i => f ((i + b) % N)) (0 + (N - b)) b = totF f 0 b := by
    rw [totF_shift]
    refine totF_congr (fun i _ hi => ?_)
    show f ((i + (N - b) + b) % N) = f i
    rw [show i + (N - b) + b = i + N by omega, Nat.add_mod_right, Nat.mod_eq_of_lt (by omega)]
  rw [h1, h2]
  omega
theorem totF_rev (f : Nat → Int) : ∀ n, totF (fun i => f (n - 1 - i)) 0 n = totF f 0 n
  | 0 => rfl
  | n + 1 => by
    rw [totF_snoc f n, ← totF_rev f n, totF, show (0 + 1 : Nat) = 0 + 1 from rfl, totF_shift]
    have : totF (fun i => f (n + 1 - 1 - (i + 1))) 0 n = totF (fun i => f (n - 1 - i)) 0 n := totF_congr (fun i _ hi => by rw [show n + 1 - 1 - (i + 1) = n - 1 - i by omega])
    rw [this, show n + 1 - 1 - 0 = n by omega]
    omega
theorem cost_two (r : Rg) (st : List Int) : r.cost st = totF (fun i => r.fi.getD i 0 * st.getD i 0 * st.getD i 0) 0 r.N + totF (fun i => r.th.getD i 0 * r.err st i r.S * r.err st i r.S) 0 r.N := by
  rw [← totF_add]; rfl
/-- A list by its entries. -/
def tabL (n : Nat) (f : Nat → Int) : List Int := (List.range n).map f
theorem tabL_len (n : Nat) (f : Nat → Int) : (tabL n f).length = n := by simp [tabL]
theorem tabL_get {n : Nat} {f : Nat → Int} {i : Nat} (hi : i < n) : (tabL n f).getD i 0 = f i := by
  unfold tabL
  rw [List.getD_eq_getElem?_getD, List.getElem?_map, List.getElem?_range hi]
  rfl
theorem tabL_mem {n : Nat} {f : Nat → Int} {x : Int} : x ∈ tabL n f ↔ ∃ i, i < n ∧ f i = x := by
  simp [tabL]
theorem tabL_self {l : List Int} {n : Nat} {f : Nat → Int} (hl : l.length = n) (h : ∀ i, i < n → f i = l.getD i 0) : tabL n f = l := by
  refine List.ext_getElem? (fun i => ?_)
  by_cases c : i < n
  · unfold tabL
    rw [List.getElem?_map, List.getElem?_range c, Option.map_some, h i c, List.getElem?_eq_getElem (by omega), List.getD_eq_getElem?_getD, List.getElem?_eq_getElem (by omega)]
    rfl
  · rw [List.getElem?_eq_none (by rw [tabL_len]; omega), List.getElem?_eq_none (by omega)]
theorem getD_mem {l : List Int} {i : Nat} (h : i < l.length) : l.getD i 0 ∈ l := by
  rw [List.getD_eq_getElem?_getD, List.getElem?_eq_getElem h]
  exact List.getElem_mem h
theorem mem_getD {l : List Int} {x : Int} (h : x ∈ l) : ∃ i, i < l.length ∧ l.getD i 0 = x := by
  obtain ⟨i, hi, e⟩ := List.getElem_of_mem h
  exact ⟨i, hi, by rw [List.getD_eq_getElem?_getD, List.getElem?_eq_getElem hi]; exact e⟩
/-- Two rings with the same bounds, and a way from good steps of the one to good steps of the other that cost the same. -/
structure Like (r q : Rg) (f : List Int → List Int) : Prop where
  good : ∀ st, r.Good st → q.Good (f st) ∧ q.cost (f st) = r.cost st
theorem Like.best {r q : Rg} {f g : List Int → List Int} (h : Like r q f) (k : Like q r g) {st tt : List Int} {c d : Int} (hb : r.Best st c) (kb : q.Best tt d) : c = d := by
  obtain ⟨a1, a2⟩ := h.good st hb.good
  obtain ⟨b1, b2⟩ := k.good tt kb.good
  have e1 := kb.least _ a1
  have e2 := hb.least _ b1
  rw [a2, hb.cost] at e1
  rw [b2, kb.cost] at e2
  omega
/-- Steps, or weights, rotated to the left. -/
def rotL (b : Nat) (l : List Int) : List Int := tabL l.length (fun i => l.getD ((i + b) % l.length) 0)
theorem rotL_len (b : Nat) (l : List Int) : (rotL b l).length = l.length := tabL_len _ _
theorem rotL_get {b : Nat} {l : List Int} {i N : Nat} (hl : l.length = N) (hi : i < N) : (rotL b l).getD i 0 = l.getD ((i + b) % N) 0 := by
  subst hl; exact tabL_get hi
theorem rotL_back {b : Nat} {l : List Int} {N : Nat} (hl : l.length = N) (hb : b < N) : rotL (N - b) (rotL b l) = l := by
  have h0 : (rotL b l).length = N := by rw [rotL_len, hl]
  refine tabL_self (by rw [rotL_len]) (fun i hi => ?_)
  have hi' : i < N := by omega
  rw [h0, rotL_get hl (Nat.mod_lt _ (by omega)), Nat.mod_add_mod, show i + (N - b) + b = i + N by omega, Nat.add_mod_right, Nat.mod_eq_of_lt hi']
theorem rotL_mem {b : Nat} {l : List Int} {x : Int} (h : x ∈ rotL b l) : x ∈ l := by
  obtain ⟨i, hi, rfl⟩ := tabL_mem.1 h
  exact getD_mem (Nat.mod_lt _ (by omega))
theorem rotL_mod {b : Nat} {l : List Int} {N : Nat} (hl : l.length = N) : rotL (b % N) l = rotL b l := by
  unfold rotL
  rw [hl]
  congr 1
  funext i
  rw [Nat.add_mod_mod]
/-- A ring whose weights are rotated. -/
def Rg.rot (r : Rg) (b : Nat) : Rg := { r with fi := rotL b r.fi, th := rotL b r.th }
theorem Rg.rot_ok {r : Rg} (hr : r.Ok) (b : Nat) : (r.rot b).Ok :=
  ⟨hr.n1, hr.n2, hr.s1, hr.s2, hr.s3, hr.l1, hr.l2, hr.h1, hr.h2, hr.t1, hr.t2, hr.p1, hr.p2, hr.w1, hr.w2, (rotL_len _ _).trans hr.fl, (rotL_len _ _).trans hr.tl,
    fun x hx => hr.fw x (rotL_mem hx), fun x hx => hr.tw x (rotL_mem hx)⟩
theorem Rg.rot_back {r : Rg} (hr : r.Ok) {b : Nat} (hb : b < r.N) : (r.rot b).rot (r.N - b) = r := by
  obtain ⟨N, S, low, high, total, pure, worst, fi, th⟩ := r
  simp only [Rg.rot, rotL_back hr.fl hb, rotL_back hr.tl hb]
theorem rot_err (r : Rg) (b : Nat) {st : List Int} (hl : st.length = r.N) (hn : 0 < r.N) (i : Nat) : ∀ k, (r.rot b).err (rotL b st) i k = r.err st ((i + b) % r.N) k
  | 0 => rfl
  | k + 1 => by
    show (r.rot b).err (rotL b st) i k - (rotL b st).getD ((i + k) % r.N) 0 = r.err st ((i + b) % r.N) k - st.getD (((i + b) % r.N + k) % r.N) 0
    rw [rot_err r b hl hn i k, rotL_get hl (Nat.mod_lt _ hn), Nat.mod_add_mod, Nat.mod_add_mod, show i + k + b = i + b + k by omega]
theorem rot_sum {st : List Int} {b N : Nat} (hl : st.length = N) (hb : b < N) : (rotL b st).sum = st.sum := by
  rw [sum_totF, sum_totF, rotL_len, hl, ← totF_rot (fun i => st.getD i 0) hb]
  exact totF_congr (fun i _ hi => rotL_get hl (by omega))
theorem rot_cost {r : Rg} (hr : r.Ok) {b : Nat} (hb : b < r.N) {st : List Int} (hl : st.length = r.N) : (r.rot b).cost (rotL b st) = r.cost st := by
  show totF ((r.rot b).one (rotL b st)) 0 r.N = totF (r.one st) 0 r.N
  rw [← totF_rot (r.one st) hb]
  refine totF_congr (fun i _ hi => ?_)
  show (rotL b r.fi).getD i 0 * (rotL b st).getD i 0 * (rotL b st).getD i 0 + (rotL b r.th).getD i 0 * (r.rot b).err (rotL b st) i r.S * (r.rot b).err (rotL b st) i r.S = _
  rw [rotL_get hr.fl (by omega), rotL_get hl (by omega), rotL_get hr.tl (by omega), rot_err r b hl (by omega)]
  rfl
theorem rot_good {r : Rg} {b : Nat} (hb : b < r.N) {st : List Int} (h : r.Good st) : (r.rot b).Good (rotL b st) :=
  ⟨(rotL_len _ _).trans h.len, fun x hx => h.rng x (rotL_mem hx), (rot_sum h.len hb).trans h.sum, fun i _ => by
    show -r.worst ≤ (r.rot b).err (rotL b st) i r.S ∧ (r.rot b).err (rotL b st) i r.S ≤ r.worst
    rw [rot_err r b h.len (by omega)]
    exact h.err _ (Nat.mod_lt _ (by omega))⟩
theorem rot_same {r : Rg} (hr : r.Ok) {b : Nat} (hb : b < r.N) : Like r (r.rot b) (rotL b) := ⟨fun _ h => ⟨rot_good hb h, rot_cost hr hb h.len⟩⟩
theorem rot_same' {r : Rg} (hr : r.Ok) {b : Nat} (hb : b < r.N) : Like (r.rot b) r (rotL (r.N - b)) := by
  by_cases c : b = 0
  · subst c
    have h := rot_same hr hb
    have e : r.rot 0 = r := by
      have := Rg.rot_back hr hb
      have e2 : (r.rot 0).rot (r.N - 0) = (r.rot 0).rot 0 := by
        obtain ⟨N, S, low, high, total, pure, worst, fi, th⟩ := r
        simp only [Rg.rot]
        have h1 : (rotL 0 fi).length = N := (rotL_len _ _).trans hr.fl
        have h2 : (rotL 0 th).length = N := (rotL_len _ _).trans hr.tl
        rw [← rotL_mod (b := N - 0) h1, ← rotL_mod (b := N - 0) h2, Nat.sub_zero, Nat.mod_self]
      have e3 : r.rot 0 = (r.rot 0).rot 0 := by
        obtain ⟨N, S, low, high, total, pure, worst, fi, th⟩ := r
        have f1 : rotL 0 fi = fi := tabL_self rfl (fun i hi => by rw [Nat.add_zero, Nat.mod_eq_of_lt hi])
        have f2 : rotL 0 th = th := tabL_self rfl (fun i hi => by rw [Nat.add_zero, Nat.mod_eq_of_lt hi])
        simp only [Rg.rot, f1, f2]
      rw [e3, ← e2, this]
    refine ⟨fun st hst => ?_⟩
    have hg : r.Good st := by rw [e] at hst; exact hst
    have h1 : rotL (r.N - 0) st = rotL 0 st := by rw [← rotL_mod (b := r.N - 0) hg.len, Nat.sub_zero, Nat.mod_self]
    rw [h1]
    have := h.good st hg
    rw [e] at this ⊢
    exact this
  · have h := rot_same (Rg.rot_ok hr b) (b := r.N - b) (show r.N - b < r.N by omega)
    rw [Rg.rot_back hr hb] at h
    exact h
theorem rot_fits {r : Rg} {b : Nat} (hb : b < r.N) {st : List Int} (h : r.fitsB st = true) : (r.rot b).fitsB (rotL b st) = true := by
  obtain ⟨h1, h2, h3⟩ := fitsB_iff.1 h
  exact fitsB_iff.2 ⟨fun x hx => h1 x (rotL_mem hx), (rotL_len _ _).trans h2, (rot_sum h2 hb).trans h3⟩
theorem rot_allow {r : Rg} {b : Nat} (hb : b < r.N) {st : List Int} (hl : st.length = r.N) : (r.rot b).allowB (rotL b st) = r.allowB st := by
  rw [Bool.eq_iff_iff, allowB_iff, allowB_iff]
  constructor
  · intro h i hi
    have k := h ((i + (r.N - b)) % r.N) (Nat.mod_lt _ (by show 0 < r.N; omega))
    have e := rot_err r b hl (by omega) ((i + (r.N - b)) % r.N) r.S
    rw [Nat.mod_add_mod, show i + (r.N - b) + b = i + r.N by omega, Nat.add_mod_right, Nat.mod_eq_of_lt hi] at e
    rw [← e]
    exact k
  · intro h i hi
    show -r.worst ≤ (r.rot b).err (rotL b st) i r.S ∧ (r.rot b).err (rotL b st) i r.S ≤ r.worst
    rw [rot_err r b hl (by omega)]
    exact h _ (Nat.mod_lt _ (by omega))
/-- A ring that is gone round the other way. -/
def Rg.mir (r : Rg) : Rg := { r with fi := tabL r.N (fun i => r.fi.getD (r.N - 1 - i) 0), th := tabL r.N (fun i => r.th.getD ((2 * r.N - r.S - i) % r.N) 0) }
def mirL (n : Nat) (st : List Int) : List Int := tabL n (fun i => st.getD (n - 1 - i) 0)
theorem md2 {x N : Nat} (h : x < 2 * N) : x % N = if x < N then x else x - N := by
  split
  · exact Nat.mod_eq_of_lt (by assumption)
  · rw [Nat.mod_eq_sub_mod (by omega), Nat.mod_eq_of_lt (by omega)]
theorem mir_idx {N S i : Nat} (hs : 1 ≤ S) (hsn : S < N) (hi : i < N) : (2 * N - S - i) % N < N ∧ (2 * N - S - (2 * N - S - i) % N) % N = i := by
  have h1 : (2 * N - S - i) % N = if 2 * N - S - i < N then 2 * N - S - i else 2 * N - S - i - N := md2 (by omega)
  refine ⟨Nat.mod_lt _ (by omega), ?_⟩
  by_cases c : 2 * N - S - i < N
  · rw [if_pos c] at h1
    rw [h1, md2 (by omega)]
    split <;> omega
  · rw [if_neg c] at h1
    rw [h1, md2 (by omega)]
    split <;> omega
theorem Rg.mir_ok {r : Rg} (hr : r.Ok) : r.mir.Ok := by
  have h1 := hr.n1
  have h2 := hr.s3
  exact ⟨hr.n1, hr.n2, hr.s1, hr.s2, hr.s3, hr.l1, hr.l2, hr.h1, hr.h2, hr.t1, hr.t2, hr.p1, hr.p2, hr.w1, hr.w2, tabL_len _ _, tabL_len _ _,
    fun x hx => by
      obtain ⟨i, hi, rfl⟩ := tabL_mem.1 hx
      exact hr.fw _ (getD_mem (by rw [hr.fl]; omega)),
    fun x hx => by
      obtain ⟨i, hi, rfl⟩ := tabL_mem.1 hx
      exact hr.tw _ (getD_mem (by rw [hr.tl]; exact Nat.mod_lt _ (by omega)))⟩
theorem Rg.mir_mir {r : Rg} (hr : r.Ok) : r.mir.mir = r := by
  have h1 := hr.n1
  have h2 := hr.s3
  have h3 := hr.s1
  obtain ⟨N, S, low, high, total, pure, worst, fi, th⟩ := r
  dsimp only at h1 h2 h3
  have e1 : tabL N (fun i => (tabL N (fun i => fi.getD (N - 1 - i) 0)).getD (N - 1 - i) 0) = fi := tabL_self hr.fl (fun i hi => by
    rw [tabL_get (by omega)]; congr 1; omega)
  have e2 : tabL N (fun i => (tabL N (fun i => th.getD ((2 * N - S - i) % N) 0)).getD ((2 * N - S - i) % N) 0) = th := tabL_self hr.tl (fun i hi => by
    obtain ⟨k1, k2⟩ := mir_idx (N := N) (S := S) (i := i) (by omega) h2 hi
    rw [tabL_get k1, k2])
  simp only [Rg.mir, e1, e2]
theorem mir_get {st : List Int} {n i : Nat} (hi : i < n) : (mirL n st).getD i 0 = st.getD (n - 1 - i) 0 := tabL_get hi
theorem mir_step {st : List Int} {N S i k : Nat} (hs : 1 ≤ S) (hsn : S < N) (hi : i < N) (hk : k < S) :
    (mirL N st).getD ((i + k) % N) 0 = st.getD (((2 * N - S - i) % N + (S - 1 - k)) % N) 0 := by
  have h1 : (2 * N - S - i) % N = if 2 * N - S - i < N then 2 * N - S - i else 2 * N - S - i - N := md2 (by omega)
  have h2 : (i + k) % N = if i + k < N then i + k else i + k - N := md2 (by omega)
  rw [mir_get (Nat.mod_lt _ (by omega))]
  congr 1
  by_cases c : 2 * N - S - i < N
  all_goals
    first | rw [if_pos c] at h1 | rw [if_neg c] at h1
    rw [h1]
    by_cases d : i + k < N
    all_goals
      first | rw [if_pos d] at h2 | rw [if_neg d] at h2
      rw [h2, md2 (by omega)]
      split <;> omega
theorem mir_err {r : Rg} (hr : r.Ok) {st : List Int} {i : Nat} (hi : i < r.N) : r.mir.err (mirL r.N st) i r.S = r.err st ((2 * r.N - r.S - i) % r.N) r.S := by
  have h1 := hr.s1
  have h2 := hr.s2
  have h3 := hr.s3
  have hs := fun k (hk : k < r.S) => mir_step (st := st) (N := r.N) (S := r.S) (i := i) (k := k) (by omega) h3 hi hk
  have a0 := hs 0 (by omega)
  have a1 := hs 1 (by omega)
  have hS : r.mir.S = r.S := rfl
  have hN : r.mir.N = r.N := rfl
  have hp : r.mir.pure = r.pure := rfl
  obtain e | e | e : r.S = 2 ∨ r.S = 3 ∨ r.S = 4 := by omega
  · simp only [e, Rg.err, hN, hp] at *
    simp only [Nat.reduceSub] at a0 a1
    rw [a0, a1]
    omega
  · have a2 := hs 2 (by omega)
    simp only [e, Rg.err, hN, hp] at *
    simp only [Nat.reduceSub] at a0 a1 a2
    rw [a0, a1, a2]
    omega
  · have a2 := hs 2 (by omega)
    have a3 := hs 3 (by omega)
    simp only [e, Rg.err, hN, hp] at *
    simp only [Nat.reduceSub] at a0 a1 a2 a3
    rw [a0, a1, a2, a3]
    omega
theorem totF_mir (f : Nat → Int) {N S : Nat} (hs : 2 ≤ S) (hsn : S < N) : totF (fun i => f ((2 * N - S - i) % N)) 0 N = totF f 0 N := by
  rw [← totF_rot f (show N - S + 1 < N by omega), ← totF_rev (fun i => f ((i + (N - S + 1)) % N)) N]
  refine totF_congr (fun i _ hi => ?_)
  show f ((2 * N - S - i) % N) = f ((N - 1 - i + (N - S + 1)) % N)
  rw [show N - 1 - i + (N - S + 1) = 2 * N - S - i by omega]
theorem mir_cost {r : Rg} (hr : r.Ok) {st : List Int} : r.mir.cost (mirL r.N st) = r.cost st := by
  rw [cost_two, cost_two, ← totF_rev (fun i => r.fi.getD i 0 * st.getD i 0 * st.getD i 0), ← totF_mir (fun i => r.th.getD i 0 * r.err st i r.S * r.err st i r.S) hr.s1 hr.s3]
  show totF _ 0 r.N + totF _ 0 r.N = _
  congr 1
  · refine totF_congr (fun i _ hi => ?_)
    show (tabL r.N (fun i => r.fi.getD (r.N - 1 - i) 0)).getD i 0 * (mirL r.N st).getD i 0 * (mirL r.N st).getD i 0 = _
    rw [tabL_get (by omega), mir_get (by omega)]
  · refine totF_congr (fun i _ hi => ?_)
    show (tabL r.N (fun i => r.th.getD ((2 * r.N - r.S - i) % r.N) 0)).getD i 0 * r.mir.err (mirL r.N st) i r.S * r.mir.err (mirL r.N st) i r.S = _
    rw [tabL_get (by omega), mir_err hr (by omega)]
theorem mir_good {r : Rg} (hr : r.Ok) {st : List Int} (h : r.Good st) : r.mir.Good (mirL r.N st) :=
  ⟨tabL_len _ _, fun x hx => by
    obtain ⟨i, hi, rfl⟩ := tabL_mem.1 hx
    exact h.rng _ (getD_mem (by rw [h.len]; omega)), by
    show (mirL r.N st).sum = r.total
    rw [← h.sum, sum_totF, sum_totF, h.len, show (mirL r.N st).length = r.N from tabL_len _ _, ← totF_rev (fun i => st.getD i 0)]
    exact totF_congr (fun i _ hi => mir_get (by omega)), fun i hi => by
    show -r.worst ≤ r.mir.err (mirL r.N st) i r.S ∧ r.mir.err (mirL r.N st) i r.S ≤ r.worst
    rw [mir_err hr hi]
    exact h.err _ (Nat.mod_lt _ (by have := hr.n1; omega))⟩
theorem mir_same {r : Rg} (hr : r.Ok) : Like r r.mir (mirL r.N) := ⟨fun _ h => ⟨mir_good hr h, mir_cost hr⟩⟩
theorem mir_same' {r : Rg} (hr : r.Ok) : Like r.mir r (mirL r.N) := by
  have h := mir_same (Rg.mir_ok hr)
  rw [Rg.mir_mir hr] at h
  exact h
end Go.Proofs.Ytgmphiklkllnlaa
