import Derived.Test.YtojbldoekalbnaaGreatTDu
/-
  Plain mathematics of a ring: bounds of errors and costs; what steps that fit are as a test. No program in sight.
-/
namespace Go.Proofs.YtojbldoekalbnaaGreat
theorem getD_bd {lo hi : Int} {l : List Int} (h : ∀ x ∈ l, lo ≤ x ∧ x ≤ hi) (h0 : lo ≤ 0 ∧ 0 ≤ hi) (i : Nat) : lo ≤ l.getD i 0 ∧ l.getD i 0 ≤ hi := by
  rw [List.getD_eq_getElem?_getD]
  cases e : l[i]? with
  | none => exact h0
  | some x => exact h x (List.mem_of_getElem? e)
theorem getD_some {l : List Int} {i : Nat} {x : Int} (h : l[i]? = some x) : l.getD i 0 = x := by
  rw [List.getD_eq_getElem?_getD, h]; rfl
theorem st_15 {r : Rg} (hr : r.Ok) {st : List Int} (hg : ∀ x ∈ st, r.low ≤ x ∧ x ≤ r.high) : ∀ x ∈ st, -15 ≤ x ∧ x ≤ 15 := fun x hx => by
  have h := hg x hx
  have h1 := hr.l1
  have h2 := hr.l2
  have h3 := hr.h2
  omega
theorem err_bd {r : Rg} (hr : r.Ok) {st : List Int} (hg : ∀ x ∈ st, r.low ≤ x ∧ x ≤ r.high) (i : Nat) : ∀ k, k ≤ 4 → -160 ≤ r.err st i k ∧ r.err st i k ≤ 160 := by
  have key : ∀ k : Nat, -(100 + 15 * (k : Int)) ≤ r.err st i k ∧ r.err st i k ≤ 100 + 15 * (k : Int) := by
    intro k
    induction k with
    | zero => have h1 := hr.p1; have h2 := hr.p2; simp only [Rg.err]; omega
    | succ k ih =>
      have h := getD_bd (st_15 hr hg) (by omega) ((i + k) % r.N)
      rw [Rg.err]
      omega
  intro k hk
  have := key k
  omega
theorem mul_abs {a b A B : Int} (ha : -A ≤ a ∧ a ≤ A) (hb : -B ≤ b ∧ b ≤ B) (hA : 0 ≤ A) : -(A * B) ≤ a * b ∧ a * b ≤ A * B := by
  have hB : 0 ≤ B := by omega
  have h : a.natAbs ≤ A.natAbs := by omega
  have k : b.natAbs ≤ B.natAbs := by omega
  have hm := Nat.mul_le_mul h k
  rw [← Int.natAbs_mul, ← Int.natAbs_mul] at hm
  have hp : 0 ≤ A * B := Int.mul_nonneg hA hB
  omega
theorem wt_1000 {r : Rg} (hr : r.Ok) (i : Nat) : (0 ≤ r.fi.getD i 0 ∧ r.fi.getD i 0 ≤ 1000) ∧ 0 ≤ r.th.getD i 0 ∧ r.th.getD i 0 ≤ 1000 :=
  ⟨getD_bd hr.fw (by omega) i, getD_bd hr.tw (by omega) i⟩
/-- The products of a weight and a number twice stay small. -/
theorem wss_bd {x s S : Int} (hx : 0 ≤ x ∧ x ≤ 1000) (hs : -S ≤ s ∧ s ≤ S) (hS : 0 ≤ S) : (-(1000 * S) ≤ x * s ∧ x * s ≤ 1000 * S) ∧ 0 ≤ x * s * s ∧ x * s * s ≤ 1000 * S * S := by
  have h1 := mul_abs (a := x) (b := s) (A := 1000) (B := S) (by omega) hs (by omega)
  have h2 := mul_abs (a := x * s) (b := s) (A := 1000 * S) (B := S) h1 hs (Int.mul_nonneg (by omega) hS)
  exact ⟨h1, sq_pos s hx.1, h2.2⟩
theorem one_bd {r : Rg} (hr : r.Ok) {st : List Int} (hg : ∀ x ∈ st, r.low ≤ x ∧ x ≤ r.high) (i : Nat) : 0 ≤ r.one st i ∧ r.one st i ≤ 30000000 := by
  obtain ⟨a, b⟩ := wt_1000 hr i
  have hs := getD_bd (st_15 hr hg) (by omega) i
  have he := err_bd hr hg i r.S hr.s2
  have h1 := (wss_bd a hs (by omega)).2
  have h2 := (wss_bd b he (by omega)).2
  unfold Rg.one
  omega
theorem totF_snoc (f : Nat → Int) (k : Nat) : totF f 0 (k + 1) = totF f 0 k + f k := by
  rw [totF_split f k 0 1]; simp [totF]
theorem totF_bd {f : Nat → Int} {M : Int} (h : ∀ i, 0 ≤ f i ∧ f i ≤ M) : ∀ k : Nat, 0 ≤ totF f 0 k ∧ totF f 0 k ≤ M * k
  | 0 => by simp [totF]
  | k + 1 => by
    have ih := totF_bd h k
    have h1 := h k
    rw [totF_snoc]
    have : M * ((k + 1 : Nat) : Int) = M * k + M := by rw [Int.natCast_add, Int.mul_add]; simp
    omega
theorem part_bd {r : Rg} (hr : r.Ok) {st : List Int} (hg : ∀ x ∈ st, r.low ≤ x ∧ x ≤ r.high) (k : Nat) (hk : k ≤ 24) : 0 ≤ totF (r.one st) 0 k ∧ totF (r.one st) 0 k ≤ 720000000 := by
  have := totF_bd (fun i => one_bd hr hg i) k
  omega
theorem cost_bd {r : Rg} (hr : r.Ok) {st : List Int} (hg : ∀ x ∈ st, r.low ≤ x ∧ x ≤ r.high) : 0 ≤ r.cost st ∧ r.cost st ≤ 720000000 := part_bd hr hg r.N hr.n2
theorem sum_bd {l : List Int} (h : ∀ x ∈ l, -15 ≤ x ∧ x ≤ 15) : -(15 * (l.length : Int)) ≤ l.sum ∧ l.sum ≤ 15 * (l.length : Int) := by
  induction l with
  | nil => simp
  | cons a l ih =>
    have h1 := h a (by simp)
    have h2 := ih (fun x hx => h x (by simp [hx]))
    simp only [List.sum_cons, List.length_cons]
    omega
theorem sum_take (l : List Int) (k : Nat) (x : Int) (hx : l[k]? = some x) : (l.take (k + 1)).sum = (l.take k).sum + x := by
  obtain ⟨hk, rfl⟩ := List.getElem?_eq_some_iff.1 hx
  rw [List.take_succ_eq_append_getElem hk, List.sum_append]
  simp
/-- Steps that fit, as a test. -/
def Rg.fitsB (r : Rg) (st : List Int) : Bool := st.all (fun x => decide (r.low ≤ x) && decide (x ≤ r.high)) && (decide ((st.length : Int) = r.N) && decide (st.sum = r.total))
theorem fitsB_iff {r : Rg} {st : List Int} : r.fitsB st = true ↔ (∀ x ∈ st, r.low ≤ x ∧ x ≤ r.high) ∧ st.length = r.N ∧ st.sum = r.total := by
  unfold Rg.fitsB
  simp [List.all_eq_true]
  intros
  omega
/-- The errors of all thirds are allowed, as a test. -/
def Rg.allowB (r : Rg) (st : List Int) : Bool := (List.range r.N).all (fun i => decide (-r.worst ≤ r.err st i r.S) && decide (r.err st i r.S ≤ r.worst))
theorem allowB_iff {r : Rg} {st : List Int} : r.allowB st = true ↔ ∀ i, i < r.N → -r.worst ≤ r.err st i r.S ∧ r.err st i r.S ≤ r.worst := by
  unfold Rg.allowB
  simp [List.all_eq_true]
theorem good_iff {r : Rg} {st : List Int} : r.Good st ↔ r.fitsB st = true ∧ r.allowB st = true := by
  rw [fitsB_iff, allowB_iff]
  exact ⟨fun h => ⟨⟨h.rng, h.len, h.sum⟩, h.err⟩, fun ⟨⟨a, b, c⟩, d⟩ => ⟨b, a, c, d⟩⟩
def Rg.errs (r : Rg) (st : List Int) : List Int := (List.range r.N).map (fun i => r.err st i r.S)
theorem errs_snoc (r : Rg) (st : List Int) (k : Nat) : (List.range (k + 1)).map (fun i => r.err st i r.S) = (List.range k).map (fun i => r.err st i r.S) ++ [r.err st k r.S] := by
  rw [List.range_succ, List.map_append]; rfl
theorem errs_all {r : Rg} {st : List Int} : (r.errs st).all (fun x => decide (-r.worst ≤ x) && decide (x ≤ r.worst)) = r.allowB st := by
  unfold Rg.errs Rg.allowB
  rw [List.all_map]; rfl
end Go.Proofs.YtojbldoekalbnaaGreat
