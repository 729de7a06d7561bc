/-
  Memory of wire.look and wire.fill; plain: what onward and fill find.
-/
import Derived.Test.YtojbldoekalbnaaGreatDoorIA
import Derived.Test.YtojbldoekalbnaaGreatDoorKx
namespace Go.Proofs.YtojbldoekalbnaaGreatDoor
section
section
open Go.RowKit
theorem own_of_kxW {W W' : World} {base e sz n : Nat} {v : Value} {xs : List Value} {S : Nat → Prop} (h : W.ownsRow base e sz v n xs) (hk : Kx S W W') (hs : ∀ j, base ≤ j → ¬ S j) : W'.ownsRow base e sz v n xs := by
  refine ⟨h.1, ?_⟩
  rcases h.2 with h3 | ⟨g, cap, cur, e, hb, hh, r⟩
  · exact .inl h3
  · exact .inr ⟨g, cap, cur, e, hb, (hk.block g (Array.getElem?_eq_some_iff.1 hh).1 (hs g hb)).trans hh, r⟩
theorem own_geW {W : World} {base e sz n j : Nat} {v : Value} {xs : List Value} (h : W.ownsRow base e sz v n xs) (hj : v.ownBlock = some j) : base ≤ j := by
  rcases h.2 with ⟨rfl, _⟩ | ⟨g, cap, cur, rfl, h2, _⟩
  · simp [Value.ownBlock] at hj
  · simp [Value.ownBlock] at hj; omega
theorem own_kxW {W w2 : World} {o : Obj} {base e sz n : Nat} {v : Value} {xs : List Value} (h : W.ownsRow base e sz v n xs) (hg : (W.alloc o).grownBy w2 v.ownBlock) : Kx (fun j => base ≤ j) W w2 :=
  ((Kx.refl _ W).below (below_new W o)).grown hg (fun _ hj => .inl (own_geW h hj))
theorem kx_one (W : World) (g k : Nat) (v : Value) : Kx (fun j => j = g) W (W.setCell ⟨g, k, none⟩ v) := kx_set (S := fun j => j = g) (Kx.refl _ W) rfl k v
theorem cells8 {W : World} {b : Nat} {t : TypeId} {u0 u1 u2 u3 u4 u5 u6 u7 : Value} (h : W.heap[b]? = some (.cells #[u0, u1, u2, u3, u4, u5, u6, u7] t (0, 0))) :
    W.cell? ⟨b, 0, none⟩ = some u0 ∧ W.cell? ⟨b, 1, none⟩ = some u1 ∧ W.cell? ⟨b, 2, none⟩ = some u2 ∧ W.cell? ⟨b, 3, none⟩ = some u3 ∧ W.cell? ⟨b, 4, none⟩ = some u4 ∧ W.cell? ⟨b, 5, none⟩ = some u5 ∧ W.cell? ⟨b, 6, none⟩ = some u6 ∧ W.cell? ⟨b, 7, none⟩ = some u7 ∧ (∀ j, W.frozen? ⟨b, j, none⟩ = false) :=
  ⟨by rw [cell_of_row _ _ 0 _ _ (0, 0) h]; rfl, by rw [cell_of_row _ _ 1 _ _ (0, 0) h]; rfl, by rw [cell_of_row _ _ 2 _ _ (0, 0) h]; rfl, by rw [cell_of_row _ _ 3 _ _ (0, 0) h]; rfl, by rw [cell_of_row _ _ 4 _ _ (0, 0) h]; rfl,
    by rw [cell_of_row _ _ 5 _ _ (0, 0) h]; rfl, by rw [cell_of_row _ _ 6 _ _ (0, 0) h]; rfl, by rw [cell_of_row _ _ 7 _ _ (0, 0) h]; rfl, fun j => by simp [World.frozen?, h]⟩
def pkE (p : Nat × Nat) : List Value := [.int .i64 (p.1 : Nat), .int .i64 (p.2 : Nat)]
theorem pkE_len (p : Nat × Nat) : (pkE p).length = 2 := rfl
theorem SlE.at2k {w : World} {A : Option Addr} {n k : Nat} {L : List (Nat × Nat)} (h : SlE pkE 2 w A n L) (hk : k < n) :
    ∃ b o l, A = some ⟨b, o, none⟩ ∧ b < w.heap.size ∧ L[k]? = some l ∧ w.cell? ⟨b, o + k * 2, none⟩ = some (.int .i64 (l.1 : Nat)) ∧ w.cell? ⟨b, o + k * 2 + 1, none⟩ = some (.int .i64 (l.2 : Nat)) := by
  obtain ⟨b, o, x, hA, hb, hx, hc⟩ := h.at_ pkE_len hk
  exact ⟨b, o, x, hA, hb, hx, by simpa using hc 0 _ rfl, by simpa [Nat.add_assoc] using hc 1 _ rfl⟩
theorem elemPick : ElemOk Tryz.prog 35 47 2 16 := ElemOk.of (z := .agg #[.int .i64 0, .int .i64 0]) Tryz.underlying35 (by kernel_rfl) rfl (by omega)
theorem elemIntW : ElemOk Tryz.prog 22 3 1 8 := ElemOk.of (z := .int .i64 0) Tryz.underlying22 (by kernel_rfl) rfl (by omega)
theorem elemRowW : ElemOk Tryz.prog 64 22 1 24 := ElemOk.of (z := .slice none 0 0) Tryz.underlying64 (by kernel_rfl) rfl (by omega)
theorem elemLot : ElemOk Tryz.prog 41 45 3 40 := ElemOk.of (z := .agg #[.string .empty, .string .empty, .int .i64 0]) Tryz.underlying41 (by kernel_rfl) rfl (by omega)
/-- The picks in order. -/
def pks (k q : Nat) : List (Nat × Nat) := (List.range q).map fun t => (t / k, t % k)
theorem pks_len (k q : Nat) : (pks k q).length = q := by unfold pks; simp
theorem pks_succ {k i j : Nat} (h : j < k) : pks k (i * k + j + 1) = pks k (i * k + j) ++ [(i, j)] := by
  unfold pks
  rw [List.range_succ, List.map_append, List.map_cons, List.map_nil]
  rw [show (i * k + j) / k = i by rw [Nat.add_comm, Nat.add_mul_div_right _ _ (by omega), Nat.div_eq_of_lt h, Nat.zero_add], show (i * k + j) % k = j by rw [Nat.add_comm, Nat.add_mul_mod_self_right, Nat.mod_eq_of_lt h]]
theorem pks_get {k q t : Nat} (h : t < q) : (pks k q)[t]? = some (t / k, t % k) := by
  unfold pks
  rw [List.getElem?_map, List.getElem?_range h]; rfl
theorem pk_flat (L : List (Nat × Nat)) (i j : Nat) : L.flatMap pkE ++ [.int .i64 (i : Nat), .int .i64 (j : Nat)] = (L ++ [(i, j)]).flatMap pkE := by
  rw [List.flatMap_append]; rfl
/-- The search's box, under way. -/
structure LkA (w W : World) (A : Option Addr) (n c : Nat) (B : Option Addr) (m d : Nat) (G : Option Addr) (k e : Nat) (sf ch : Int) (pa : Option Addr) (pc q : Nat) (rv : Value) : Prop where
  hb : Below w.heap.size w W
  box : W.heap[w.heap.size]? = some (.cells #[.slice A n c, .slice B m d, .slice G k e, .int .i64 sf, .int .i64 ch] 26 (0, 0))
  sb : W.heap[w.heap.size + 1]? = some (.cells #[.slice A n c, .slice B m d, .slice G k e, .int .i64 sf, .int .i64 ch, .slice pa q pc, rv, .slice none 0 0] 67 (0, 0))
  own : W.ownsRow (w.heap.size + 2) 47 2 (.slice pa q pc) q ((pks k q).flatMap pkE)
  sz : w.heap.size + 2 ≤ W.heap.size
theorem LkA.start (w : World) (A : Option Addr) (n c : Nat) (B : Option Addr) (m d : Nat) (G : Option Addr) (k e : Nat) (sf ch : Int) (rv : Value) :
    LkA w ((w.alloc (.cells #[.slice A n c, .slice B m d, .slice G k e, .int .i64 sf, .int .i64 ch] 26)).alloc (.cells #[.slice A n c, .slice B m d, .slice G k e, .int .i64 sf, .int .i64 ch, .slice none 0 0, rv, .slice none 0 0] 67)) A n c B m d G k e sf ch none 0 0 rv := by
  refine ⟨(below_new w _).alloc (by simp) _, ?_, ?_, World.ownsRow_nil _ _ _ _, by simp⟩
  · rw [Below.heap_alloc _ _ _ (by simp)]; exact heap_alloc_new w _
  · have h := heap_alloc_new (w.alloc (.cells #[.slice A n c, .slice B m d, .slice G k e, .int .i64 sf, .int .i64 ch] 26)) (.cells #[.slice A n c, .slice B m d, .slice G k e, .int .i64 sf, .int .i64 ch, .slice none 0 0, rv, .slice none 0 0] 67)
    rw [World.size_alloc] at h
    exact h
/-- A pick more. -/
theorem LkA.push {w W w2 : World} {A B G : Option Addr} {n c m d k e i j : Nat} {sf ch : Int} {pa p2 : Option Addr} {pc q c2 : Nat} {rv : Value} {o : Obj} (h : LkA w W A n c B m d G k e sf ch pa pc q rv) (hq : q = i * k + j) (hj : j < k)
    (ho : w2.ownsRow (w.heap.size + 2) 47 2 (.slice p2 (q + 1) c2) (q + 1) ((pks k q).flatMap pkE ++ [.int .i64 (i : Nat), .int .i64 (j : Nat)])) (hg : (W.alloc o).grownBy w2 (Value.slice pa q pc).ownBlock) :
    LkA w (w2.setCell ⟨w.heap.size + 1, 5, none⟩ (.slice p2 (q + 1) c2)) A n c B m d G k e sf ch p2 c2 (q + 1) rv := by
  have hk := own_kxW h.own hg
  have hk2 := kx_one w2 (w.heap.size + 1) 5 (.slice p2 (q + 1) c2)
  have s2 := (hk.block _ (by have := h.sz; omega) (by omega)).trans h.sb
  have b2 := (hk.block _ (by have := h.sz; omega) (by omega)).trans h.box
  refine ⟨Kx.low (Kx.low h.hb hk (fun x hx => by omega) h.hb.size) hk2 (fun x hx => by omega) (Nat.le_trans h.hb.size hk.size), (hk2.block _ (Array.getElem?_eq_some_iff.1 b2).1 (by omega)).trans b2, ?_, ?_, Nat.le_trans (Nat.le_trans h.sz hk.size) hk2.size⟩
  · simp only [World.setCell, Array.getElem?_modify, s2]
    simp
  · rw [pk_flat, hq, ← pks_succ hj, ← hq] at ho
    exact own_of_kxW ho hk2 (fun x hx hx2 => by omega)
end
end
section
section
open Go.RowKit
/-- What a pick costs for a course, or -1. -/
def prc (x : Sc) (y : Crs) (p : Nat × Nat) : Int :=
  if holdsB (x.me.getD p.1 ⟨0, []⟩).D ((x.me.getD p.1 ⟨0, []⟩).S.getD p.2 0) y.L y.F x.sf then pricF (x.me.getD p.1 ⟨0, []⟩).D (x.ga.getD p.2 0) y else -1
theorem prc_eq {x : Sc} {i j : Nat} {mt : Mtl} {s g : Int} (h : Pk x i j mt s g) (y : Crs) : prc x y (i, j) = if holdsB mt.D s y.L y.F x.sf then pricF mt.D g y else -1 := by
  unfold prc
  have h1 : x.me.getD i ⟨0, []⟩ = mt := by rw [List.getD_eq_getElem?_getD, h.hme]; rfl
  have h2 : mt.S.getD j 0 = s := by rw [List.getD_eq_getElem?_getD, h.hs]; rfl
  have h3 : x.ga.getD j 0 = g := by rw [List.getD_eq_getElem?_getD, h.hg]; rfl
  dsimp only
  rw [h1, h2, h3]
structure ScOk (x : Sc) : Prop where
  n : 1 ≤ x.co.length ∧ x.co.length ≤ 96
  m : 1 ≤ x.me.length ∧ x.me.length ≤ 4
  k : 1 ≤ x.ga.length ∧ x.ga.length ≤ 16
  sf : 1 ≤ x.sf ∧ x.sf ≤ 100
  ch : 0 ≤ x.ch ∧ x.ch ≤ 96
  pk : ∀ i j, i < x.me.length → j < x.ga.length → ∃ mt s g, Pk x i j mt s g
  co : ∀ y ∈ x.co, y.Ok
def InR (a : Int) : Prop := -9223372036854775808 ≤ a ∧ a ≤ 9223372036854775807
theorem wrap_succ {a hi : Int} (ha : InR a) (hh : hi ≤ 2000000000) (h : inB (wrap64 (a + 1)) 1 hi = true) : 0 ≤ a ∧ a + 1 ≤ hi := by
  obtain ⟨h1, h2⟩ := inB_iffW.1 h
  unfold InR at ha
  unfold wrap64 at h1 h2
  omega
theorem scB_ok {x : Sc} (h : scB x = true) (hr : ∀ y ∈ x.co, InR y.T ∧ InR y.W) : ScOk x := by
  unfold scB at h
  simp only [Bool.and_eq_true] at h
  obtain ⟨⟨⟨h1, h2⟩, h3⟩, h4⟩ := h
  unfold headB at h1
  simp only [Bool.and_eq_true, decide_eq_true_eq, inB_iffW] at h1
  obtain ⟨⟨⟨⟨⟨a1, a2⟩, a3⟩, a4⟩, a5⟩, a6⟩ := h1
  refine ⟨by omega, by omega, by omega, a4, ⟨a5, a6⟩, fun i j hi hj => ?_, fun y hy => ?_⟩
  · have e1 : x.me[i]? = some (x.me[i]'hi) := List.getElem?_eq_getElem hi
    have m1 := List.all_eq_true.1 h3 _ (List.mem_of_getElem? e1)
    unfold metB at m1
    simp only [Bool.and_eq_true, decide_eq_true_eq] at m1
    obtain ⟨m2, m3, m4⟩ := m1
    have hj2 : j < (x.me[i]'hi).S.length := by omega
    have e2 : (x.me[i]'hi).S[j]? = some ((x.me[i]'hi).S[j]'hj2) := List.getElem?_eq_getElem hj2
    have e3 : x.ga[j]? = some (x.ga[j]'hj) := List.getElem?_eq_getElem hj
    have g1 := List.all_eq_true.1 h2 j (List.mem_range.2 hj)
    unfold gauB at g1
    simp only [Bool.and_eq_true] at g1
    have g2 := inB_iffW.1 g1.1
    rw [List.getD_eq_getElem?_getD, e3] at g2
    exact ⟨_, _, _, e1, e2, e3, inB_iffW.1 m3, inB_iffW.1 (List.all_eq_true.1 m2 _ (List.mem_of_getElem? e2)), g2, a4⟩
  · have c1 := List.all_eq_true.1 h4 y hy
    unfold crsB at c1
    simp only [Bool.and_eq_true] at c1
    obtain ⟨⟨⟨c2, c3⟩, c4⟩, c5⟩ := c1
    have c6 := wrap_succ (hr y hy).1 (by omega) c4
    have c7 := wrap_succ (hr y hy).2 (by omega) c5
    exact ⟨inB_iffW.1 c2, inB_iffW.1 c3, by omega, by omega⟩
theorem flat_one {α β : Type} (g : α → β) (l : List α) : (l.flatMap fun a => [g a]) = l.map g := by
  induction l with
  | nil => rfl
  | cons a l ih => rw [List.flatMap_cons, ih]; rfl
/-- A row under way. -/
def RwF (W : World) (g q t : Nat) (f : Nat → Int) : Prop := ∃ cs, W.heap[g]? = some (.cells cs 3 (0, 0)) ∧ cs.size = q ∧ ∀ u, u < t → cs[u]? = some (.int .i64 (f u))
theorem RwF.set {W : World} {g q t : Nat} {f : Nat → Int} (h : RwF W g q t f) (ht : t < q) {v : Int} (hv : v = f t) : RwF (W.setCell ⟨g, t, none⟩ (.int .i64 v)) g q (t + 1) f := by
  obtain ⟨cs, h1, h2, h3⟩ := h
  refine ⟨cs.set! t (.int .i64 v), by simp [World.setCell, Array.getElem?_modify, h1], by simp [h2], fun u hu => ?_⟩
  by_cases e : u = t
  · subst e; subst hv; simp [h2, ht]
  · have := h3 u (by omega)
    simp [this, Ne.symm e]
theorem RwF.set0 {W : World} {g q t : Nat} {f : Nat → Int} (h : RwF W g q t f) (v : Value) : RwF (W.setCell ⟨g, t, none⟩ v) g q t f := by
  obtain ⟨cs, h1, h2, h3⟩ := h
  refine ⟨cs.set! t v, by simp [World.setCell, Array.getElem?_modify, h1], by simp [h2], fun u hu => ?_⟩
  have := h3 u hu
  simp [this, show ¬ t = u by omega]
theorem RwF.kx {W W' : World} {g q t : Nat} {f : Nat → Int} {S : Nat → Prop} (h : RwF W g q t f) (hk : Kx S W W') (hs : ¬ S g) : RwF W' g q t f := by
  obtain ⟨cs, h1, h2, h3⟩ := h
  exact ⟨cs, (hk.block g (Array.getElem?_eq_some_iff.1 h1).1 hs).trans h1, h2, h3⟩
theorem RwF.below {W W' : World} {g q t : Nat} {f : Nat → Int} (h : RwF W g q t f) (hk : Below W.heap.size W W') : RwF W' g q t f := by
  obtain ⟨cs, h1, h2, h3⟩ := h
  exact ⟨cs, (hk.block g (Array.getElem?_eq_some_iff.1 h1).1).trans h1, h2, h3⟩
theorem RwF.lt {W : World} {g q t : Nat} {f : Nat → Int} (h : RwF W g q t f) : g < W.heap.size := by
  obtain ⟨cs, h1, h2, h3⟩ := h
  exact (Array.getElem?_eq_some_iff.1 h1).1
theorem RwF.cell {W : World} {g q t : Nat} {f : Nat → Int} (h : RwF W g q t f) {u : Nat} (hu : u < q) : (∃ v, W.cell? ⟨g, u, none⟩ = some v) ∧ ∀ j, W.frozen? ⟨g, j, none⟩ = false := by
  obtain ⟨cs, h1, h2, h3⟩ := h
  exact ⟨⟨cs[u]'(by omega), by rw [cell_of_row _ _ u _ _ (0, 0) h1]; exact Array.getElem?_eq_getElem _⟩, fun j => by simp [World.frozen?, h1]⟩
theorem RwF.read {W : World} {g q t : Nat} {f : Nat → Int} (h : RwF W g q t f) {u : Nat} (hu : u < t) : W.cell? ⟨g, u, none⟩ = some (.int .i64 (f u)) := by
  obtain ⟨cs, h1, h2, h3⟩ := h
  rw [cell_of_row _ _ u _ _ (0, 0) h1]; exact h3 u hu
theorem own_at {W : World} {b sz n base : Nat} {cs : Array Value} {e : TypeId} (h : W.heap[b]? = some (.cells cs e (0, 0))) (hn : cs.size = n * sz) (hb : base ≤ b) (hm : n ≤ maxLen) : W.ownsRow base e sz (.slice (some ⟨b, 0, none⟩) n n) n cs.toList :=
  ⟨by simpa using hn, .inr ⟨_, n, cs, rfl, hb, h, Nat.le_refl _, hm, hn, by rw [List.take_of_length_le]; simp [hn]⟩⟩
theorem RwF.own {W : World} {g q base : Nat} {f : Nat → Int} (h : RwF W g q q f) (hb : base ≤ g) (hm : q ≤ maxLen) : W.ownsRow base 3 1 (.slice (some ⟨g, 0, none⟩) q q) q (((List.range q).map f).flatMap intE) := by
  obtain ⟨cs, h1, h2, h3⟩ := h
  have e : cs.toList = ((List.range q).map f).flatMap intE := by
    have e2 : ((List.range q).map f).flatMap intE = (List.range q).map fun u => Value.int .i64 (f u) := by
      rw [List.flatMap_map]
      exact flat_one _ _
    rw [e2]
    refine List.ext_getElem? fun u => ?_
    by_cases hu : u < q
    · rw [List.getElem?_map, List.getElem?_range hu]
      have := h3 u hu
      simpa using this
    · rw [List.getElem?_eq_none (by simp; omega), List.getElem?_eq_none (by simp; omega)]
  rw [← e]
  exact own_at h1 (by omega) hb hm
theorem RwF.new (w : World) (n : Nat) (f : Nat → Int) (cs : Array Value) (hcs : cs.size = n) : RwF (w.alloc (.cells cs 3)) w.heap.size n 0 f := ⟨cs, heap_alloc_new w _, hcs, fun u hu => absurd hu (by omega)⟩
/-- The search's box while its prices grow. -/
structure LkB (w2 W : World) (sb : Nat) (s0 s1 s2 s3 s4 pv : Value) (ra : Option Addr) (rc i : Nat) (rows : List (List Int)) (outer : List Value) : Prop where
  kx : Kx (fun j => j = sb) w2 W
  hsb : W.heap[sb]? = some (.cells #[s0, s1, s2, s3, s4, pv, .slice ra i rc, .slice none 0 0] 67 (0, 0))
  tb : TblO W w2.heap.size 22 3 (.slice ra i rc) i rows outer
  lt : sb < w2.heap.size
theorem LkB.below {w2 W W' : World} {sb : Nat} {s0 s1 s2 s3 s4 pv : Value} {ra : Option Addr} {rc i : Nat} {rows : List (List Int)} {outer : List Value} (h : LkB w2 W sb s0 s1 s2 s3 s4 pv ra rc i rows outer) (hb : Below W.heap.size W W') :
    LkB w2 W' sb s0 s1 s2 s3 s4 pv ra rc i rows outer :=
  ⟨h.kx.below hb, (hb.block _ (Array.getElem?_eq_some_iff.1 h.hsb).1).trans h.hsb, h.tb.below hb, h.lt⟩
theorem LkB.push {w2 W W2 : World} {sb : Nat} {s0 s1 s2 s3 s4 pv : Value} {ra A2 : Option Addr} {rc i c2 g q : Nat} {rows : List (List Int)} {outer : List Value} {r : List Int} {o : Obj} (h : LkB w2 W sb s0 s1 s2 s3 s4 pv ra rc i rows outer) (hn : r.length = q)
    (hr : W.ownsRow w2.heap.size 3 1 (.slice (some ⟨g, 0, none⟩) q q) q (r.flatMap intE))
    (ho : W2.ownsRow w2.heap.size 22 1 (.slice A2 (i + 1) c2) (i + 1) (outer ++ [.slice (some ⟨g, 0, none⟩) q q])) (hg : (W.alloc o).grownBy W2 (Value.slice ra i rc).ownBlock) :
    LkB w2 (W2.setCell ⟨sb, 6, none⟩ (.slice A2 (i + 1) c2)) sb s0 s1 s2 s3 s4 pv A2 c2 (i + 1) (rows ++ [r]) (outer ++ [.slice (some ⟨g, 0, none⟩) q q]) := by
  have hk := own_kxW h.tb.own hg
  have hk2 := kx_one W2 sb 6 (.slice A2 (i + 1) c2)
  have hlt := h.lt
  have hsz := h.kx.size
  have hs2 := (hk.block sb (by omega) (by omega)).trans h.hsb
  have t1 := (h.tb.below (below_new W o)).snoc (by decide) hn (ownsRow_below hr (below_new W o)) (Nat.le_refl _) ho hg
  refine ⟨?_, ?_, ⟨t1.1, own_of_kxW t1.2.1 hk2 (fun j hj e => by omega), fun u r' hr' => ?_⟩, h.lt⟩
  · exact (h.kx.trans hk (fun j hj hj2 => by omega)).trans hk2 (fun j _ hj => hj)
  · simp only [World.setCell, Array.getElem?_modify, hs2]
    simp
  · obtain ⟨Ai, ci, a1, a2, a3⟩ := t1.2.2 u r' hr'
    exact ⟨Ai, ci, a1, a2, own_of_kxW a3 hk2 (fun j hj e => by omega)⟩
theorem LkB.grown_lt {w2 W W2 : World} {sb : Nat} {s0 s1 s2 s3 s4 pv : Value} {ra : Option Addr} {rc i : Nat} {rows : List (List Int)} {outer : List Value} {o : Obj} (h : LkB w2 W sb s0 s1 s2 s3 s4 pv ra rc i rows outer)
    (hg : (W.alloc o).grownBy W2 (Value.slice ra i rc).ownBlock) : sb < W2.heap.size ∧ W2.heap[sb]? = some (.cells #[s0, s1, s2, s3, s4, pv, .slice ra i rc, .slice none 0 0] 67 (0, 0)) := by
  have hk := own_kxW h.tb.own hg
  have hlt := h.lt
  have hsz := h.kx.size
  have hsz2 := hk.size
  exact ⟨by omega, (hk.block sb (by omega) (by omega)).trans h.hsb⟩
theorem LkA.lt0 {w W : World} {A B G : Option Addr} {n c m d k e : Nat} {sf ch : Int} {pa : Option Addr} {pc q : Nat} {rv : Value} (h : LkA w W A n c B m d G k e sf ch pa pc q rv) : w.heap.size + 1 < W.heap.size := by have := h.sz; omega
theorem LkA.startB {w W : World} {A B G : Option Addr} {n c m d k e : Nat} {sf ch : Int} {pa : Option Addr} {pc q : Nat} (h : LkA w W A n c B m d G k e sf ch pa pc q (.slice none 0 0)) :
    LkB W W (w.heap.size + 1) (.slice A n c) (.slice B m d) (.slice G k e) (.int .i64 sf) (.int .i64 ch) (.slice pa q pc) none 0 0 [] [] :=
  ⟨Kx.refl _ _, h.sb, TblO.start (World.ownsRow_nil _ _ _ _), h.lt0⟩
/-- A course's row under way. -/
structure LkC (wr W : World) (q t : Nat) (f : Nat → Int) (y : Crs) : Prop where
  hb : Below wr.heap.size wr W
  rw : RwF W (wr.heap.size + 1) q t f
  cb : W.heap[wr.heap.size]? = some (.cells #[.int .i64 y.L, .int .i64 y.F, .int .i64 y.T, .int .i64 y.W] 34 (0, 0))
theorem LkC.start (w : World) (y : Crs) (q : Nat) (f : Nat → Int) (cs : Array Value) (hcs : cs.size = q) :
    LkC w ((w.alloc (.cells #[.int .i64 y.L, .int .i64 y.F, .int .i64 y.T, .int .i64 y.W] 34)).alloc (.cells cs 3)) q 0 f y := by
  refine ⟨(below_new w _).alloc (by simp) _, ?_, ?_⟩
  · have h := RwF.new (w.alloc (.cells #[.int .i64 y.L, .int .i64 y.F, .int .i64 y.T, .int .i64 y.W] 34)) q f cs hcs
    rw [World.size_alloc] at h
    exact h
  · rw [Below.heap_alloc _ _ _ (by simp)]; exact heap_alloc_new w _
theorem LkC.below {wr W W' : World} {q t : Nat} {f : Nat → Int} {y : Crs} (h : LkC wr W q t f y) (hb : Below W.heap.size W W') : LkC wr W' q t f y :=
  ⟨h.hb.trans (hb.mono h.hb.size), h.rw.below hb, (hb.block _ (Array.getElem?_eq_some_iff.1 h.cb).1).trans h.cb⟩
theorem LkC.set0 {wr W : World} {q t : Nat} {f : Nat → Int} {y : Crs} (h : LkC wr W q t f y) (v : Value) : LkC wr (W.setCell ⟨wr.heap.size + 1, t, none⟩ v) q t f y :=
  ⟨h.hb.setCell (by simp) _, h.rw.set0 v, ((kx_one W (wr.heap.size + 1) t v).block _ (Array.getElem?_eq_some_iff.1 h.cb).1 (by omega)).trans h.cb⟩
theorem LkC.set {wr W : World} {q t : Nat} {f : Nat → Int} {y : Crs} (h : LkC wr W q t f y) (ht : t < q) {v : Int} (hv : v = f t) : LkC wr (W.setCell ⟨wr.heap.size + 1, t, none⟩ (.int .i64 v)) q (t + 1) f y :=
  ⟨h.hb.setCell (by simp) _, h.rw.set ht hv, ((kx_one W (wr.heap.size + 1) t _).block _ (Array.getElem?_eq_some_iff.1 h.cb).1 (by omega)).trans h.cb⟩
theorem run_mkIntW (m : Nat) (hm : m ≤ 100000) (w : World) : (Instr.makeSlice 22 (.int .i64 (m : Int)) (.int .i64 (m : Int))).run Tryz.prog w = .ok (.slice (some ⟨w.heap.size, 0, none⟩) m m) (w.alloc (.cells (madeCells #[Value.int .i64 0] m) 3)) :=
  run_make_row' 22 3 (.int .i64 0) 8 Tryz.underlying22 (by kernel_rfl) rfl .i64 .i64 m (by omega) (by omega) w
theorem run_mkRowW (m : Nat) (hm : m ≤ 100000) (w : World) : (Instr.makeSlice 64 (.int .i64 (m : Int)) (.int .i64 (m : Int))).run Tryz.prog w = .ok (.slice (some ⟨w.heap.size, 0, none⟩) m m) (w.alloc (.cells (madeCells #[Value.slice none 0 0] m) 22)) :=
  run_make_row' 64 22 (.slice none 0 0) 24 Tryz.underlying64 (by kernel_rfl) rfl .i64 .i64 m (by omega) (by omega) w
theorem run_mkTabW (m : Nat) (hm : m ≤ 100000) (w : World) : (Instr.makeSlice 65 (.int .i64 (m : Int)) (.int .i64 (m : Int))).run Tryz.prog w = .ok (.slice (some ⟨w.heap.size, 0, none⟩) m m) (w.alloc (.cells (madeCells #[Value.slice none 0 0] m) 64)) :=
  run_make_row' 65 64 (.slice none 0 0) 24 Tryz.underlying65 (by kernel_rfl) rfl .i64 .i64 m (by omega) (by omega) w
end
end
section
section
open Go.RowKit
def folB (k a b : Nat) : Bool := decide (a / k ≤ b / k) && decide (a % k ≤ b % k)
/-- Changes that are left behind a pick. -/
def leftF (from' left t : Nat) : Int := if t = from' then (left : Int) else (left : Int) - 1
/-- What onward finds among the first picks. -/
def onF (f : Nat → Nat → Int) (k from' left : Nat) : Nat → Int × Nat
  | 0 => (-1, 0)
  | t + 1 => if 0 ≤ leftF from' left t ∧ folB k from' t = true ∧ f t (leftF from' left t).toNat ≠ -1 ∧ ((onF f k from' left t).1 = -1 ∨ f t (leftF from' left t).toNat < (onF f k from' left t).1) then (f t (leftF from' left t).toNat, t) else onF f k from' left t
theorem onF_ok (f : Nat → Nat → Int) (k from' left : Nat) : ∀ q, (onF f k from' left q).1 ≠ -1 → (onF f k from' left q).2 < q ∧ 0 ≤ leftF from' left (onF f k from' left q).2 ∧ f (onF f k from' left q).2 (leftF from' left (onF f k from' left q).2).toNat = (onF f k from' left q).1
  | 0, h => absurd rfl h
  | q + 1, h => by
    unfold onF at h ⊢
    split at h
    · rename_i hc
      rw [if_pos hc]
      exact ⟨Nat.lt_succ_self _, hc.1, rfl⟩
    · rename_i hc
      rw [if_neg hc]
      obtain ⟨h1, h2, h3⟩ := onF_ok f k from' left q h
      exact ⟨Nat.lt_succ_of_lt h1, h2, h3⟩
theorem onF_rng {f : Nat → Nat → Int} {k from' left : Nat} {B : Int} : ∀ q, (∀ t l, t < q → l ≤ left → -1 ≤ f t l ∧ f t l ≤ B) → -1 ≤ B → -1 ≤ (onF f k from' left q).1 ∧ (onF f k from' left q).1 ≤ B ∧ (onF f k from' left q).2 ≤ q
  | 0, _, h => ⟨Int.le_refl _, h, Nat.le_refl _⟩
  | q + 1, hf, h => by
    unfold onF
    split
    · rename_i hc
      have := hf q (leftF from' left q).toNat (Nat.lt_succ_self _) (by have := hc.1; unfold leftF at this ⊢; split <;> omega)
      exact ⟨this.1, this.2, Nat.le_succ _⟩
    · obtain ⟨h1, h2, h3⟩ := onF_rng q (fun t l ht hl => hf t l (by omega) hl) h
      exact ⟨h1, h2, by omega⟩
/-- The least costs, by courses behind. -/
def vF (pr : Nat → Nat → Int) (k q n : Nat) : Nat → Nat → Nat → Int
  | 0, p, _ => pr (n - 1) p
  | d + 1, p, l => if pr (n - 1 - (d + 1)) p = -1 then -1 else if (onF (vF pr k q n d) k p l q).1 = -1 then -1 else pr (n - 1 - (d + 1)) p + (onF (vF pr k q n d) k p l q).1
theorem vF_rng {pr : Nat → Nat → Int} {k q n : Nat} (hp : ∀ i p, i < n → p < q → -1 ≤ pr i p ∧ pr i p ≤ 4000000000000000) : ∀ d p l, d < n → p < q → -1 ≤ vF pr k q n d p l ∧ vF pr k q n d p l ≤ 4000000000000000 * ((d : Int) + 1)
  | 0, p, l, hd, h => by
    unfold vF
    have := hp (n - 1) p (by omega) h
    omega
  | d + 1, p, l, hd, h => by
    unfold vF
    have h1 := hp (n - 1 - (d + 1)) p (by omega) h
    have h2 := onF_rng (f := vF pr k q n d) (k := k) (from' := p) (left := l) (B := 4000000000000000 * ((d : Int) + 1)) q (fun t l' ht _ => vF_rng hp d t l' (by omega) ht) (by omega)
    split
    · omega
    · split
      · omega
      · omega
/-- The way that Best goes. -/
def wayF (pr : Nat → Nat → Int) (k q n : Nat) : (d : Nat) → (p l : Nat) → List Nat
  | 0, p, _ => [p]
  | d + 1, p, l => p :: wayF pr k q n d (onF (vF pr k q n d) k p l q).2 (leftF p l (onF (vF pr k q n d) k p l q).2).toNat
theorem wayF_len (pr : Nat → Nat → Int) (k q n : Nat) : ∀ d p l, (wayF pr k q n d p l).length = d + 1
  | 0, _, _ => rfl
  | d + 1, p, l => by unfold wayF; rw [List.length_cons, wayF_len]
def sumL : List Int → Int
  | [] => 0
  | a :: l => a + sumL l
theorem sumL_cons (a : Int) (l : List Int) : sumL (a :: l) = a + sumL l := rfl
theorem wayF_ok {pr : Nat → Nat → Int} {k q n : Nat} : ∀ d p l, d < n → p < q → vF pr k q n d p l ≠ -1 → (∀ i a, (wayF pr k q n d p l)[i]? = some a → a < q ∧ pr (n - 1 - d + i) a ≠ -1) ∧ vF pr k q n d p l = sumL ((List.range (d + 1)).map fun i => pr (n - 1 - d + i) ((wayF pr k q n d p l).getD i 0))
  | 0, p, l, hd, hp, h => by
    unfold vF at h
    unfold vF wayF
    refine ⟨fun i a ha => ?_, ?_⟩
    · rcases i with _ | i
      · simp at ha
        subst ha
        exact ⟨hp, by simpa using h⟩
      · simp at ha
    · simp [sumL]
  | d + 1, p, l, hd, hp, h => by
    unfold vF at h ⊢
    by_cases h1 : pr (n - 1 - (d + 1)) p = -1
    · rw [if_pos h1] at h; exact absurd rfl h
    rw [if_neg h1] at h ⊢
    by_cases h2 : (onF (vF pr k q n d) k p l q).1 = -1
    · rw [if_pos h2] at h; exact absurd rfl h
    rw [if_neg h2]
    obtain ⟨a1, a2, a3⟩ := onF_ok _ k p l q h2
    obtain ⟨b1, b2⟩ := wayF_ok d (onF (vF pr k q n d) k p l q).2 (leftF p l (onF (vF pr k q n d) k p l q).2).toNat (Nat.lt_of_succ_lt hd) a1 (by rw [a3]; exact h2)
    rw [a3] at b2
    unfold wayF
    refine ⟨fun i a ha => ?_, ?_⟩
    · rcases i with _ | i
      · simp at ha
        subst ha
        exact ⟨hp, h1⟩
      · rw [List.getElem?_cons_succ] at ha
        have := b1 i a ha
        rw [show n - 1 - (d + 1) + (i + 1) = n - 1 - d + i from by omega]
        exact this
    · rw [b2, List.range_succ_eq_map (n := d + 1), List.map_cons, List.map_map]
      rw [sumL_cons]
      congr 1
      · congr 1
        refine List.map_congr_left fun i hi => ?_
        rw [Function.comp, show n - 1 - (d + 1) + Nat.succ i = n - 1 - d + i from by omega]
        simp
end
end
section
section
open Go.RowKit
/-- A row of rows: its first t cells name rows that are whole. -/
structure Ro (W : World) (lo hi rb q : Nat) (cs : Array Value) (t c1 : Nat) (f : Nat → Nat → Int) : Prop where
  hlo : lo ≤ rb
  hhi : rb < hi
  h : W.heap[rb]? = some (.cells cs 22 (0, 0))
  sz : cs.size = q
  rows : ∀ u, u < t → ∃ cb, cs[u]? = some (.slice (some ⟨cb, 0, none⟩) c1 c1) ∧ lo ≤ cb ∧ cb < hi ∧ RwF W cb c1 c1 (f u)
theorem Ro.kx {W W' : World} {lo hi rb q t c1 : Nat} {cs : Array Value} {f : Nat → Nat → Int} {S : Nat → Prop} (r : Ro W lo hi rb q cs t c1 f) (hk : Kx S W W') (hs : ∀ j, lo ≤ j → j < hi → ¬ S j) : Ro W' lo hi rb q cs t c1 f :=
  ⟨r.hlo, r.hhi, (hk.block _ (Array.getElem?_eq_some_iff.1 r.h).1 (hs _ r.hlo r.hhi)).trans r.h, r.sz, fun u hu => by
    obtain ⟨cb, a1, a2, a3, a4⟩ := r.rows u hu
    exact ⟨cb, a1, a2, a3, a4.kx hk (hs _ a2 a3)⟩⟩
theorem Ro.mono {W : World} {lo lo' hi hi' rb q t c1 : Nat} {cs : Array Value} {f : Nat → Nat → Int} (r : Ro W lo hi rb q cs t c1 f) (hl : lo' ≤ lo) (hh : hi ≤ hi') : Ro W lo' hi' rb q cs t c1 f :=
  ⟨Nat.le_trans hl r.hlo, Nat.lt_of_lt_of_le r.hhi hh, r.h, r.sz, fun u hu => by
    obtain ⟨cb, a1, a2, a3, a4⟩ := r.rows u hu
    exact ⟨cb, a1, Nat.le_trans hl a2, Nat.lt_of_lt_of_le a3 hh, a4⟩⟩
theorem Ro.ne {W : World} {lo hi rb q t c1 : Nat} {cs : Array Value} {f : Nat → Nat → Int} (r : Ro W lo hi rb q cs t c1 f) {cb t' : Nat} {g : Nat → Int} (h : RwF W cb c1 t' g) : cb ≠ rb := by
  rintro rfl
  obtain ⟨cs', h1, -, -⟩ := h
  have h2 := r.h.symm.trans h1
  injection h2 with h2
  injection h2 with _ h2
  exact absurd h2 (by decide)
theorem Ro.set {W : World} {lo hi rb q t c1 : Nat} {cs : Array Value} {f : Nat → Nat → Int} (r : Ro W lo hi rb q cs t c1 f) (v : Value) : Ro (W.setCell ⟨rb, t, none⟩ v) lo hi rb q (cs.set! t v) t c1 f := by
  refine ⟨r.hlo, r.hhi, by simp [World.setCell, Array.getElem?_modify, r.h], by simp [r.sz], fun u hu => ?_⟩
  obtain ⟨cb, a1, a2, a3, a4⟩ := r.rows u hu
  refine ⟨cb, ?_, a2, a3, a4.kx (kx_one W rb t v) (r.ne a4)⟩
  rw [← a1]
  simp [show ¬ t = u by omega]
/-- One more row that is whole. -/
theorem Ro.push {W : World} {lo hi hi' rb q t c1 cb : Nat} {cs : Array Value} {f : Nat → Nat → Int} (r : Ro W lo hi rb q cs t c1 f) (hc : cs[t]? = some (.slice (some ⟨cb, 0, none⟩) c1 c1)) (h1 : hi ≤ cb) (h2 : cb < hi') (hr : RwF W cb c1 c1 (f t)) : Ro W lo hi' rb q cs (t + 1) c1 f :=
  ⟨r.hlo, by have := r.hhi; omega, r.h, r.sz, fun u hu => by
    by_cases e : u = t
    · subst e
      exact ⟨cb, hc, by have := r.hlo; have := r.hhi; omega, h2, hr⟩
    · obtain ⟨cb', a1, a2, a3, a4⟩ := r.rows u (by omega)
      exact ⟨cb', a1, a2, by omega, a4⟩⟩
theorem Ro.cell {W : World} {lo hi rb q t c1 : Nat} {cs : Array Value} {f : Nat → Nat → Int} (r : Ro W lo hi rb q cs t c1 f) {u : Nat} {v : Value} (hv : cs[u]? = some v) : W.cell? ⟨rb, u, none⟩ = some v := by
  rw [cell_of_row _ _ u _ _ (0, 0) r.h]; exact hv
theorem Ro.lt {W : World} {lo hi rb q t c1 : Nat} {cs : Array Value} {f : Nat → Nat → Int} (r : Ro W lo hi rb q cs t c1 f) : rb < W.heap.size := (Array.getElem?_eq_some_iff.1 r.h).1
theorem Ro.store {W : World} {lo hi rb q t c1 : Nat} {cs : Array Value} {f : Nat → Nat → Int} (r : Ro W lo hi rb q cs t c1 f) {u : Nat} (hu : u < q) : (∃ v, W.cell? ⟨rb, u, none⟩ = some v) ∧ ∀ j, W.frozen? ⟨rb, j, none⟩ = false := by
  have hs := r.sz
  exact ⟨⟨cs[u]'(by omega), r.cell (Array.getElem?_eq_getElem _)⟩, fun j => by simp [World.frozen?, r.h]⟩
/-- The table: its rows from i on are whole. -/
structure Fi (W : World) (hi tb n : Nat) (Tc : Array Value) (i q c1 : Nat) (V : Nat → Nat → Nat → Int) : Prop where
  hhi : tb < hi
  h : W.heap[tb]? = some (.cells Tc 64 (0, 0))
  sz : Tc.size = n
  rows : ∀ u, i ≤ u → u < n → ∃ rb cs, Tc[u]? = some (.slice (some ⟨rb, 0, none⟩) q q) ∧ Ro W (tb + 1) hi rb q cs q c1 (V u)
theorem Fi.kx {W W' : World} {hi tb n i q c1 : Nat} {Tc : Array Value} {V : Nat → Nat → Nat → Int} {S : Nat → Prop} (r : Fi W hi tb n Tc i q c1 V) (hk : Kx S W W') (hs : ∀ j, tb ≤ j → j < hi → ¬ S j) : Fi W' hi tb n Tc i q c1 V :=
  ⟨r.hhi, (hk.block _ (Array.getElem?_eq_some_iff.1 r.h).1 (hs _ (Nat.le_refl _) r.hhi)).trans r.h, r.sz, fun u h1 h2 => by
    obtain ⟨rb, cs, a1, a2⟩ := r.rows u h1 h2
    exact ⟨rb, cs, a1, a2.kx hk (fun j h3 h4 => hs j (by omega) h4)⟩⟩
theorem Fi.set {W : World} {hi tb n i q c1 : Nat} {Tc : Array Value} {V : Nat → Nat → Nat → Int} (r : Fi W hi tb n Tc (i + 1) q c1 V) (v : Value) : Fi (W.setCell ⟨tb, i, none⟩ v) hi tb n (Tc.set! i v) (i + 1) q c1 V :=
  ⟨r.hhi, by simp [World.setCell, Array.getElem?_modify, r.h], by simp [r.sz], fun u h1 h2 => by
    obtain ⟨rb, cs, a1, a2⟩ := r.rows u h1 h2
    exact ⟨rb, cs, by rw [← a1]; simp [show ¬ i = u by omega], a2.kx (kx_one W tb i v) (fun j h3 _ => by omega)⟩⟩
theorem Fi.push {W : World} {hi hi' tb n i q c1 rb : Nat} {Tc cs : Array Value} {V : Nat → Nat → Nat → Int} (r : Fi W hi tb n Tc (i + 1) q c1 V) (hc : Tc[i]? = some (.slice (some ⟨rb, 0, none⟩) q q)) (hh : hi ≤ hi') {lo : Nat} (hlo : hi ≤ lo) (hr : Ro W lo hi' rb q cs q c1 (V i)) : Fi W hi' tb n Tc i q c1 V :=
  ⟨by have := r.hhi; omega, r.h, r.sz, fun u h1 h2 => by
    by_cases e : u = i
    · subst e
      exact ⟨rb, cs, hc, hr.mono (by have := r.hhi; omega) (Nat.le_refl _)⟩
    · obtain ⟨rb', cs', a1, a2⟩ := r.rows u (by omega) h2
      exact ⟨rb', cs', a1, a2.mono (Nat.le_refl _) hh⟩⟩
theorem Fi.cell {W : World} {hi tb n i q c1 : Nat} {Tc : Array Value} {V : Nat → Nat → Nat → Int} (r : Fi W hi tb n Tc i q c1 V) {u : Nat} {v : Value} (hv : Tc[u]? = some v) : W.cell? ⟨tb, u, none⟩ = some v := by
  rw [cell_of_row _ _ u _ _ (0, 0) r.h]; exact hv
theorem Fi.lt {W : World} {hi tb n i q c1 : Nat} {Tc : Array Value} {V : Nat → Nat → Nat → Int} (r : Fi W hi tb n Tc i q c1 V) : tb < W.heap.size := (Array.getElem?_eq_some_iff.1 r.h).1
theorem Fi.store {W : World} {hi tb n i q c1 : Nat} {Tc : Array Value} {V : Nat → Nat → Nat → Int} (r : Fi W hi tb n Tc i q c1 V) {u : Nat} (hu : u < n) : (∃ v, W.cell? ⟨tb, u, none⟩ = some v) ∧ ∀ j, W.frozen? ⟨tb, j, none⟩ = false := by
  have hs := r.sz
  exact ⟨⟨Tc[u]'(by omega), r.cell (Array.getElem?_eq_getElem _)⟩, fun j => by simp [World.frozen?, r.h]⟩
theorem kx_alloc (W : World) (o : Obj) (S : Nat → Prop) : Kx S W (W.alloc o) := (Kx.refl _ W).below (below_new W o)
theorem set_self {cs : Array Value} {i n : Nat} (h : cs.size = n) (hi : i < n) (v : Value) : (cs.set! i v)[i]? = some v := by simp [h, hi]
/-- A new row of rows stands in the table. -/
theorem Fi.start {W : World} {tb n i q c1 : Nat} {Tc : Array Value} {V : Nat → Nat → Nat → Int} (r : Fi W W.heap.size tb n Tc (i + 1) q c1 V) (hi : i < n) {W1 : World}
    (h1 : ((W.setCell ⟨tb, i, none⟩ (.slice (some ⟨W.heap.size, 0, none⟩) q q)).alloc (.cells (madeCells #[Value.slice none 0 0] q) 22)).drew = W1) :
    Kx (fun j => j = tb) W W1 ∧ Fi W1 W.heap.size tb n (Tc.set! i (.slice (some ⟨W.heap.size, 0, none⟩) q q)) (i + 1) q c1 V ∧ (Tc.set! i (.slice (some ⟨W.heap.size, 0, none⟩) q q))[i]? = some (.slice (some ⟨W.heap.size, 0, none⟩) q q) ∧
      Ro W1 W.heap.size W1.heap.size W.heap.size q (madeCells #[Value.slice none 0 0] q) 0 c1 (V i) := by
  rw [← h1]
  have k2 : Kx (fun _ => False) (W.setCell ⟨tb, i, none⟩ (.slice (some ⟨W.heap.size, 0, none⟩) q q)) ((W.setCell ⟨tb, i, none⟩ (.slice (some ⟨W.heap.size, 0, none⟩) q q)).alloc (.cells (madeCells #[Value.slice none 0 0] q) 22)).drew := (kx_alloc _ _ _).drewN 1
  refine ⟨(kx_one W tb i _).trans k2 (fun j _ h => h.elim), (r.set _).kx k2 (fun _ _ _ h => h), set_self r.sz hi _, ?_⟩
  have h0 := heap_alloc_new (W.setCell ⟨tb, i, none⟩ (.slice (some ⟨W.heap.size, 0, none⟩) q q)) (.cells (madeCells #[Value.slice none 0 0] q) 22)
  rw [World.size_setCell] at h0
  exact ⟨Nat.le_refl _, by show _ < ((W.setCell _ _).alloc _).heap.size; simp, h0, size_madeCells _ _, fun u hu => by omega⟩
/-- A new row stands in the row of rows. -/
theorem Ro.start {W : World} {lo rb q t c1 : Nat} {cs : Array Value} {f : Nat → Nat → Int} (r : Ro W lo W.heap.size rb q cs t c1 f) (ht : t < q) {W1 : World}
    (h1 : ((W.setCell ⟨rb, t, none⟩ (.slice (some ⟨W.heap.size, 0, none⟩) c1 c1)).alloc (.cells (madeCells #[Value.int .i64 0] c1) 3)).drew = W1) :
    Kx (fun j => j = rb) W W1 ∧ Ro W1 lo W.heap.size rb q (cs.set! t (.slice (some ⟨W.heap.size, 0, none⟩) c1 c1)) t c1 f ∧ (cs.set! t (.slice (some ⟨W.heap.size, 0, none⟩) c1 c1))[t]? = some (.slice (some ⟨W.heap.size, 0, none⟩) c1 c1) ∧ RwF W1 W.heap.size c1 0 (f t) := by
  rw [← h1]
  have k2 : Kx (fun _ => False) (W.setCell ⟨rb, t, none⟩ (.slice (some ⟨W.heap.size, 0, none⟩) c1 c1)) ((W.setCell ⟨rb, t, none⟩ (.slice (some ⟨W.heap.size, 0, none⟩) c1 c1)).alloc (.cells (madeCells #[Value.int .i64 0] c1) 3)).drew := (kx_alloc _ _ _).drewN 1
  refine ⟨(kx_one W rb t _).trans k2 (fun j _ h => h.elim), (r.set _).kx k2 (fun _ _ _ h => h), set_self r.sz ht _, ?_⟩
  have h0 := heap_alloc_new (W.setCell ⟨rb, t, none⟩ (.slice (some ⟨W.heap.size, 0, none⟩) c1 c1)) (.cells (madeCells #[Value.int .i64 0] c1) 3)
  rw [World.size_setCell] at h0
  exact ⟨_, h0, size_madeCells _ _, fun u hu => by omega⟩
theorem vF_last {pr : Nat → Nat → Int} {k q n i p l : Nat} (h : i + 1 = n) : vF pr k q n (n - 1 - i) p l = pr i p := by
  rw [show n - 1 - i = 0 from by omega, vF, show n - 1 = i from by omega]
theorem vF_step {pr : Nat → Nat → Int} {k q n i p l : Nat} (h : i + 1 < n) : vF pr k q n (n - 1 - i) p l = if pr i p = -1 then -1 else if (onF (vF pr k q n (n - 1 - (i + 1))) k p l q).1 = -1 then -1 else pr i p + (onF (vF pr k q n (n - 1 - (i + 1))) k p l q).1 := by
  have e : n - 1 - i = n - 1 - (i + 1) + 1 := by omega
  have e2 : n - 1 - (n - 1 - (i + 1) + 1) = i := by omega
  rw [e, vF, e2]
end
end
end Go.Proofs.YtojbldoekalbnaaGreatDoor
