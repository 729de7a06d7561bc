/-
  Contracts of the small functions of the panel: as, part; no condition but those that each contract states. The contract of clavecinref08.cuts: all that can be done with a rectangle, and what it is worth by a table; conditions: the rectangle lies within the table, whose values are small. The contract of clavecinref08.Table: the table of the greatest values; condition: the panel is valid. The contract of clavecinref08.plan: the plan that the document names; condition: the rectangle lies within the table of a valid panel. The contract of clavecinref08.Best: the plan that the document names and its value; condition: the panel is valid. A region that draws its order and only reads, in the body of a range over a function: the quiet walk of the library, carried over to a round's frame; condition: no defer statement stands in it.
-/
import Derived.Test.YtndcijkgaadpgaaGreatDoorUw
import Derived.Test.YtndcijkgaadpgaaGreatDoorUu
import Derived.Test.YtndcijkgaadpgaaGreatDoorMMem
import Derived.Deep.RegionHeld3
import Derived.RangeFuncNested
import Derived.RangeFuncBound
import Derived.RangeFuncCalls
import Derived.RangeFuncLeaves
import Derived.Shelf.Abstract
import Derived.Shelf.RegionOpen
import Derived.OwnWalkIn
import Derived.TacticsInMore
import Derived.LoopNIn
import Derived.LoopIn
namespace Go.Proofs.YtndcijkgaadpgaaGreatDoor
section
open Go.RowKit

def asB (w h : Int) (s : Shp) (t : Bool) : Bool := (t && s.T && (w == s.H) && (h == s.W)) || (!t && (w == s.W) && (h == s.H))
def asV (w h : Int) (s : Shp) (t : Bool) : Int := if asB w h s t then s.V else -1
end
section
open Go.RowKit

theorem elemCut : ElemOk Tryz.prog 253 453 2 16 := ElemOk.of (z := .agg #[.int .i64 0, .int .i64 0]) Tryz.underlying253 (by kernel_rfl) rfl (by omega)
theorem elemInt : ElemOk Tryz.prog 35 3 1 8 := ElemOk.of (z := .int .i64 0) Tryz.underlying35 (by kernel_rfl) rfl (by omega)
def wsC (l : List Way) : List Value := (l.map (·.1)).flatMap cutE
def wsV (l : List Way) : List Value := (l.map (·.2)).flatMap intE
theorem wsC_snoc (l : List Way) (c a v : Int) : wsC (l ++ [((c, a), v)]) = wsC l ++ [.int .i64 c, .int .i64 a] := by simp [wsC, cutE]
theorem wsV_snoc (l : List Way) (c a v : Int) : wsV (l ++ [((c, a), v)]) = wsV l ++ [.int .i64 v] := by simp [wsV, intE]
/-- The two lists as they lie. -/
def Two (W : World) (base : Nat) (v1 v2 : Value) (L : Nat) (l : List Way) : Prop := L = l.length ∧ W.ownsRow base 453 2 v1 L (wsC l) ∧ W.ownsRow base 3 1 v2 L (wsV l)
section
variable {W W' w1 w2 : World} {base L : Nat} {v1 v2 v1' v2' : Value} {l : List Way}
theorem Two.alloc (h : Two W base v1 v2 L l) (o : Obj) : Two (W.alloc o) base v1 v2 L l := ⟨h.1, h.2.1.alloc o, h.2.2.alloc o⟩
theorem Two.grown {B : Nat} (h : Two W base v1 v2 L l) (hb : Below B W W') (hB : W.heap.size ≤ B) : Two W' base v1 v2 L l :=
  have hg : W.grownBy W' none := ⟨hb.os, hb.tape, hb.output, hb.size, fun k hk _ => hb.block k (by omega)⟩
  ⟨h.1, h.2.1.kept hg (by cases v1.ownBlock <;> simp), h.2.2.kept hg (by cases v2.ownBlock <;> simp)⟩
theorem Two.after1 (h : Two W base v1 v2 L l) {o : Obj} (hg : (W.alloc o).grownBy w1 v1.ownBlock) : w1.ownsRow base 3 1 v2 L (wsV l) :=
  (h.2.2.alloc o).kept hg (own_ne (h.2.2.alloc o) (h.2.1.alloc o) (by decide))
theorem Two.after2 {c a v : Int} {o : Obj} (h : Two W base v1 v2 L l) (ho1 : w1.ownsRow base 453 2 v1' (L + 1) (wsC l ++ [.int .i64 c, .int .i64 a])) (h2 : w1.ownsRow base 3 1 v2 L (wsV l))
    (ho2 : w2.ownsRow base 3 1 v2' (L + 1) (wsV l ++ [.int .i64 v])) (hg2 : (w1.alloc o).grownBy w2 v2.ownBlock) : Two w2 base v1' v2' (L + 1) (l ++ [((c, a), v)]) :=
  ⟨by rw [h.1]; simp, by rw [wsC_snoc]; exact (ho1.alloc o).kept hg2 (own_ne (ho1.alloc o) (h2.alloc o) (by decide)), by rw [wsV_snoc]; exact ho2⟩
theorem Two.below {B : Nat} {w : World} {o o' : Obj} (hb : Below B w W) (hB : B ≤ base) (hw : B ≤ W.heap.size) (h : Two W base v1 v2 L l) (hg : (W.alloc o).grownBy w1 v1.ownBlock) (h2 : w1.ownsRow base 3 1 v2 L (wsV l)) (hg2 : (w1.alloc o').grownBy w2 v2.ownBlock) : Below B w w2 := by
  have hb1 : Below B w w1 := below_own (hb.alloc hw o) (h.2.1.alloc o) hB (by simp; omega) hg
  have hs : B ≤ w1.heap.size := by have := hg.size; simp at this; omega
  exact below_own (hb1.alloc hs o') (h2.alloc o') hB (by simp; omega) hg2
end
theorem shWs_take (w h : Int) (s : Shp) : ∀ (ss : List Shp) (i k : Nat), ss[k]? = some s → shWs w h i (ss.take (k + 1)) = shWs w h i (ss.take k) ++ shW w h (i + k) s := by
  intro ss
  induction ss with
  | nil => intro i k h; simp at h
  | cons a r ih =>
    intro i k hk
    cases k with
    | zero => simp at hk; subst hk; simp [shWs]
    | succ k =>
      simp only [List.take_succ_cons, shWs, List.append_assoc]
      rw [ih (i + 1) k (by simpa using hk), show i + 1 + k = i + (k + 1) by omega]
theorem asB_false (w h : Int) (s : Shp) : asB w h s false = true ↔ (s.W = w ∧ s.H = h) := by
  simp only [asB, Bool.false_and, Bool.false_or, Bool.not_false, Bool.true_and, Bool.and_eq_true, beq_iff_eq]
  exact ⟨fun ⟨a, b⟩ => ⟨a.symm, b.symm⟩, fun ⟨a, b⟩ => ⟨a.symm, b.symm⟩⟩
theorem asB_true (w h : Int) (s : Shp) : asB w h s true = true ↔ (s.T = true ∧ s.H = w ∧ s.W = h) := by
  simp only [asB, Bool.true_and, Bool.not_true, Bool.false_and, Bool.or_false, Bool.and_eq_true, beq_iff_eq]
  exact ⟨fun ⟨⟨t, a⟩, b⟩ => ⟨t, a.symm, b.symm⟩, fun ⟨t, a, b⟩ => ⟨⟨t, a.symm⟩, b.symm⟩⟩
theorem shW_eq (w h : Int) (i : Nat) (s : Shp) : shW w h i s = (if asB w h s false then [((1, (i : Int)), s.V)] else []) ++ (if asB w h s true then [((2, (i : Int)), s.V)] else []) := by
  unfold shW
  simp only [asB_false, asB_true]
theorem acW_succ (T : Int → Int → Int) (k w h : Int) (n : Nat) : acW T k w h (n + 1) = acW T k w h n ++ [((3, (n : Int) + 1), T ((n : Int) + 1) h + T (w - ((n : Int) + 1) - k) h)] := by
  simp [acW, List.range_succ]
theorem dnW_succ (T : Int → Int → Int) (k w h : Int) (n : Nat) : dnW T k w h (n + 1) = dnW T k w h n ++ [((4, (n : Int) + 1), T w ((n : Int) + 1) + T w (h - ((n : Int) + 1) - k))] := by
  simp [dnW, List.range_succ]
theorem shW_len (w h : Int) (i : Nat) (s : Shp) : (shW w h i s).length ≤ 2 := by
  rw [shW_eq]; split <;> split <;> simp
theorem shWs_len (w h : Int) : ∀ (ss : List Shp) (i : Nat), (shWs w h i ss).length ≤ 2 * ss.length := by
  intro ss
  induction ss with
  | nil => intro i; simp [shWs]
  | cons s r ih => intro i; have := ih (i + 1); have := shW_len w h i s; simp only [shWs, List.length_append, List.length_cons]; omega
/-- What the loops of cuts have gathered. -/
def gat (T : Int → Int → Int) (k : Int) (ss : List Shp) (w h : Int) (i a b : Nat) : List Way := ((0, 0), 0) :: (shWs w h 0 (ss.take i) ++ (acW T k w h a ++ dnW T k w h b))
theorem gat_len (T : Int → Int → Int) (k : Int) (ss : List Shp) (w h : Int) (i a b : Nat) (hs : ss.length ≤ 16) (ha : a ≤ 64) (hb : b ≤ 64) : (gat T k ss w h i a b).length ≤ 161 := by
  have := shWs_len w h (ss.take i) 0
  have := List.length_take_le i ss
  have : (ss.take i).length ≤ 16 := by rw [List.length_take]; omega
  simp only [gat, List.length_cons, List.length_append, acW, dnW, List.length_map, List.length_range]
  omega

theorem one1 (a : Int) : ∀ u ∈ (#[Value.int .i64 a] : Array Value).toList, u.oneCell' = true := by simp [Value.oneCell']
theorem one2 (a b : Int) : ∀ u ∈ (#[Value.int .i64 a, Value.int .i64 b] : Array Value).toList, u.oneCell' = true := by simp [Value.oneCell']
end
section
open Go.RowKit

theorem elemRow : ElemOk Tryz.prog 223 35 1 24 := ElemOk.of (z := .slice none 0 0) Tryz.underlying223 (by kernel_rfl) rfl (by omega)
theorem infoInt : (Tryz.prog.info? 3).map (fun i => (i.zero, i.size, i.bytes)) = some (some (.int .i64 0), 1, 8) := by kernel_rfl
theorem one1s (a : Option Addr) (n c : Nat) : ∀ u ∈ (#[Value.slice a n c] : Array Value).toList, u.oneCell' = true := by simp [Value.oneCell']
theorem tabP_rows (k : Int) (ss : List Shp) (h i j : Nat) (hh : h ≤ 64) (y : Int) (hy : y ≤ h) : ∀ r ∈ tabP k ss h i j, y ≤ r.length ∧ r.length ≤ 64 := by
  intro r hr
  rcases List.mem_append.1 hr with hr | hr
  · simp only [tabV, List.mem_map, List.mem_range] at hr
    obtain ⟨a, _, rfl⟩ := hr
    rw [rowV_len]; omega
  · simp only [List.mem_singleton] at hr
    subst hr
    rw [rowP_len]; omega
/-- The table while the best of one rectangle is sought: x so far. -/
def tabQ (k : Int) (ss : List Shp) (h i j : Nat) (x : Int) : List (List Int) := (tabP k ss h i j).set i ((rowP k ss h i j).set j x)
theorem tabQ_zero (k : Int) (ss : List Shp) (h i j : Nat) (hj : j < h) : tabQ k ss h i j 0 = tabP k ss h i j := by
  have h1 : (rowP k ss h i j).set j 0 = rowP k ss h i j := by
    apply List.ext_getElem?
    intro b
    rw [List.getElem?_set]
    by_cases hb : j = b
    · subst hb; simp [rowP, hj]
    · rw [if_neg hb]
  rw [tabQ, h1]
  apply List.ext_getElem?
  intro a
  rw [List.getElem?_set]
  by_cases ha : i = a
  · subst ha
    rw [if_pos rfl, if_pos (by rw [tabP, List.length_append, tabV_len]; simp), tabP_last]
  · rw [if_neg ha]
theorem tabQ_val (k : Int) (ss : List Shp) (h i j : Nat) (hj : j < h) : tabQ k ss h i j (val k ss ((i : Int) + 1) ((j : Int) + 1)) = tabP k ss h i (j + 1) := by
  rw [tabQ, rowP_set _ _ _ _ _ hj, tabP, List.set_append_right _ _ (by rw [tabV_len]; exact Nat.le_refl _), tabV_len, Nat.sub_self]
  rfl
theorem tabQ_set (k : Int) (ss : List Shp) (h i j : Nat) (x y : Int) : (tabQ k ss h i j x).set i (((rowP k ss h i j).set j x).set j y) = tabQ k ss h i j y := by
  rw [tabQ, tabQ, List.set_set, List.set_set]
theorem tabQ_row (k : Int) (ss : List Shp) (h i j : Nat) (x : Int) : (tabQ k ss h i j x)[i]? = some ((rowP k ss h i j).set j x) := by
  rw [tabQ, List.getElem?_set_self]
  rw [tabP, List.length_append, tabV_len]; simp
theorem tabQ_cell (k : Int) (ss : List Shp) (h i j : Nat) (x : Int) (hj : j < h) : ((rowP k ss h i j).set j x)[j]? = some x := by
  rw [List.getElem?_set_self]; rw [rowP_len]; exact hj
theorem most_take (l : List Way) (k : Nat) (x : Way) (hx : l[k]? = some x) : most (l.take (k + 1)) = max (most (l.take k)) x.2 := by
  obtain ⟨hk, rfl⟩ := List.getElem?_eq_some_iff.1 hx
  rw [List.take_succ_eq_append_getElem hk, most_snoc]

theorem max_if (a b : Int) : max a b = if a < b then b else a := by
  split <;> omega
theorem ownsRow_drew' {W : World} {base e size n : Nat} {v : Value} {xs : List Value} (h : W.ownsRow base e size v n xs) : W.drew.ownsRow base e size v n xs := h
theorem Tbl.drew {W : World} {base L h : Nat} {eo ei : TypeId} {v : Value} {rows : List (List Int)} {gs : List Nat} (t : Tbl W base eo ei v L h rows gs) : Tbl W.drew base eo ei v L h rows gs := ⟨t.cnt, t.own, t.len, t.row, t.ne⟩
end
section
open Go.RowKit

/-- A plan has fewer than twice as many cuts as the rectangle has squares. -/
theorem planL_len (k : Int) (ss : List Shp) (hk : 0 ≤ k) : ∀ (f : Nat) (w h : Int), w.toNat + h.toNat ≤ f → 1 ≤ w → 1 ≤ h → ((planL k ss w h).length : Int) + 1 ≤ 2 * (w * h) := by
  intro f
  induction f with
  | zero => intro w h hf hw hh; omega
  | succ f ih =>
    intro w h hf hw hh
    obtain ⟨⟨⟨c, a⟩, v⟩, hp, hm, hv⟩ := pick_some k ss hk w h hw hh
    rw [planL_eq k ss hk w h hw hh hp]
    have hwh : 1 ≤ w * h := by have := Int.mul_le_mul hw hh (by omega) (by omega); simpa using this
    rcases (mem_ways _ k ss w h hw hh _).1 hm with h1 | ⟨j, s, _, ⟨_, _, h1⟩ | ⟨_, _, _, h1⟩⟩ | ⟨b, hb1, hb2, h1⟩ | ⟨b, hb1, hb2, h1⟩ <;> simp only [Prod.mk.injEq] at h1 <;> obtain ⟨⟨rfl, rfl⟩, rfl⟩ := h1
    · simp; omega
    · simp; omega
    · simp; omega
    · simp only [if_true, List.length_cons, List.length_append]
      have i1 := ih a h (by omega) hb1 hh
      have e1 : w * h = a * h + (w - a) * h := by rw [← Int.add_mul]; congr 1; omega
      have i2 : ((planL k ss (w - a - k) h).length : Int) + 1 ≤ 2 * ((w - a) * h) := by
        by_cases hr : w - a - k < 1
        · rw [planL_lt k ss _ h (.inl hr)]
          have : 1 ≤ (w - a) * h := by have := Int.mul_le_mul (show 1 ≤ w - a by omega) hh (by omega) (by omega); simpa using this
          simp; omega
        · have i3 := ih (w - a - k) h (by omega) (by omega) hh
          have := Int.mul_le_mul_of_nonneg_right (show w - a - k ≤ w - a by omega) (show 0 ≤ h by omega)
          omega
      omega
    · simp only [if_neg (show ¬ (4 : Int) = 3 by omega), if_true, List.length_cons, List.length_append]
      have i1 := ih w a (by omega) hw hb1
      have e1 : w * h = w * a + w * (h - a) := by rw [← Int.mul_add]; congr 1; omega
      have i2 : ((planL k ss w (h - a - k)).length : Int) + 1 ≤ 2 * (w * (h - a)) := by
        by_cases hr : h - a - k < 1
        · rw [planL_lt k ss w _ (.inr hr)]
          have : 1 ≤ w * (h - a) := by have := Int.mul_le_mul hw (show 1 ≤ h - a by omega) (by omega) (by omega); simpa using this
          simp; omega
        · have i3 := ih w (h - a - k) (by omega) hw (by omega)
          have := Int.mul_le_mul_of_nonneg_left (show h - a - k ≤ h - a by omega) (show 0 ≤ w by omega)
          omega
      omega
theorem planL_len64 (k : Int) (ss : List Shp) (hk : 0 ≤ k) (w h : Int) (hw : w ≤ 64) (hh : h ≤ 64) : (planL k ss w h).length ≤ 8192 := by
  by_cases hlt : w < 1 ∨ h < 1
  · rw [planL_lt k ss w h hlt]; simp
  · have h1 := planL_len k ss hk _ w h (Nat.le_refl _) (by omega) (by omega)
    have h2 : w * h ≤ 64 * 64 := Int.mul_le_mul hw hh (by omega) (by omega)
    omega
theorem find_drop_no {α : Type} (p : α → Bool) (l : List α) (i : Nat) (x : α) (hx : l[i]? = some x) (hp : p x = false) : (l.drop i).find? p = (l.drop (i + 1)).find? p := by
  obtain ⟨hi, rfl⟩ := List.getElem?_eq_some_iff.1 hx
  rw [List.drop_eq_getElem_cons hi, List.find?_cons, hp]
theorem find_drop_yes {α : Type} (p : α → Bool) (l : List α) (i : Nat) (x : α) (hx : l[i]? = some x) (hp : p x = true) : (l.drop i).find? p = some x := by
  obtain ⟨hi, rfl⟩ := List.getElem?_eq_some_iff.1 hx
  rw [List.drop_eq_getElem_cons hi, List.find?_cons, hp]
/-- What a plan's slice is: its row is owned from the call's first block on. -/
def PlanRet (w : World) (base : Nat) (v : Value) (l : List (Int × Int)) : Prop := w.ownsRow base 453 2 v l.length (l.flatMap cutE)
/-- One element of a table's row, as the walk asks for it. -/
theorem slr_at {W : World} {A : Option Addr} {n : Nat} {rows : List (List Int)} (h : SlR W A n rows) {i j : Nat} {r : List Int} {v : Int} (hr : rows[i]? = some r) (hv : r[j]? = some v) :
    ∃ b o b2 o2 ci, A = some ⟨b, o, none⟩ ∧ i < n ∧ j < r.length ∧ W.cell? ⟨b, o + i, none⟩ = some (.slice (some ⟨b2, o2, none⟩) r.length ci) ∧ W.cell? ⟨b2, o2 + j, none⟩ = some (.int .i64 v) := by
  have hi : i < rows.length := (List.getElem?_eq_some_iff.1 hr).1
  have hj : j < r.length := (List.getElem?_eq_some_iff.1 hv).1
  obtain ⟨b, o, hA, hb, hc⟩ := h.2 (by rw [h.1]; omega)
  obtain ⟨Ai, ci, h1, h2⟩ := hc i r hr
  obtain ⟨b2, o2, y, hA2, hb2, hy, h3⟩ := h2.at1 hj
  subst hA2
  rw [hv] at hy
  injection hy with hy
  subst hy
  exact ⟨b, o, b2, o2, ci, hA, by rw [h.1]; exact hi, hj, h1, h3⟩

theorem own_below {W W' : World} {b e s n : Nat} {v : Value} {xs : List Value} (h : W.ownsRow b e s v n xs) (hb : Below W.heap.size W W') : W'.ownsRow b e s v n xs :=
  h.kept (row := none) ⟨hb.os, hb.tape, hb.output, hb.size, fun k hk _ => hb.block k hk⟩ (by cases v.ownBlock <;> simp)
theorem below_drewN {B : Nat} {W W' : World} (h : Below B W W') (n : Nat) : Below B W (W'.drewN n) := ⟨h.os, h.tape, h.output, h.size, h.block⟩
theorem own_base {W : World} {b b' e s n : Nat} {v : Value} {xs : List Value} (h : W.ownsRow b e s v n xs) (hb : b' ≤ b) : W.ownsRow b' e s v n xs := by
  refine ⟨h.1, ?_⟩
  rcases h.2 with h0 | ⟨g, c, cur, h1, h2, h3⟩
  · exact .inl h0
  · exact .inr ⟨g, c, cur, h1, Nat.le_trans hb h2, h3⟩
theorem cut_one (l : List (Int × Int)) : ∀ u ∈ l.flatMap cutE, u.oneCell' = true := by
  intro u hu
  obtain ⟨x, _, hx⟩ := List.mem_flatMap.1 hu
  simp only [cutE, List.mem_cons, List.not_mem_nil, or_false] at hx
  rcases hx with rfl | rfl <;> rfl
end
section
open Go.RowKit

theorem SlR.drew {W : World} {A : Option Addr} {n : Nat} {rows : List (List Int)} (h : SlR W A n rows) : SlR W.drew A n rows := h
theorem SlE.drew {α : Type} {enc : α → List Value} {sz : Nat} {W : World} {A : Option Addr} {n : Nat} {l : List α} (h : SlE enc sz W A n l) : SlE enc sz W.drew A n l := h
end
section
open Go.RowKit

section
variable {P : Program} {ops : Array Oper} {C : World → Prop} {md : Region.Mode} {l n : Nat}
def noDefer (ops : Array Oper) : Bool := ops.all fun o => match o.op with | .defer _ => false | _ => true
theorem noDefer_at {i : Nat} {o : Oper} (h : noDefer ops = true) (ho : ops[i]? = some o) : ∀ c, o.op ≠ .defer c := by
  intro c hc
  obtain ⟨hi, rfl⟩ := Array.getElem?_eq_some_iff.1 ho
  have := Array.all_eq_true.1 h i hi
  rw [hc] at this
  cases this
theorem wpIn_of_quiet {o : Oper} {a : Act} {K : Act → Prop} {K' : Act → World → Prop} {Q' : Exit → Act → World → Prop} {w : World} (hd : ∀ c, o.op ≠ .defer c) (hw : C w) (h : ∀ a w', C w' → K a → K' a w') (hh : o.quiet P a C K) :
    o.wpIn (Fence.wide.inRound l) n P a w K' Q' := by
  obtain ⟨v, h1, h2⟩ := hh
  have h3 := h1 w hw
  unfold Oper.quietAt at h3
  refine ⟨fun _ _ => trivial, ?_⟩
  rw [show (Fence.wide.inRound l).round = some l from rfl, Oper.semAt_some l a.eval o hd]
  generalize (execOp a.eval o).run P w = r at *
  cases r with
  | ok x w' =>
    cases x <;> simp only [Oper.quietUpon] at h3 <;> simp only [Oper.uponIn]
    case value u =>
      obtain ⟨e1, e2⟩ := h3
      rw [e1, e2]
      exact h _ _ hw h2
    case skip =>
      obtain ⟨e1, e2⟩ := h3
      rw [e1, ← e2]
      exact h _ _ hw h2
    case enter f args =>
      obtain ⟨e1, hc⟩ := h3
      rw [e1]
      refine ⟨fun h0 => by simp [Fence.wide, Fence.inRound] at h0, CallsIn.inRound l (callsIn_wide.2 (hc.mono fun e w'' ⟨he, hw''⟩ => ?_))⟩
      subst he
      exact h _ _ hw'' h2
  | halt x w' => simp only [Oper.quietUpon] at h3
theorem wpOpIn_of_qOp {i : Nat} {a : Act} {K : Act → Prop} {K' : Act → World → Prop} {Q' : Exit → Act → World → Prop} {w : World} (hd : noDefer ops = true) (hC : C w) (h : ∀ a w', C w' → K a → K' a w') (hh : qOp P ops C i K a) :
    wpOpIn (Fence.wide.inRound l) n P ops Q' i K' a w := by
  unfold qOp at hh
  unfold wpOpIn
  split
  · rename_i ho; simp only [ho] at hh; exact h _ _ hC hh
  · rename_i o ho
    simp only [ho] at hh
    split
    · rename_i hw; simp only [hw, if_true] at hh; exact wpIn_of_quiet (noDefer_at hd ho) hC h hh
    · rename_i hw; simp only [hw] at hh; exact ⟨fun _ _ => trivial, h _ _ hC hh⟩
theorem wpAnyIn_of_quiet {Q : Act → Prop} {Q' : Exit → Act → World → Prop} (hd : noDefer ops = true) (hQ : ∀ a w, C w → Q a → Q' .normal a w) : ∀ (fuel : Nat) (listed : Array Bool) (a : Act) (w : World), C w →
    wpAnyQ P md ops C Q fuel listed a → wpAnyIn (Fence.wide.inRound l) n P md ops Q' fuel listed a w
  | 0, _, _, _, hw, h => ⟨h.1, hQ _ _ hw h.2⟩
  | fuel + 1, _, _, _, hw, h => ⟨fun h0 => hQ _ _ hw (h.1 h0), fun i hi => wpOpIn_of_qOp hd hw (fun a' w' hw' => wpAnyIn_of_quiet hd hQ fuel _ a' w' hw') (h.2 i hi)⟩
theorem wpIn_region_quiet_lit {id : Nat} {Q : Exit → Act → World → Prop} {a : Act} {w : World} {lo : List Oper} (hm : P.follows .mixedOrders = true) (hB : Region.lexB .any lo.toArray = true) (hd : noDefer lo.toArray = true)
    (h : wpQuiet P lo.toArray (fun w' => ∃ n, w' = w.drewN n) (fun a' => ∀ w', (∃ n, w' = w.drewN n) → Q .normal a' w') lo a) : (Code.region id lo.toArray true).wpIn (Fence.wide.inRound l) n P Q a w := by
  simp only [Region.lexB, Bool.and_eq_true] at hB
  refine wpIn_region_any hm (wpAnyIn_of_quiet (C := fun w' => ∃ n, w' = w.drewN n) (Q := fun a' => ∀ w', (∃ n, w' = w.drewN n) → Q .normal a' w') hd (fun _ w' hw' h => h w' hw') _ _ _ _ ⟨1, rfl⟩ ?_)
  have := wpAnyQ_lex (C := fun w' => ∃ n, w' = w.drewN n) (md := .any) hB.1 lo 0 (Array.replicate lo.toArray.size false) a (by simp) (by simpa using hB.2) h
  simpa using this
end

/-- No block of cells has turned, but for block mo. -/
def KC (mo : Option Nat) (W W' : World) : Prop := W.heap.size ≤ W'.heap.size ∧ ∀ j o, W.heap[j]? = some o → o.isCells = true → some j ≠ mo → W'.heap[j]? = some o
section
variable {mo : Option Nat} {A B C : World}
theorem KC.refl (mo : Option Nat) (W : World) : KC mo W W := ⟨Nat.le_refl _, fun _ _ h _ _ => h⟩
theorem KC.trans (h : KC mo A B) (k : KC mo B C) : KC mo A C := ⟨Nat.le_trans h.1 k.1, fun j o hj ho hm => k.2 j o (h.2 j o hj ho hm) ho hm⟩
theorem KC.cell (h : KC mo A B) {p : Addr} {v : Value} (hp : A.cell? p = some v) (hm : some p.block ≠ mo) : B.cell? p = some v := by
  obtain ⟨o, ho, hc⟩ := cells_of_cell hp
  exact (World.cell?_of_block (w := A) ((h.2 p.block o ho hc hm).trans ho.symm)).trans hp
theorem KC.putObj (W : World) (l : Nat) (o o' : Obj) (h : W.heap[l]? = some o) (hc : o.isCells = false) : KC mo W (W.putObj l o') :=
  ⟨(grownBy_putObj' W l o').size, fun j u hj hu _ => ((grownBy_putObj' W l o').block j (Array.getElem?_eq_some_iff.1 hj).1 (fun e => by
    injection e with e
    subst e
    rw [h] at hj
    injection hj with hj
    subst hj
    rw [hc] at hu
    cases hu)).trans hj⟩
theorem KC.grown {row : Option Nat} (h : A.grownBy B row) (hr : ∀ b, row = some b → mo = some b ∨ A.heap.size ≤ b) : KC mo A B :=
  ⟨h.size, fun j o hj _ hm => (h.block j (Array.getElem?_eq_some_iff.1 hj).1 (fun e => by
    rcases hr j e.symm with h' | h'
    · exact hm h'.symm
    · have := (Array.getElem?_eq_some_iff.1 hj).1; omega)).trans hj⟩
theorem KC.alloc (W : World) (o : Obj) : KC mo W (W.alloc o) := KC.grown (World.grownBy_alloc W o none) (fun b h => by cases h)
theorem KC.setCell (W : World) {b o : Nat} (hb : mo = some b) (u : Value) : KC mo W (W.setCell ⟨b, o, none⟩ u) :=
  ⟨by simp [World.setCell], fun j c hj _ hm => (Below.heap_setCell _ _ _ _ (fun e => by
    dsimp only at e
    subst e
    exact hm hb.symm)).trans hj⟩
theorem KC.drew (W : World) : KC mo W W.drew := ⟨Nat.le_refl _, fun _ _ h _ _ => h⟩
end
end
end Go.Proofs.YtndcijkgaadpgaaGreatDoor
