/-
  Contracts of temper.Check's fellows, Errors, Cost and Better; each states its condition.
-/
import Derived.Test.YtojbldoekalbnaaGreatTChk
import Derived.Test.YtojbldoekalbnaaGreatTDa
import Derived.Lib.SliceRun
import Derived.Deep.RegionHeld3
namespace Go.Proofs.YtojbldoekalbnaaGreat
section
open Go.RowKit
theorem fitsB_len {r : Rg} {st : List Int} (h : ¬ (st.length : Int) = r.N) : r.fitsB st = false := by
  unfold Rg.fitsB; simp [h]
theorem bool_ret {R : Ending → World → Prop} {w : World} {b c : Bool} (h : R (.returned (.bool c)) w) (e : b = c) : R (.returned (.bool b)) w := by rw [e]; exact h
end
section
open Go.RowKit
theorem ring9 {r : Rg} {A B : Option Addr} {n c m d : Nat} {W : World} {b : Nat} (h : W.heap[b]? = some (.cells #[.int .i64 r.N, .int .i64 r.S, .int .i64 r.low, .int .i64 r.high, .int .i64 r.total, .int .i64 r.pure, .int .i64 r.worst, .slice A n c, .slice B m d] 50)) :
    W.cell? ⟨b, 0, none⟩ = some (.int .i64 r.N) ∧ W.cell? ⟨b, 1, none⟩ = some (.int .i64 r.S) ∧ W.cell? ⟨b, 2, none⟩ = some (.int .i64 r.low) ∧ W.cell? ⟨b, 3, none⟩ = some (.int .i64 r.high) ∧ W.cell? ⟨b, 4, none⟩ = some (.int .i64 r.total) ∧
    W.cell? ⟨b, 5, none⟩ = some (.int .i64 r.pure) ∧ W.cell? ⟨b, 6, none⟩ = some (.int .i64 r.worst) ∧ W.cell? ⟨b, 7, none⟩ = some (.slice A n c) ∧ W.cell? ⟨b, 8, none⟩ = some (.slice B m d) ∧ (∀ j, W.frozen? ⟨b, j, none⟩ = false) := by
  have key : ∀ (j : Nat) (v : Value), (#[.int .i64 r.N, .int .i64 r.S, .int .i64 r.low, .int .i64 r.high, .int .i64 r.total, .int .i64 r.pure, .int .i64 r.worst, .slice A n c, .slice B m d] : Array Value)[j]? = some v → W.cell? ⟨b, j, none⟩ = some v := fun j v hv => by rw [cell_of_row _ _ j _ _ (0, 0) h]; exact hv
  exact ⟨key 0 _ rfl, key 1 _ rfl, key 2 _ rfl, key 3 _ rfl, key 4 _ rfl, key 5 _ rfl, key 6 _ rfl, key 7 _ rfl, key 8 _ rfl, fun j => by simp [World.frozen?, h]⟩
theorem below_drewN {b : Nat} {W W' : World} (h : Below b W W') (q : Nat) : Below b W (W'.drewN q) := ⟨h.os, h.tape, h.output, h.size, h.block⟩
theorem allow_no {r : Rg} {st : List Int} {i : Nat} (hi : i < r.N) (h : inB (r.err st i r.S) (-r.worst) r.worst = false) : r.allowB st = false := by
  cases e : r.allowB st with
  | false => rfl
  | true =>
    have := inB_iff.2 (allowB_iff.1 e i hi)
    rw [this] at h; cases h
/-- What the loop of priced keeps. -/
def Pri (r : Rg) (st : List Int) (k : Nat) (T : Int) : Prop := T = totF (r.one st) 0 k ∧ ∀ i, i < k → -r.worst ≤ r.err st i r.S ∧ r.err st i r.S ≤ r.worst
end
section
open Go.RowKit
theorem bcell {W W1 : World} (hb : Below W.heap.size W W1) : (∀ b o, b < W.heap.size → W1.cell? ⟨b, o, none⟩ = W.cell? ⟨b, o, none⟩) ∧ (∀ b o, b < W.heap.size → W1.frozen? ⟨b, o, none⟩ = W.frozen? ⟨b, o, none⟩) :=
  ⟨fun b o h => hb.cell (p := ⟨b, o, none⟩) h, fun b o h => hb.frozen (p := ⟨b, o, none⟩) h⟩
theorem own_base {W : World} {b b' e s n : Nat} {v : Value} {xs : List Value} (h : W.ownsRow b e s v n xs) (hb : b' ≤ b) : W.ownsRow b' e s v n xs := by
  refine ⟨h.1, ?_⟩
  rcases h.2 with h | ⟨g, c, cur, h1, h2, h3⟩
  · exact .inl h
  · exact .inr ⟨g, c, cur, h1, Nat.le_trans hb h2, h3⟩
theorem infoInt8 : (Tryz.prog.info? 3).map (fun i => (i.zero, i.size, i.bytes)) = some (some (.int .i64 0), 1, 8) := by kernel_rfl
theorem elemInt : ElemOk Tryz.prog 22 3 1 8 := ElemOk.of (z := .int .i64 0) Tryz.underlying22 infoInt8 rfl (by omega)
theorem app_below1 {wc w3 : World} {o : Obj} {b : Nat} (hb : b = wc.heap.size) (hg : (wc.alloc o).grownBy w3 (some b)) : Below wc.heap.size wc w3 :=
  (below_new wc o).grown hg (by simp) (fun k hk => by injection hk with hk; omega)
theorem ring_of {N S low high total pure worst : Int} {fi th : List Int} (h : rgOk ⟨N, S, low, high, total, pure, worst⟩ fi th = true) :
    ∃ r : Rg, r.Ok ∧ N = r.N ∧ S = r.S ∧ low = r.low ∧ high = r.high ∧ total = r.total ∧ pure = r.pure ∧ worst = r.worst ∧ fi = r.fi ∧ th = r.th := by
  unfold rgOk at h
  simp only [Bool.and_eq_true, inB_iff, decide_eq_true_eq, List.all_eq_true] at h
  obtain ⟨⟨⟨⟨⟨⟨⟨⟨⟨a1, a2⟩, a3⟩, a4⟩, a5⟩, a6⟩, a7⟩, a8⟩, a9, a10⟩, a11, a12⟩ := h
  refine ⟨⟨N.toNat, S.toNat, low, high, total, pure, worst, fi, th⟩, ?_, by dsimp only; omega, by dsimp only; omega, rfl, rfl, rfl, rfl, rfl, rfl, rfl⟩
  constructor <;> dsimp only <;> first | assumption | omega
theorem rgOk_of {r : Rg} (hr : r.Ok) : rgOk ⟨r.N, r.S, r.low, r.high, r.total, r.pure, r.worst⟩ r.fi r.th = true := by
  unfold rgOk
  simp only [Bool.and_eq_true, inB_iff, decide_eq_true_eq, List.all_eq_true]
  have := hr.n1; have := hr.n2; have := hr.s1; have := hr.s2; have := hr.s3; have := hr.l1; have := hr.l2; have := hr.h1; have := hr.h2; have := hr.t1; have := hr.t2
  have := hr.p1; have := hr.p2; have := hr.w1; have := hr.w2; have := hr.fl; have := hr.tl
  exact ⟨⟨⟨⟨⟨⟨⟨⟨⟨by omega, by omega⟩, by omega⟩, by omega⟩, by omega⟩, by omega⟩, by omega⟩, by omega⟩, hr.fw, by omega⟩, hr.tw, by omega⟩
theorem check_ok (r : Rg) (hr : r.Ok) (A B : Option Addr) (n c m d : Nat) (w : World) (hF : SlE intE 1 w A n r.fi) (hT : SlE intE 1 w B m r.th) :
    Calls Tryz.prog 46 #[.agg #[.int .i64 r.N, .int .i64 r.S, .int .i64 r.low, .int .i64 r.high, .int .i64 r.total, .int .i64 r.pure, .int .i64 r.worst, .slice A n c, .slice B m d]] w fun e w' => e = .returned (.int .i64 0) ∧ Below w.heap.size w w' := by
  have h := check_any ⟨r.N, r.S, r.low, r.high, r.total, r.pure, r.worst⟩ A B n c m d r.fi r.th w hF hT (by rw [hF.1, hr.fl]; have := hr.n2; omega) (by rw [hT.1, hr.tl]; have := hr.n2; omega)
  rw [rgOk_of hr] at h
  exact h
theorem check_bad (x : Rn) (A B : Option Addr) (n c m d : Nat) (fi th : List Int) (w : World) (hF : SlE intE 1 w A n fi) (hT : SlE intE 1 w B m th) (hn : n ≤ 9223372036854775807) (hm : m ≤ 9223372036854775807) (h : rgOk x fi th = false) :
    Calls Tryz.prog 46 #[.agg #[.int .i64 x.N, .int .i64 x.S, .int .i64 x.low, .int .i64 x.high, .int .i64 x.total, .int .i64 x.pure, .int .i64 x.worst, .slice A n c, .slice B m d]] w fun e w' => e = .returned (.int .i64 1) ∧ Below w.heap.size w w' := by
  have h1 := check_any x A B n c m d fi th w hF hT hn hm
  rw [h] at h1
  exact h1
theorem below_box {w w1 : World} {o : Obj} (hb : Below (w.alloc o).heap.size (w.alloc o) w1) : Below w.heap.size w w1 := (below_new w o).trans (hb.mono (by simp))
end
section
open Go.RowKit
/-- What Cost returns of a valid ring. -/
def Rg.costR (r : Rg) (st : List Int) : Int × Int := if r.fitsB st = true then (if r.allowB st = true then (r.cost st, 0) else (0, 6)) else (0, 2)
/-- What the loop of the document's Fits sums. -/
def Sumd (st : List Int) (k : Nat) (T : Int) : Prop := T = (st.take k).sum
end
section
open Go.RowKit
theorem SlE.drew {α : Type} {enc : α → List Value} {sz : Nat} {W : World} {A : Option Addr} {n : Nat} {l : List α} (h : SlE enc sz W A n l) : SlE enc sz W.drew A n l := h
theorem errs_len (r : Rg) (st : List Int) : (r.errs st).length = r.N := by simp [Rg.errs]
theorem errs_get {r : Rg} {st : List Int} {k : Nat} (hk : k < r.N) : (r.errs st)[k]? = some (r.err st k r.S) := by
  unfold Rg.errs
  rw [List.getElem?_map, List.getElem?_range hk]; rfl
theorem all_errs (r : Rg) (A' : Option Addr) (c' : Nat) (st : List Int) (w : World) (hN : r.N ≤ 24) (hS : SlE intE 1 w A' r.N (r.errs st)) :
    Calls Tryz.prog 37 #[.slice A' r.N c', .int .i64 r.N, .int .i64 (-r.worst), .int .i64 r.worst] w fun e w' => e = .returned (.bool (r.allowB st)) ∧ w = w' := by
  have h := all_any A' r.N c' (r.errs st) (r.N : Int) (-r.worst) r.worst w hS (by omega)
  rw [show (r.errs st).all (fun x => inB x (-r.worst) r.worst) = r.allowB st from errs_all] at h
  simpa using h
end
section
open Go.RowKit
set_option maxHeartbeats 1000000 in
set_option maxRecDepth 100000 in
theorem clone_any (a : Addr) (n c : Nat) (l : List Int) (w : World) (hA : SlE intE 1 w (some a) n l) (hn : n ≤ 2000) :
    Calls Tryz.prog 80 #[.slice (some a) n c] w fun e w' => ∃ A' c', e = .returned (.slice A' n c') ∧ w'.ownsRow w.heap.size 3 1 (.slice A' n c') n (l.flatMap intE) ∧ Below w.heap.size w w' := by
  refine calls_cps ?_
  intro R hR
  have hnil := fun (W : World) => Lib.run_eql_slice_nil (P := Tryz.prog) W 22 3 (some a) n c 0 0 Tryz.underlying22
  go_enter Tryz.func80, Tryz.ntmps80
  go_wp2_with (at_builtin; refine wpList_app rfl (.tmp 5) (.tmp 6) _ rfl elemInt w.heap.size _ _ _ rfl (own_new _ _ _ 1 0 _ (by simp) (Nat.le_refl _) (by unfold maxLen; omega)) _ _ _ _ rfl (hA.2.alloc _) (int_one _) (by unfold maxLen; omega) (by omega) (by simp) ?_; intro A3 c3 w3 ho3 hg3 _; rw [Nat.zero_add, List.nil_append] at ho3; have hb3 := app_below1 rfl hg3; clear hg3)
  exact hR.out _ _ ⟨_, _, rfl, ho3, hb3⟩
/-- Steps with one unit moved. -/
def mvd (st : List Int) (i j : Nat) : List Int := (st.set i (st.getD i 0 - 1)).set j ((st.set i (st.getD i 0 - 1)).getD j 0 + 1)
theorem mvd_len (st : List Int) (i j : Nat) : (mvd st i j).length = st.length := by simp [mvd]
def Rg.btr (r : Rg) (st : List Int) (i j : Nat) : Bool := decide (i ≠ j) && r.fitsB (mvd st i j) && r.allowB (mvd st i j) && decide (r.cost (mvd st i j) < r.cost st)
/-- No pair ahead of (i, j) is better. -/
def Rg.noBtr (r : Rg) (st : List Int) (i j : Nat) : Prop := ∀ a b, a < r.N → b < r.N → (a < i ∨ (a = i ∧ b < j)) → r.btr st a b = false
/-- What Better finds. -/
def Rg.Btr (r : Rg) (st : List Int) (x y : Int) : Prop := (x = -1 ∧ y = -1 ∧ r.noBtr st r.N 0) ∨ ∃ i j : Nat, i < r.N ∧ j < r.N ∧ x = i ∧ y = j ∧ r.btr st i j = true ∧ r.noBtr st i j
theorem Rg.noBtr.step {r : Rg} {st : List Int} {i j : Nat} (h : r.noBtr st i j) (hb : r.btr st i j = false) : r.noBtr st i (j + 1) := fun a b ha hb' hab => by
  by_cases e : a = i ∧ b = j
  · rw [e.1, e.2]; exact hb
  · exact h a b ha hb' (by omega)
theorem Rg.noBtr.row {r : Rg} {st : List Int} {i : Nat} (h : r.noBtr st i r.N) : r.noBtr st (i + 1) 0 := fun a b ha hb' hab => h a b ha hb' (by omega)
theorem Rg.Btr.uniq {r : Rg} {st : List Int} {x y x' y' : Int} (h : r.Btr st x y) (k : r.Btr st x' y') : x = x' ∧ y = y' := by
  rcases h with ⟨h1, h2, h3⟩ | ⟨i, j, h1, h2, h3, h4, h5, h6⟩
  · rcases k with ⟨k1, k2, k3⟩ | ⟨i, j, k1, k2, k3, k4, k5, k6⟩
    · omega
    · rw [h3 i j k1 k2 (.inl k1)] at k5; cases k5
  · rcases k with ⟨k1, k2, k3⟩ | ⟨a, b, k1, k2, k3, k4, k5, k6⟩
    · rw [k3 i j h1 h2 (.inl h1)] at h5; cases h5
    · have e : i = a ∧ j = b := by
        by_cases l : i < a ∨ (i = a ∧ j < b)
        · rw [k6 i j h1 h2 l] at h5; cases h5
        · by_cases l' : a < i ∨ (a = i ∧ b < j)
          · rw [h6 a b k1 k2 l'] at k5; cases k5
          · omega
      omega
theorem costR_ok {r : Rg} {st : List Int} (h : r.Good st) : r.costR st = (r.cost st, 0) := by
  obtain ⟨a, b⟩ := good_iff.1 h
  unfold Rg.costR
  rw [a, b]; rfl
theorem set_flat (l : List Int) (i : Nat) (v : Int) : (l.flatMap intE).set i (.int .i64 v) = (l.set i v).flatMap intE := by
  rw [flat_int, flat_int, List.map_set]
/-- An owned row of ints whose cells are known: one cell more is stored. -/
theorem own_store {W : World} {base g c n : Nat} {l : List Int} (h : W.ownsRow base 3 1 (.slice (some ⟨g, 0, none⟩) n c) n (l.flatMap intE)) (i : Nat) (v : Int) :
    (W.setCell ⟨g, i, none⟩ (.int .i64 v)).ownsRow base 3 1 (.slice (some ⟨g, 0, none⟩) n c) n ((l.set i v).flatMap intE) ∧ W.grownBy (W.setCell ⟨g, i, none⟩ (.int .i64 v)) (some g) := by
  obtain ⟨s1, s2⟩ := h.stored i (.int .i64 v)
  rw [set_flat] at s1
  exact ⟨s1, s2⟩
theorem own_cell {W : World} {base g c n : Nat} {l : List Int} (h : W.ownsRow base 3 1 (.slice (some ⟨g, 0, none⟩) n c) n (l.flatMap intE)) {i : Nat} (hi : i < l.length) :
    W.cell? ⟨g, i, none⟩ = some (.int .i64 (l.getD i 0)) ∧ W.frozen? ⟨g, i, none⟩ = false := by
  refine ⟨?_, h.frozenAt i⟩
  rw [h.cellAt i (by have := h.1; rw [flat_int] at this; simp at this; omega), flat_int, List.getElem?_map, List.getD_eq_getElem?_getD, List.getElem?_eq_getElem hi]
  rfl
theorem mvd_bd {st : List Int} (h : ∀ x ∈ st, -15 ≤ x ∧ x ≤ 15) (i j : Nat) : (-15 ≤ st.getD i 0 ∧ st.getD i 0 ≤ 15) ∧ -17 ≤ (st.set i (st.getD i 0 - 1)).getD j 0 ∧ (st.set i (st.getD i 0 - 1)).getD j 0 ≤ 17 := by
  have h1 := getD_bd h (by omega) i
  refine ⟨h1, ?_⟩
  by_cases e : i = j
  · subst e
    rw [List.getD_eq_getElem?_getD, List.getElem?_set_self']
    cases he : st[i]? with
    | none => simp
    | some y =>
      rw [List.getD_eq_getElem?_getD, he] at h1
      simp [he] at h1 ⊢
      omega
  · rw [List.getD_eq_getElem?_getD, List.getElem?_set_ne e, ← List.getD_eq_getElem?_getD]
    have := getD_bd h (by omega) j
    omega
end
section
open Go.RowKit
/-- The worlds that leave all below B as it was, as the values of a function. -/
structure Cls (B : Nat) (w0 : World) (ι : Type) (mk : ι → World) : Prop where
  iff : ∀ w', Below B w0 w' ↔ ∃ n, w' = mk n
theorem cls_ex (B : Nat) (w0 : World) : ∃ (ι : Type) (mk : ι → World), Cls B w0 ι mk :=
  ⟨{ w' // Below B w0 w' }, Subtype.val, ⟨fun w' => ⟨fun h => ⟨⟨w', h⟩, rfl⟩, by rintro ⟨n, rfl⟩; exact n.2⟩⟩⟩
section
variable {B : Nat} {w0 : World} {ι : Type} {mk : ι → World}
theorem Cls.below (h : Cls B w0 ι mk) (n : ι) : Below B w0 (mk n) := (h.iff _).2 ⟨n, rfl⟩
theorem Cls.ne (h : Cls B w0 ι mk) : Nonempty ι := let ⟨n, _⟩ := (h.iff _).1 (Below.refl B w0); ⟨n⟩
theorem Cls.drew (h : Cls B w0 ι mk) : ∃ n, { w0 with drawn := w0.drawn + 1 } = mk n := (h.iff _).1 (Below.refl B w0).drew
theorem Cls.call (h : Cls w0.heap.size w0 ι mk) {P : Program} {f : FuncId} {args : Array Value} {n : ι} {v : Value}
    (hc : Calls P f args (mk n) fun e w' => e = .returned v ∧ Below (mk n).heap.size (mk n) w') : Calls P f args (mk n) fun e w'' => e = .returned v ∧ ∃ m, w'' = mk m :=
  hc.mono fun _ _ ⟨he, hb⟩ => ⟨he, (h.iff _).1 ((h.below n).trans (hb.mono (h.below n).size))⟩
theorem Cls.call_same (_h : Cls w0.heap.size w0 ι mk) {P : Program} {f : FuncId} {args : Array Value} {n : ι} {v : Value}
    (hc : Calls P f args (mk n) fun e w' => e = .returned v ∧ mk n = w') : Calls P f args (mk n) fun e w'' => e = .returned v ∧ ∃ m, w'' = mk m :=
  hc.mono fun _ _ ⟨he, hb⟩ => ⟨he, n, hb.symm⟩
end
theorem wp_region_cls {P : Program} {C : World → Prop} {id : Nat} {Q : Exit → Act → World → Prop} {a : Act} {w : World} {l : List Oper} (hm : P.follows .mixedOrders = true) (hB : Region.lexB .any l.toArray = true) (hC : C { w with drawn := w.drawn + 1 })
    (h : wpQuiet P l.toArray C (fun a' => ∀ w', C w' → Q .normal a' w') l a) : (Code.region id l.toArray true).wp P Q a w :=
  wp_region_quiet (C := C) hm hB hC (by simpa using h)
end
end Go.Proofs.YtojbldoekalbnaaGreat
