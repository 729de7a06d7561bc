/-
  balances.lots: strings.Compare, cmp.Or, its closure, slices.SortFunc over lots, the range over the balances; no condition but those that each theorem states. Lots in order: places are compared as texts; the sort's contract at lots; conditions: those that each theorem states. balances.lots, Book.Lots: all balances in order; conditions: those that each theorem states.
-/
import Derived.Test.YtndcijkgaadpgaaGreatDoorUf
import Derived.Test.YtndcijkgaadpgaaGreatDoorUg
import Derived.Shelf.Small.Strs
import Derived.Shelf.SlSortCmp.NoneTotal
import Derived.Maps.RangeWalk
namespace Go.Proofs.YtndcijkgaadpgaaGreatDoor
section
section
open Go.RowKit Go.Shelf Go.Maps Go.Lib Go.Sort
theorem compare_any (a b : ByteArray) (w : World) : Calls Tryz.prog 122 #[.string a, .string b] w fun e w' => e = .returned (.int .i64 (Lib.compareBytes a.data.toList b.data.toList)) ∧ w = w' :=
  (Any.strings_Compare cmpSLays a b w).mono fun _ _ h => ⟨h.1, h.2.symm⟩
set_option maxRecDepth 8000 in
set_option maxHeartbeats 2000000 in
theorem or_any (w : World) (A : Option Addr) (c : Nat) (x y : Int) (hX : SlE intE 1 w A 2 [x, y]) : Calls Tryz.prog 121 #[.slice A 2 c] w fun e w' => e = .returned (.int .i64 (if x = 0 then y else x)) ∧ w = w' := by
  refine calls_cps ?_
  intro R hR
  have Hr := Lib.hid (show ∀ v, v = (if x = 0 then y else x) → R (.returned (.int .i64 v)) w from fun v hv => hR.out _ _ ⟨by rw [hv], rfl⟩)
  obtain ⟨b, o, x', rfl, hb, hx, q0⟩ := hX.at1 (k := 0) (by omega)
  obtain ⟨b', o', y', e', hb', hy, q1⟩ := hX.at1 (k := 1) (by omega)
  cases e'
  simp only [List.getElem?_cons_zero, List.getElem?_cons_succ, Option.some.injEq] at hx hy
  subst hx
  subst hy
  rw [Nat.add_zero] at q0
  clear hX hR
  go_enter Tryz.func121, Tryz.ntmps121
  go_wp2_with fail
  go_loopw [8] (fun s8 wr => ∃ k : Nat, k ≤ 2 ∧ s8 = .int .i64 (k : Int) ∧ wr = w ∧ Hid (1 ≤ k → x = 0) ∧ Hid (2 ≤ k → y = 0)) (fun s8 _ => 2 - (intOf s8).toNat)
  case atStart => exact ⟨0, by omega, rfl, rfl, Lib.hid (by omega), Lib.hid (by omega)⟩
  case round =>
    obtain ⟨k, hk, rfl, rfl, H1, H2⟩ := hrel
    obtain rfl | rfl | rfl : k = 0 ∨ k = 1 ∨ k = 2 := by omega
    · by_cases hz : x = 0
      · subst hz
        go_wp2_with fail
        refine ⟨⟨1, by omega, by go_num, trivial, Lib.hid (by simp), Lib.hid (by omega)⟩, by simp [intOf] <;> omega⟩
      · have z1 : (x != 0) = true := by rw [bne_iff_ne]; exact hz
        have HF := Lib.hid (Hr.out x (by rw [if_neg hz]))
        clear Hr hz
        go_wp2
        exact HF.out
    · have hx0 := H1.out (by omega)
      subst hx0
      by_cases hz : y = 0
      · subst hz
        go_wp2_with fail
        refine ⟨⟨2, by omega, by go_num, trivial, Lib.hid (by simp), Lib.hid (by simp)⟩, by simp [intOf] <;> omega⟩
      · have z1 : (y != 0) = true := by rw [bne_iff_ne]; exact hz
        have HF := Lib.hid (Hr.out y (by rw [if_pos rfl]))
        clear Hr hz
        go_wp2
        exact HF.out
    · have HF := Lib.hid (Hr.out 0 (by rw [if_pos (H1.out (by omega)), H2.out (by omega)]))
      clear Hr
      go_wp2
      exact HF.out
/-- A lot: account, item, how much. -/
abbrev Lot := ByteArray × ByteArray × Int
def lotE (x : Lot) : List Value := [.string x.1, .string x.2.1, .int .i64 x.2.2]
theorem lotE_len (x : Lot) : (lotE x).length = 3 := rfl
def cfL (x y : Lot) : Int := if Lib.compareBytes x.1.data.toList y.1.data.toList = 0 then Lib.compareBytes x.2.1.data.toList y.2.1.data.toList else Lib.compareBytes x.1.data.toList y.1.data.toList
set_option maxRecDepth 8000 in
set_option maxHeartbeats 4000000 in
theorem closL_any (x y : Lot) (W : World) : Calls Tryz.prog 120 #[.agg #[.string x.1, .string x.2.1, .int .i64 x.2.2], .agg #[.string y.1, .string y.2.1, .int .i64 y.2.2]] W fun e w' => e = .returned (.int .i64 (cfL x y)) ∧ ∃ q os', w' = grow (W.drewN q) os' := by
  refine calls_cps ?_
  intro R hR
  obtain ⟨a, i, n⟩ := x
  obtain ⟨b, j, m⟩ := y
  have HC1 := Lib.hid (fun W => compare_any a b W)
  have HC2 := Lib.hid (fun W => compare_any i j W)
  unfold cfL at hR
  dsimp only at hR ⊢
  obtain ⟨p, hp⟩ : ∃ p, Lib.compareBytes a.data.toList b.data.toList = p := ⟨_, rfl⟩
  obtain ⟨q, hq⟩ : ∃ q, Lib.compareBytes i.data.toList j.data.toList = q := ⟨_, rfl⟩
  rw [hp] at HC1 hR
  rw [hq] at HC2 hR
  clear hp hq
  go_enter Tryz.func120, Tryz.ntmps120
  go_upto_region 1 with fail
  have b0 := heap_alloc_new W (.cells #[.string a, .string i, .int .i64 n] 39)
  have b1 := heap_alloc_new (W.alloc (.cells #[.string a, .string i, .int .i64 n] 39)) (.cells #[.string b, .string j, .int .i64 m] 39)
  have b2 := (heap_alloc_old (W.alloc (.cells #[.string a, .string i, .int .i64 n] 39)) (.cells #[.string b, .string j, .int .i64 m] 39) (show W.heap.size < _ by simp)).trans b0
  obtain ⟨W2, hW2⟩ : ∃ W2, (W.alloc (.cells #[.string a, .string i, .int .i64 n] 39)).alloc (.cells #[.string b, .string j, .int .i64 m] 39) = W2 := ⟨_, rfl⟩
  rw [World.size_alloc] at b1
  rw [hW2] at b1 b2 ⊢
  have HW2 := Lib.hid hW2
  have u0 : W2.cell? ⟨W.heap.size, 0, none⟩ = some (.string a) := by rw [cell_of_row _ _ 0 _ _ (0, 0) b2]; rfl
  have u1 : W2.cell? ⟨W.heap.size, 1, none⟩ = some (.string i) := by rw [cell_of_row _ _ 1 _ _ (0, 0) b2]; rfl
  have u2 : W2.cell? ⟨W.heap.size + 1, 0, none⟩ = some (.string b) := by rw [cell_of_row _ _ 0 _ _ (0, 0) b1]; rfl
  have u3 : W2.cell? ⟨W.heap.size + 1, 1, none⟩ = some (.string j) := by rw [cell_of_row _ _ 1 _ _ (0, 0) b1]; rfl
  clear b0 b1 b2 hW2
  refine wp_region_still_tail 10 (by kernel_rfl) (by kernel_rfl) ?_
  simp only [List.take_succ_cons, List.take_zero, List.drop_succ_cons, List.drop_zero]
  still_step
  still_step
  still_step
  still_step
  still_call ((HC1.out _).mono fun _ _ h => ⟨h.1, h.2.symm⟩)
  still_step
  still_step
  still_step
  still_step
  still_call ((HC2.out _).mono fun _ _ h => ⟨h.1, h.2.symm⟩)
  refine wpStill_nil ?_
  change wpList _ _ _ _ _ W2.drew
  clear u0 u1 u2 u3
  go_wp2_with fail
  have HO := Lib.hid (or_any _ _ 2 p q ⟨rfl, (Sl.new W2 #[.int .i64 p, .int .i64 q] 3 1 2 rfl).drew⟩)
  obtain ⟨r, hr⟩ : ∃ r, (if p = 0 then q else p) = r := ⟨_, rfl⟩
  rw [hr] at HO hR
  clear hr
  refine HO.out.mono ?_
  rintro e w' ⟨rfl, rfl⟩
  go_wp2
  refine hR.out _ _ ⟨rfl, 1, #[.cells #[.string a, .string i, .int .i64 n] 39, .cells #[.string b, .string j, .int .i64 m] 39, .cells #[.int .i64 p, .int .i64 q] 3], ?_⟩
  rw [← HW2.out, alloc_eq_grow, alloc_eq_grow, alloc_eq_grow, grow_grow, grow_grow]
  rfl
theorem lotLays (blk off size : Nat) (w : World) : CmpLays Tryz.prog 120 #[] lotE 3 cfL blk off size w := fun _ _ _ _ x y => closL_any x y _
theorem isAggLot : ∀ w, (isAgg 39).run Tryz.prog w = .ok true w := fun _ => by kernel_rfl
theorem sizeLot : ∀ w, (Go.sizeOf 39).run Tryz.prog w = .ok 3 w := fun _ => by kernel_rfl
end
end
section
section
open Go.RowKit Go.Shelf Go.Maps Go.Lib Go.Sort
theorem cb_neg : ∀ (a b : List UInt8), Lib.compareBytes a b = -Lib.compareBytes b a
  | [], [] => rfl
  | [], _ :: _ => rfl
  | _ :: _, [] => rfl
  | a :: l, b :: r => by
    unfold Lib.compareBytes
    have := cb_neg l r
    by_cases h1 : a < b
    · have h2 : ¬ b < a := by rw [UInt8.lt_iff_toNat_lt] at *; omega
      simp [h1, h2]
    · by_cases h2 : b < a
      · simp [h1, h2]
      · simp [h1, h2, this]
theorem cb_zero : ∀ (a b : List UInt8), Lib.compareBytes a b = 0 → a = b
  | [], [], _ => rfl
  | [], _ :: _, h => by simp [Lib.compareBytes] at h
  | _ :: _, [], h => by simp [Lib.compareBytes] at h
  | a :: l, b :: r, h => by
    unfold Lib.compareBytes at h
    by_cases h1 : a < b
    · simp [h1] at h
    · by_cases h2 : b < a
      · simp [h1, h2] at h
      · simp [h1, h2] at h
        have e : a = b := by
          rw [UInt8.lt_iff_toNat_lt] at h1 h2
          exact UInt8.toNat_inj.1 (by omega)
        rw [e, cb_zero l r h]
theorem cb_self (a : List UInt8) : Lib.compareBytes a a = 0 := by have := cb_neg a a; omega
theorem cb_trans : ∀ (a b c : List UInt8), Lib.compareBytes a b < 0 → Lib.compareBytes b c < 0 → Lib.compareBytes a c < 0
  | [], [], _, h, _ => by simp [Lib.compareBytes] at h
  | [], _ :: _, [], _, h => by simp [Lib.compareBytes] at h
  | [], _ :: _, _ :: _, _, _ => by simp [Lib.compareBytes]
  | _ :: _, [], _, h, _ => by simp [Lib.compareBytes] at h
  | _ :: _, _ :: _, [], _, h => by simp [Lib.compareBytes] at h
  | a :: l, b :: r, c :: s, h, h' => by
    unfold Lib.compareBytes at h h' ⊢
    have ih := cb_trans l r s
    by_cases h1 : a < b
    · by_cases h2 : b < c
      · have h3 : a < c := by rw [UInt8.lt_iff_toNat_lt] at *; omega
        simp [h3]
      · by_cases h4 : c < b
        · simp [h2, h4] at h'
        · have h3 : a < c := by rw [UInt8.lt_iff_toNat_lt] at *; omega
          simp [h3]
    · by_cases h5 : b < a
      · simp [h1, h5] at h
      · simp [h1, h5] at h
        by_cases h2 : b < c
        · have h3 : a < c := by rw [UInt8.lt_iff_toNat_lt] at *; omega
          simp [h3]
        · by_cases h4 : c < b
          · simp [h2, h4] at h'
          · simp [h2, h4] at h'
            have h3 : ¬ a < c := by rw [UInt8.lt_iff_toNat_lt] at *; omega
            have h6 : ¬ c < a := by rw [UInt8.lt_iff_toNat_lt] at *; omega
            simp [h3, h6, ih h h']
theorem cf_neg (x y : Lot) : cfL x y = -cfL y x := by
  unfold cfL
  have h1 := cb_neg x.1.data.toList y.1.data.toList
  have h2 := cb_neg x.2.1.data.toList y.2.1.data.toList
  by_cases h : Lib.compareBytes x.1.data.toList y.1.data.toList = 0
  · rw [if_pos h, if_pos (by omega)]
    exact h2
  · rw [if_neg h, if_neg (by omega)]
    exact h1
theorem cf_trans (x y z : Lot) (h : cfL x y < 0) (h' : cfL y z < 0) : cfL x z < 0 := by
  unfold cfL at h h' ⊢
  by_cases h1 : Lib.compareBytes x.1.data.toList y.1.data.toList = 0
  · rw [if_pos h1] at h
    have e := cb_zero _ _ h1
    rw [e]
    by_cases h2 : Lib.compareBytes y.1.data.toList z.1.data.toList = 0
    · rw [if_pos h2] at h' ⊢
      exact cb_trans _ _ _ h h'
    · rw [if_neg h2] at h' ⊢
      exact h'
  · rw [if_neg h1] at h
    by_cases h2 : Lib.compareBytes y.1.data.toList z.1.data.toList = 0
    · rw [← cb_zero _ _ h2, if_neg h1]
      exact h
    · rw [if_neg h2] at h'
      have h3 := cb_trans _ _ _ h h'
      rw [if_neg (by omega)]
      exact h3
theorem cf_zero (x y : Lot) (h : cfL x y = 0) : (x.1, x.2.1) = (y.1, y.2.1) := by
  unfold cfL at h
  by_cases h1 : Lib.compareBytes x.1.data.toList y.1.data.toList = 0
  · rw [if_pos h1] at h
    have e1 := cb_zero _ _ h1
    have e2 := cb_zero _ _ h
    rw [ByteArray.ext (Array.toList_inj.1 e1), ByteArray.ext (Array.toList_inj.1 e2)]
  · rw [if_neg h1] at h
    exact absurd h h1
theorem cf_of_eq (x y z : Lot) (h : (x.1, x.2.1) = (y.1, y.2.1)) : cfL x z = cfL y z := by
  unfold cfL
  injection h with h1 h2
  rw [h1, h2]
theorem swoL : SWO (ltOf cfL) where
  irrefl x := by
    have := cf_neg x x
    unfold ltOf
    simp
    omega
  trans x y z h1 h2 := by
    unfold ltOf at *
    simp at *
    exact cf_trans x y z h1 h2
  ntrans x y z h1 h2 := by
    unfold ltOf at *
    simp at *
    have n1 := cf_neg x y
    have n2 := cf_neg y z
    have n3 := cf_neg x z
    by_cases e1 : cfL x y = 0
    · rw [cf_of_eq x y z (cf_zero _ _ e1)]
      exact h2
    · by_cases e2 : cfL y z = 0
      · have := cf_of_eq y z x (cf_zero _ _ e2)
        omega
      · have := cf_trans z y x (by omega) (by omega)
        omega
theorem row_heap {W : World} {B g c sz m : Nat} {e : TypeId} {xs : List Value} (h : W.ownsRow B e sz (.slice (some ⟨g, 0, none⟩) m c) m xs) : B ≤ g ∧ g < W.heap.size ∧ ∃ cur, W.heap[g]? = some (.cells cur e (0, 0)) ∧ m ≤ c ∧ c ≤ maxLen := by
  rcases h.2 with ⟨h', _⟩ | ⟨g', c', cur, h', hb, hg, hn, hc, _⟩
  · simp at h'
  · simp only [Value.slice.injEq, Option.some.injEq, Addr.mk.injEq, and_true, true_and] at h'
    obtain ⟨rfl, rfl⟩ := h'
    exact ⟨hb, (Array.getElem?_eq_some_iff.1 hg).1, cur, hg, hn, hc⟩
instance : Inhabited Lot := ⟨(ByteArray.empty, ByteArray.empty, 0)⟩
theorem lot_flat (L : List Lot) (t : Nat) (h : t < L.length * 3) : (flatK lotE 3 L.toArray)[t]? = (L.flatMap lotE)[t]? := by
  have hd : t / 3 < L.length := by omega
  have e := flat_get (enc := lotE) (sz := 3) lotE_len L (t / 3) (t % 3) L[t / 3] (List.getElem?_eq_getElem hd) (Nat.mod_lt _ (by omega))
  have e2 : t / 3 * 3 + t % 3 = t := by omega
  rw [e2] at e
  rw [e]
  have h1 := get_flatK lotE 3 L.toArray t (by simpa using h)
  have hs : t < (flatK lotE 3 L.toArray).size := by simpa using h
  rw [getElem!_pos _ t hs] at h1
  rw [Array.getElem?_eq_getElem hs, h1]
  have hL : L.toArray[t / 3]! = L[t / 3] := by simp [hd]
  rw [hL, getElem!_pos _ (t % 3) (by rw [lotE_len]; exact Nat.mod_lt _ (by omega)), List.getElem?_eq_getElem (by rw [lotE_len]; exact Nat.mod_lt _ (by omega))]
set_option maxHeartbeats 1000000 in
theorem lsort_any (A : Option Addr) (n c base : Nat) (L : List Lot) (W : World) (ho : W.ownsRow base 39 3 (.slice A n c) n (L.flatMap lotE)) (hn : n = L.length) (hs : n ≤ 1000000) :
    Calls Tryz.prog 119 #[.slice A n c, .func (.func 120) #[] #[]] W fun e W' => e = .returned (.tuple #[]) ∧ ∃ L' : List Lot, L'.Perm L ∧ L'.Pairwise (fun x y => cfL x y ≤ 0) ∧ SlE lotE 3 W' A n L' ∧ Kx (fun j => base ≤ j) W W' := by
  subst hn
  rcases A with _ | ⟨g, o, sub⟩
  · have h0 : L = [] := by
      rcases ho.2 with ⟨h', h2⟩ | ⟨g', c', cur, h', _⟩
      · simp only [Value.slice.injEq, true_and] at h'
        exact List.length_eq_zero_iff.1 h'.1
      · simp at h'
    subst h0
    refine (AnyF.slices_SortFunc_none sortFLays none c (.func (.func 120) #[] #[]) W).mono ?_
    rintro e W' ⟨rfl, rfl⟩
    exact ⟨rfl, [], List.Perm.refl _, List.Pairwise.nil, SlE.nil _ _, Kx.refl _ _⟩
  · have hg : o = 0 ∧ sub = none := by
      rcases ho.2 with ⟨h', h2⟩ | ⟨g', c', cur, h', _⟩
      · simp at h'
      · simp only [Value.slice.injEq, Option.some.injEq, Addr.mk.injEq] at h'
        exact ⟨h'.1.2.1, h'.1.2.2⟩
    obtain ⟨rfl, rfl⟩ := hg
    obtain ⟨hb, hgl, cur, _, hnc, hcm⟩ := row_heap ho
    have hH : HoldsK lotE 3 W g 0 L.toArray := fun j hj => by
      have hj' : j < L.length * 3 := by simpa using hj
      rw [Nat.zero_add]
      refine ⟨?_, ho.frozenAt j⟩
      rw [ho.cellAt j hj', ← lot_flat L j hj', Array.getElem?_eq_getElem hj, getElem!_pos _ j hj]
      rfl
    have hsz : L.toArray.size = L.length := by simp
    have hc := AnyQ.slices_SortFunc sortFLays 3 isAggLot sizeLot lotE lotE_len (fun x v hv => by
      simp only [lotE, List.mem_cons, List.not_mem_nil, or_false] at hv
      rcases hv with rfl | rfl | rfl <;> rfl) cfL swoL 120 #[] g 0 c L.toArray W (enters_of Tryz.func120 (by kernel_rfl) rfl) (lotLays g 0 _ W) hH hgl (by rw [hsz]; omega)
    rw [hsz] at hc
    refine hc.mono ?_
    rintro e W' ⟨rfl, d', q, os, ⟨p1, p2, p3⟩, hsrt, rfl⟩
    rw [hsz] at p1
    have hH2 : HoldsK lotE 3 (sortWorldK lotE 3 W g 0 q d' os) g 0 d' := by
      refine holdsK_grow lotE 3 _ os g 0 d' (by rw [size_putRowK]; exact hgl) (holdsK_putRowK lotE 3 _ g 0 L.toArray d' (holdsK_ahead lotE 3 W q g 0 _ hH) (by rw [hsz]; exact p1))
    have hgs : W.heap.size ≤ (sortWorldK lotE 3 W g 0 q d' os).heap.size := by
      simp only [sortWorldK, grow, Array.size_append, size_putRowK]
      show W.heap.size ≤ W.heap.size + _
      omega
    refine ⟨rfl, d'.toList, ?_, ?_, ⟨by simpa using p1.symm, by rw [flat_length lotE_len, Array.length_toList, p1], fun hn => ⟨g, 0, rfl, by omega, fun j u hu => ?_⟩⟩, ⟨rfl, rfl, rfl, hgs, fun j hj hn => ?_⟩⟩
    · rw [← p1, Array.extract_size, p1, ← hsz, Array.extract_size] at p3
      exact p3
    · rw [List.pairwise_iff_getElem]
      intro i j hi hj hij
      have hi' : i < d'.size := by simpa using hi
      have hj' : j < d'.size := by simpa using hj
      have h := hsrt i j (Nat.zero_le _) hij (by omega)
      rw [getElem!_pos _ i hi', getElem!_pos _ j hj'] at h
      unfold ltOf at h
      simp at h
      have := cf_neg d'[i] d'[j]
      simp only [Array.getElem_toList]
      omega
    · have hj : j < d'.toList.length * 3 := by
        have := (List.getElem?_eq_some_iff.1 hu).1
        rwa [flat_length lotE_len] at this
      have e := lot_flat d'.toList j hj
      rw [hu] at e
      obtain ⟨hjs, he⟩ := Array.getElem?_eq_some_iff.1 e
      have h := (hH2 j hjs).1
      rw [getElem!_pos _ j hjs] at h
      rw [h]
      exact congrArg some he
    · have hne : g ≠ j := fun e => hn (e ▸ hb)
      simp only [sortWorldK, grow]
      rw [Array.getElem?_append_left (by rw [size_putRowK]; exact hj)]
      simp [putRowK, putRow, mapBlock, Array.getElem?_modify, hne, Sort.ahead]
end
end
section
section
open Go.RowKit Go.Shelf Go.Maps
/-- L: all balances that are not 0, each once, in order. -/
structure LotsOf (f : Pl → Int) (L : List Lot) : Prop where
  all : ∀ x ∈ L, PlZ (x.1, x.2.1) ∧ x.2.2 = f (x.1, x.2.1) ∧ x.2.2 ≠ 0
  every : ∀ p, PlZ p → f p ≠ 0 → (p.1, p.2, f p) ∈ L
  once : (L.map fun x => (x.1, x.2.1)).Nodup
/-- So far. -/
structure LotsTo (f : Pl → Int) (D : DataW Unit) (left : Lit → Bool) (L : List Lot) : Prop where
  all : ∀ x ∈ L, PlZ (x.1, x.2.1) ∧ x.2.2 = f (x.1, x.2.1) ∧ x.2.2 ≠ 0 ∧ left (keyL (x.1, x.2.1)) = false
  every : ∀ p, PlZ p → f p ≠ 0 → left (keyL p) = false → (p.1, p.2, f p) ∈ L
  once : (L.map fun x => (x.1, x.2.1)).Nodup
  has : ∀ kl, left kl = true → Maps.has D kl = true
theorem sk_self (p : Pl) : (keyL p).sameKey (keyL p) = true := by
  unfold keyL
  simp [Lit.sameKey]
theorem sk_ne {p q : Pl} (h : keyL p ≠ keyL q) : (keyL p).sameKey (keyL q) = false := by
  unfold keyL at *
  simp only [Lit.sameKey, beq_eq_false_iff_ne]
  intro e
  exact h (by rw [e])
theorem LotsTo.start {f : Pl → Int} {D : DataW Unit} (h : ∀ p, PlZ p → Maps.has D (keyL p) = decide (f p ≠ 0)) : LotsTo f D (Maps.has D) [] :=
  ⟨fun x hx => (by cases hx), fun p hp hf hl => by rw [h p hp] at hl; simp at hl; exact absurd hl hf, List.nodup_nil, fun _ h => h⟩
theorem LotsTo.step {f : Pl → Int} {D : DataW Unit} {left : Lit → Bool} {L : List Lot} (h : LotsTo f D left L) {p : Pl} (hp : PlZ p) (hf : f p ≠ 0) (hl : left (keyL p) = true) : LotsTo f D (fun z => left z && !z.sameKey (keyL p)) (L ++ [(p.1, p.2, f p)]) := by
  refine ⟨fun x hx => ?_, fun q hq hfq hlq => ?_, ?_, fun kl hk => h.has kl ?_⟩
  · rcases List.mem_append.1 hx with hx | hx
    · obtain ⟨a, b, c, d⟩ := h.all x hx
      exact ⟨a, b, c, by rw [d]; rfl⟩
    · rw [List.mem_singleton] at hx
      subst hx
      exact ⟨hp, rfl, hf, by rw [sk_self]; simp⟩
  · by_cases e : q = p
    · subst e
      exact List.mem_append.2 (.inr (List.mem_singleton.2 rfl))
    · refine List.mem_append.2 (.inl (h.every q hq hfq ?_))
      rw [sk_ne (fun e2 => e (key_inj hq hp e2))] at hlq
      simpa using hlq
  · rw [List.map_append, List.nodup_append]
    refine ⟨h.once, by simp, fun a ha b hb => ?_⟩
    rw [List.map_singleton, List.mem_singleton] at hb
    obtain ⟨x, hx, rfl⟩ := List.mem_map.1 ha
    intro e
    obtain ⟨_, _, _, d⟩ := h.all x hx
    rw [e, hb] at d
    rw [hl] at d
    cases d
  · rw [Bool.and_eq_true] at hk
    exact hk.1
theorem LotsTo.fin {f : Pl → Int} {D : DataW Unit} {left : Lit → Bool} {L : List Lot} (h : LotsTo f D left L) (hl : ∀ kl, left kl = false) : LotsOf f L :=
  ⟨fun x hx => let ⟨a, b, c, _⟩ := h.all x hx; ⟨a, b, c⟩, fun p hp hf => h.every p hp hf (hl _), h.once⟩
theorem LotsOf.perm {f : Pl → Int} {L L' : List Lot} (h : LotsOf f L) (hp : L'.Perm L) : LotsOf f L' :=
  ⟨fun x hx => h.all x (hp.mem_iff.1 hx), fun p h1 h2 => hp.mem_iff.2 (h.every p h1 h2), ((hp.map _).nodup_iff).2 h.once⟩
theorem infoLot : (Tryz.prog.info? 39).map (fun i => (i.zero, i.size, i.bytes)) = some (some (.agg #[.string ByteArray.empty, .string ByteArray.empty, .int .i64 0]), 3, 40) := by kernel_rfl
theorem elemLot : ElemOk Tryz.prog 36 39 3 40 := ElemOk.of (z := .agg #[.string ByteArray.empty, .string ByteArray.empty, .int .i64 0]) Tryz.underlying36 infoLot rfl (by omega)
theorem lot_one (L : List Lot) : ∀ u ∈ L.flatMap lotE, u.oneCell' = true := by
  intro u hu
  obtain ⟨x, _, hx⟩ := List.mem_flatMap.1 hu
  simp only [lotE, List.mem_cons, List.not_mem_nil, or_false] at hx
  rcases hx with rfl | rfl | rfl <;> rfl
theorem key_val {v : Value} {p : Pl} (hp : PlZ p) (h : keyOf Tryz.prog 158 v = some (keyL p)) : v = keyV p := plLaw0.inj h (key_of hp)
theorem own_drew {W : World} {B e sz n : Nat} {v : Value} {xs : List Value} (h : W.ownsRow B e sz v n xs) : W.drew.ownsRow B e sz v n xs := h
theorem stop {p : Prop} (h : Hid p) : p := h.out
theorem own_ne_base {W : World} {B e sz n g : Nat} {v : Value} {xs : List Value} (h : W.ownsRow B e sz v n xs) (hg : g < B) : v.ownBlock = none ∨ v.ownBlock ≠ some g := by
  cases hv : v.ownBlock with
  | none => exact .inl rfl
  | some j => exact .inr (fun e => by injection e with e; have := own_ge h hv; omega)
set_option maxRecDepth 8000 in
set_option maxHeartbeats 4000000 in
theorem lots_any (w : World) (b n : Nat) (f : Pl → Int) (h : BalZ w b n f) (hn : n ≤ 1000000) :
    Calls Tryz.prog 57 #[.map (some b)] w fun e w' => ∃ (A : Option Addr) (c : Nat) (L : List Lot), e = .returned (.slice A L.length c) ∧ LotsOf f L ∧ L.Pairwise (fun x y => cfL x y ≤ 0) ∧ L.length ≤ n ∧ SlE lotE 3 w' A L.length L ∧ (∀ a, A = some a → w.heap.size ≤ a.block) ∧ Below w.heap.size w w' := by
  refine calls_cps ?_
  intro R hR
  obtain ⟨D, hD, hZ, hY⟩ := h
  have hsize := hD.1.size_le
  have hlt := hD.lt
  have Hown := Lib.hid hD.1
  have HD2 := Lib.hid hD.2
  have HZ := Lib.hid hZ
  have HY := Lib.hid hY
  clear hD hZ hY
  go_enter Tryz.func57, Tryz.ntmps57
  go_wp2_with (at_range; refine wpList_range_own _ rfl _ 112 rfl 158 3 plLaw plT1 _ b n D rfl Hown.out ?_; intro w0 hrg0 hg0 hs0)
  go_frame
  have Hrg0 := Lib.hid hrg0
  have Hg0 := Lib.hid hg0
  have Hs0 := Lib.hid hs0
  clear hrg0 hg0 hs0
  go_loopw [3] (fun s3 wr => ∃ (left : Lit → Bool) (cnt m : Nat) (A' : Option Addr) (c' : Nat), s3 = .slice A' m c' ∧ m + cnt ≤ n ∧ Hid (wr.ranges Tryz.prog 158 (plainElem Tryz.prog 3) b w.heap.size n D left cnt) ∧ Hid (Below w.heap.size w wr) ∧ Hid (w.heap.size + 1 ≤ wr.heap.size) ∧
      Hid (∃ L : List Lot, m = L.length ∧ LotsTo f D left L ∧ wr.ownsRow (w.heap.size + 1) 39 3 (.slice A' m c') m (L.flatMap lotE)))
    (fun _ wr => wr.rangeLeft b w.heap.size)
  case atStart =>
    exact ⟨_, _, 0, none, 0, rfl, by omega, Hrg0, Lib.hid ⟨Hg0.out.os, Hg0.out.tape, Hg0.out.output, Hg0.out.size, fun j hj => Hg0.out.block j hj (by simp)⟩, Lib.hid (by rw [Hs0.out]; exact Nat.le_refl _), Lib.hid ⟨[], rfl, LotsTo.start HZ.out, World.ownsRow_nil _ _ _ _⟩⟩
  case round =>
    obtain ⟨left, cnt, m, A', c', rfl, hmn, Hrg, Hb, Hsz, HL⟩ := hrel
    go_wp2_with (at_next; refine wpList_next_ranges _ rfl _ rfl 158 plLaw (plainElem Tryz.prog 3) id id (fun key kl _ => ⟨key, rfl⟩) (fun v y _ => ⟨v, rfl⟩) b w.heap.size n _ _ _ rfl Hrg.out ?_ ?_)
    · intro _ hl0
      have Hl0 := Lib.hid hl0
      obtain ⟨L, hm, hto, ho⟩ := HL.out
      have HLo := Lib.hid (hto.fin Hl0.out)
      have HS := Lib.hid (lsort_any A' m c' (w.heap.size + 1) L wr ho hm (by omega))
      have Hm := Lib.hid hm
      have HNew := Lib.hid (show ∀ a, A' = some a → w.heap.size ≤ a.block from fun a ha => by
        subst ha
        have := own_ge ho (g := a.block) rfl
        omega)
      clear hl0 hto ho hm
      go_wp2_with fail
      refine HS.out.mono ?_
      rintro e w2 ⟨rfl, L', hp, hs, hx, hk⟩
      have Hp := Lib.hid hp
      have Hs := Lib.hid hs
      have Hx := Lib.hid hx
      have Hk := Lib.hid hk
      clear hp hs hx hk
      go_wp2
      have hl : m = L'.length := by rw [Hm.out]; exact Hp.out.length_eq.symm
      refine hR.out _ _ ⟨A', c', L', by rw [hl]; rfl, HLo.out.perm Hp.out, Hs.out, by omega, by rw [← hl]; exact Hx.out, HNew.out, Hk.out.low Hb.out (fun j hj => by omega) (by have := Hsz.out; omega)⟩
    · intro x c kl y ys w1 cnt1 hkey hlx hRy hat hrg1 hlt1 hg1 hs1 hen
      obtain ⟨L, hm, hto, ho⟩ := HL.out
      obtain ⟨p, hp, rfl⟩ := HY.out kl (hto.has kl hlx)
      have hx : x = keyV p := key_val hp hkey
      subst hx
      obtain ⟨q, hc, hy, _⟩ := plainElem_int_inv Tryz.underlying3 hRy
      have hq : q = f p := by
        have h1 := HD2.out p hp
        injection hy with hy _
        rw [hat, hy] at h1
        unfold i64D at h1
        simpa using h1
      have hf : f p ≠ 0 := by
        have h1 := HZ.out p hp
        rw [hto.has _ hlx] at h1
        simpa using h1.symm
      have hc' : c = .int .i64 (f p) := by rw [← hq]; exact hc
      subst hc'
      have HTo := Lib.hid (hto.step hp hf hlx)
      have HO := Lib.hid (ho.kept hg1 (own_ne_base ho (by omega)))
      have HRg := Lib.hid hrg1
      have hb1 : Below w.heap.size w w1 := ⟨hg1.os.trans Hb.out.os, hg1.tape.trans Hb.out.tape, hg1.output.trans Hb.out.output, by have := hg1.size; have := Hb.out.size; omega, fun j hj => (hg1.block j (Nat.lt_of_lt_of_le hj Hb.out.size) (fun e => by injection e with e; omega)).trans (Hb.out.block j hj)⟩
      have HB1 := Lib.hid hb1
      have Hs1 := Lib.hid hs1
      have Hlt1 := Lib.hid hlt1
      have Hm := Lib.hid hm
      clear hto ho hkey hlx hRy hat hrg1 hlt1 hg1 hs1 hc hy hq hf hb1 hm
      obtain ⟨a, i⟩ := p
      simp only [keyV] at hen ⊢
      have hbx := cells2 (heap_alloc_new w1 (.cells #[.string a, .string i] 158))
      obtain ⟨c0, c1, -⟩ := hbx
      go_upto_region 5 with fail
      go_wp2_with (at_builtin; refine stop ?_)
      refine Lib.hid ?_
      refine wpList_app rfl (.tmp 13) (.tmp 20) _ rfl elemLot (w.heap.size + 1) _ _ _ rfl ((HO.out.alloc _).alloc _) _ _ _ _ rfl (Sl.newAt _ _ _ 3 1 rfl (by simp)) (lot_one [(a, i, f (a, i))]) (by unfold maxLen; omega) (by omega) (by simp; have := HB1.out.size; have := Hs1.out; have := Hsz.out; omega) ?_
      intro A2 c2 w2 ho2 hg2 _
      have HO2 := Lib.hid ho2
      have HG2 := Lib.hid hg2
      clear ho2 hg2
      go_wp2_with fail
      obtain ⟨ob, hob⟩ : ∃ ob, (Value.slice A' m c').ownBlock = ob := ⟨_, rfl⟩
      have hge : ∀ g, ob = some g → w.heap.size + 1 ≤ g := fun g hg => own_ge HO.out (hob.trans hg)
      have hg2 := HG2.out
      change World.grownBy _ _ (Value.slice A' m c').ownBlock at hg2
      rw [hob] at hg2
      have hrg2 := ((HRg.out.alloc (.cells #[.string a, .string i] 158)).alloc (.cells #[.string a, .string i, .int .i64 (f (a, i))] 39)).kept hg2 (fun e => by have := hge _ e.symm; omega) (fun e => by have := hge _ e.symm; omega)
      have hk2 : Kx (fun j => w.heap.size + 1 ≤ j) w1 w2 := (((Kx.refl _ w1).below (below_new w1 _)).below (below_new _ _)).grown hg2 (fun j hj => .inl (hge j hj))
      refine ⟨⟨_, cnt1, m + 1, A2, c2, rfl, by have := Hlt1.out; omega, Lib.hid hrg2, Lib.hid (hk2.low HB1.out (fun j hj => by omega) HB1.out.size), Lib.hid (by have := hk2.size; have := Hs1.out; have := Hsz.out; omega), Lib.hid ⟨_, by rw [List.length_append, List.length_singleton, Hm.out], HTo.out, ?_⟩⟩, ?_⟩
      · rw [List.flatMap_append]
        have h2 := HO2.out
        simpa [lotE] using h2
      · rw [hrg2.left_eq, Hrg.out.left_eq]
        exact Hlt1.out
/-- (*Book).Lots. -/
theorem blots_any (w : World) (F : Nat → Prop) (a dk : Nat) (b : Bk) (h : Bok w F a dk b) (hn : b.E.length ≤ 10000) :
    Calls Tryz.prog 28 #[.pointer (some ⟨a, 0, none⟩)] w fun e w' => ∃ (A : Option Addr) (c : Nat) (L : List Lot), e = .returned (.slice A L.length c) ∧ LotsOf (balE b.E) L ∧ L.Pairwise (fun x y => cfL x y ≤ 0) ∧ L.length ≤ 1000000 ∧ SlE lotE 3 w' A L.length L ∧ (∀ a, A = some a → w.heap.size ≤ a.block) ∧ Below w.heap.size w w' := by
  refine calls_cps ?_
  intro R hR
  obtain ⟨A, c, mb, n, c0, c1, c2, c3, -, -, HN, HB, -, -⟩ := h.cells
  have HL := Lib.hid (lots_any w mb n (balE b.E) HB.out (by have := HN.out; omega))
  have Hn := Lib.hid (show n ≤ 1000000 by have := HN.out; omega)
  clear h
  go_enter Tryz.func28, Tryz.ntmps28
  go_wp2_with fail
  refine HL.out.mono ?_
  rintro e w' ⟨A', c', L, rfl, h1, h2, h3, h4, h6, h5⟩
  have H6 := Lib.hid h6
  have H1 := Lib.hid h1
  have H2 := Lib.hid h2
  have H3 := Lib.hid h3
  have H4 := Lib.hid h4
  have H5 := Lib.hid h5
  clear h1 h2 h3 h4 h5 h6
  go_wp2
  exact hR.out _ _ ⟨A', c', L, rfl, H1.out, H2.out, by have := H3.out; have := Hn.out; omega, H4.out, H6.out, H5.out⟩
end
end
end Go.Proofs.YtndcijkgaadpgaaGreatDoor
