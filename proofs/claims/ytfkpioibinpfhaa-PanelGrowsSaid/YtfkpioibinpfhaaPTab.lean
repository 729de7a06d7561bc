/-
  The contract of panel.Table: the greatest value of every rectangle, or ErrArg; of same; no condition but that the shapes read.
-/
import Derived.Test.YtfkpioibinpfhaaTblR
import Derived.Test.YtfkpioibinpfhaaPFill2
import Derived.Test.YtfkpioibinpfhaaPLeaf2
import Derived.Test.YtfkpioibinpfhaaPTable
import Derived.Test.YtfkpioibinpfhaaPRPlan
namespace Go.Proofs.Ytfkpioibinpfhaa
open Go.RowKit

set_option maxRecDepth 100000 in
set_option maxHeartbeats 4000000 in
theorem table_no (W H k : Int) (B : Option Addr) (m d : Nat) (ss : List Shp) (w : World) (hS : SlE Shp.enc 4 w B m ss) (hm : m ≤ 9223372036854775807) (hp : panOk W H k ss = false) :
    Calls Try.prog 21 #[.int .i64 W, .int .i64 H, .int .i64 k, .slice B m d] w fun e w' => e = .returned (.tuple #[.slice none 0 0, .int .i64 1]) ∧ Below w.heap.size w w' := by
  refine calls_cps ?_
  intro R hR
  go_enter Try.func21, Try.ntmps21
  go_wp2_with (go_at_call 22; refine (check_any _ _ _ _ _ _ ss _ hS hm).mono ?_; rw [hp]; rintro e w1 ⟨rfl, hb⟩)
  exact hR.out _ _ ⟨rfl, hb⟩
theorem tabV_succ (k : Int) (ss : List Shp) (w h : Nat) : tabV k ss (w + 1) h = tabV k ss w h ++ [rowV k ss h w] := by simp [tabV, List.range_succ]
theorem saw_row {W : World} {b : Nat} {C : Array Value} {t : TypeId} {k : Int} {B : Option Addr} {m d : Nat} {ss : List Shp} {h i j : Nat} (hb : W.heap[b]? = some (.cells C t (0, 0))) (hs : SawC C k B m d ss h i j) {a : Nat} (ha : a < i) (ha1 : 1 ≤ a) (hi : a ≤ 64) (hh : h ≤ 64) :
    SlE intE 1 W (some ⟨b, 2 + a * 65 + 1, none⟩) h (rowV k ss h (a - 1)) := by
  refine ⟨by rw [rowV_len], by rw [flat_length intE_len, rowV_len], fun _ => ⟨b, _, rfl, (Array.getElem?_eq_some_iff.1 hb).1, fun q u hu => ?_⟩⟩
  rw [flat_int] at hu
  have hq : q < h := by
    have := (List.getElem?_eq_some_iff.1 hu).1
    rwa [List.length_map, rowV_len] at this
  rw [List.getElem?_map, rowV_get _ _ _ _ _ hq] at hu
  rw [cell_of_row _ _ _ _ _ (0, 0) hb, show 2 + a * 65 + 1 + q = 2 + a * 65 + (q + 1) by omega, hs.cv a (q + 1) hi (by omega) (by omega), ← hu]
  simp only [Option.map_some, Option.some.injEq, Value.int.injEq, true_and]
  congr 1 <;> omega
theorem run_row65 (w : World) (b o H : Nat) (hH : H ≤ 64) : (Instr.sliceAt 74 (.pointer (some ⟨b, o, none⟩)) (some (.int .i64 1)) (some (.int .i64 ((H : Int) + 1))) none).run Try.prog w = .ok (.slice (some ⟨b, o + 1, none⟩) H 64) w := by
  have hl : Try.prog.arrayLen 74 = 65 := by kernel_rfl
  have he : Try.prog.elem 74 = 3 := by kernel_rfl
  have ht : Try.prog.underlying 74 = some (.array (Try.prog.arrayLen 74) (Try.prog.elem 74)) := by rw [hl, he]; exact Try.underlying74
  obtain ⟨i0, hi, z0, z1, z2⟩ := info_parts infoInt
  rw [run_sliceAt_array_lh w _ _ ht .i64 .i64 1 _ (by omega) (by omega) (by rw [hl]; omega), hl, he]
  simp [sizeOf, typeInfo, hi, z1, slicedAt, Addr.add]
set_option maxRecDepth 100000 in
set_option maxHeartbeats 4000000 in
theorem table_yes (W H : Nat) (k : Int) (B : Option Addr) (m d : Nat) (ss : List Shp) (w : World) (hS : SlE Shp.enc 4 w B m ss) (hp : panOk W H k ss = true) :
    Calls Try.prog 21 #[.int .i64 W, .int .i64 H, .int .i64 k, .slice B m d] w fun e w' => ∃ A c, e = .returned (.tuple #[.slice A W c, .int .i64 0]) ∧ SlR w' A W (tabV k ss W H) ∧ Below w.heap.size w w' := by
  refine calls_cps ?_
  intro R hR
  obtain ⟨hW1, hW2, hH1, hH2, hk0, hk8, hss, hok⟩ := panOk_ok hp
  have Hp := Lib.hid hp
  have hm : m ≤ 9223372036854775807 := by rw [hS.1]; omega
  clear hok
  go_enter Try.func21, Try.ntmps21
  go_wp2_with (first
    | (go_at_call 22; refine (check_any _ _ _ _ _ _ ss _ hS hm).mono ?_; rw [hp]; rintro e w1 ⟨rfl, hb⟩; have hS1 := hS.below hb; clear hp)
    | (go_at_call 38; refine ((callsIn_wide (n := 3)).1 (fill_any 3 (Nat.le_refl _) W H k _ _ _ ss _ hS1 Hp.out)).mono ?_; rintro e w2 ⟨C, rfl, hblk, hsaw, hb2⟩))
  have hbf : Below w.heap.size w w2 := hb.trans (hb2.mono hb.size)
  have hz2 : w1.heap.size < w2.heap.size := (Array.getElem?_eq_some_iff.1 hblk).1
  have hsz := hb.size
  clear hb hb2 hS1 hS
  go_loopw [12, 13] (fun v i wr => ∃ (i0 : Nat) (A : Option Addr) (c : Nat), i0 ≤ W ∧ i = .int .i64 (i0 + 1) ∧ v = .slice A i0 c ∧ TblR wr w2.heap.size 45 3 (.slice A i0 c) i0 (tabV k ss i0 H) ∧ Below w2.heap.size w2 wr) (fun _ i _ => (W + 1 - intOf i).toNat)
  case atStart => exact ⟨0, _, _, Nat.zero_le _, rfl, rfl, ⟨[], TblO.start (World.ownsRow_nil _ _ _ _)⟩, Below.refl _ _⟩
  case round =>
    obtain ⟨i0, A, c, hi, rfl, rfl, ht, hb⟩ := hrel
    obtain ⟨wo, rfl⟩ : ∃ wo : World, wo = wr := ⟨_, rfl⟩
    by_cases hlt : i0 < W
    · have hrow := saw_row ((hb.block _ hz2).trans hblk) hsaw (a := i0 + 1) (by omega) (by omega) (by omega) (by omega)
      rw [show i0 + 1 - 1 = i0 by omega] at hrow
      obtain ⟨outer, ht⟩ := ht
      have hT2 := ht.own
      have hsl := fun w' => run_row65 w' w1.heap.size (2 + (i0 + 1) * 65) H (by omega)
      have hzz := hb.size
      go_wp2_with (first
        | (at_builtin; refine wpList_app rfl (.const (.slice none 0 0)) (.tmp 40) _ rfl elemInt w2.heap.size _ _ _ rfl (World.ownsRow_nil _ _ _ _) _ _ _ _ rfl hrow.2 (int_one _) (by unfold maxLen; omega) (by omega) (by exact hb.size) ?_; intro A1 c1 wA ho1 hg1 _; rw [Nat.zero_add, List.nil_append] at ho1; have hbA : Below wo.heap.size wo wA := (Below.refl _ _).grown hg1 (Nat.le_refl _) (fun k hk => by cases hk); have hzA := hbA.size; have hT3 := (ownsRow_below hT2 hbA); clear hg1 hrow)
        | (at_builtin; refine wpList_app rfl (.tmp 32) (.tmp 42) _ rfl elemRow w2.heap.size _ _ _ rfl (hT3.alloc _) _ _ _ _ rfl (Sl.newAt _ _ _ 1 1 rfl (by simp)) (one1s _ _ _) (by unfold maxLen; omega) (by omega) (by simp; omega) ?_; intro A2 c2 wB ho2 hg2 _))
      obtain ⟨_, c1', hv1, hc1, _, ho1⟩ := own_slice ho1
      simp only [Value.slice.injEq, true_and] at hv1
      obtain ⟨rfl, rfl⟩ := hv1
      have hbA2 := hbA.trans ((below_new wA (.cells #[.slice A1 H c1] 45)).mono hbA.size)
      have ht2 := (ht.below hbA2).snoc (by decide) (rowV_len k ss H i0) (ho1.alloc _) hc1 ho2 hg2
      rw [← tabV_succ] at ht2
      have hb2 : Below w2.heap.size w2 wB := below_own (hb.trans (hbA2.mono hb.size)) ((ht.below hbA2).own) (Nat.le_refl _) (by have := hbA2.size; omega) hg2
      exact ⟨⟨i0 + 1, _, _, by omega, by go_num, rfl, ⟨_, ht2⟩, hb2⟩, by simp [intOf]; omega⟩
    · obtain rfl : W = i0 := by omega
      have Hfin := Lib.hid (show R (.returned (.tuple #[.slice A W c, .int .i64 0])) wo from hR.out _ _ ⟨_, _, rfl, ht.slr, hbf.trans (hb.mono hbf.size)⟩)
      go_wp2
      exact Hfin.out
theorem table_ok (W H k : Int) (B : Option Addr) (m d : Nat) (ss : List Shp) (w : World) (hS : SlE Shp.enc 4 w B m ss) (hp : panOk W H k ss = true) :
    Calls Try.prog 21 #[.int .i64 W, .int .i64 H, .int .i64 k, .slice B m d] w fun e w' => ∃ A c, e = .returned (.tuple #[.slice A W.toNat c, .int .i64 0]) ∧ SlR w' A W.toNat (tabV k ss W.toNat H.toNat) ∧ Below w.heap.size w w' := by
  obtain ⟨h1, _, h3, _⟩ := panOk_ok hp
  obtain ⟨W', rfl⟩ : ∃ n : Nat, W = n := ⟨W.toNat, by omega⟩
  obtain ⟨H', rfl⟩ : ∃ n : Nat, H = n := ⟨H.toNat, by omega⟩
  exact table_yes W' H' k B m d ss w hS hp
end Go.Proofs.Ytfkpioibinpfhaa
