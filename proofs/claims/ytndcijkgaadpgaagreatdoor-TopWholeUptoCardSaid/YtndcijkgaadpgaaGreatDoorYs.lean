/-
  The statement on clavecintop.TopWhole where what it reads is of bulk at most 1048576, proved: the row, and its tied card; no other condition.
-/
import Derived.Test.YtndcijkgaadpgaaGreatDoorCards
import Derived.Test.YtndcijkgaadpgaaGreatDoorYr
import Derived.Test.YtndcijkgaadpgaaGreatDoorDl
import Derived.Test.YtndcijkgaadpgaaGreatDoorYtied
import Derived.Test.YtndcijkgaadpgaaGreatDoorYu
import Derived.SliceStrings
import Derived.OpenShut
import Derived.ProofKit
import Derived.Deep.DeepHandedRow
import Derived.Lib.LaidTab
import Derived.Shelf.Vars
namespace Go.Proofs.YtndcijkgaadpgaaGreatDoor
open Go Go.ChangeShapes Go.WideShapes Go.RowKit
theorem rowOwn : ownKnob Tryz.prog.godebug = none := by kernel_rfl
theorem rowLaidOut : laidOutB Tryz.prog = true := by kernel_rfl
theorem laid_tail {P : Program} {x : String × DataW Unit} {l : List (String × DataW Unit)} {W : World} (h : laidMet P (x :: l) W) : laidMet P l W := by
  obtain ⟨n, d⟩ := x
  obtain ⟨ps, ⟨g, t, cs, fuel, p, q, -, -, -, -, hq, rfl⟩, hn, hc⟩ := h
  exact ⟨q, hq, (List.nodup_append.1 hn).2.1, fun b off hp => hc b off (List.mem_append.2 (.inr hp))⟩
theorem tab_pow {W : World} (h : laidMet Tryz.prog Rows.topWholeUptoRow.laid W) : Lib.TabIs Tryz.prog W "internal/strconv.uint64pow10" .u64 Lib.pow10Tab :=
  Lib.tabIs_of_head (t := 398) (e := 71) (n := 20) (g := 3) (by kernel_rfl) (by kernel_rfl) Tryz.underlying398 Tryz.underlying71 (by kernel_rfl) (by kernel_rfl) h
set_option maxRecDepth 100000 in
theorem tab_space {W : World} (h : laidMet Tryz.prog Rows.topWholeUptoRow.laid W) : Lib.TabIs Tryz.prog W "strings.asciiSpace" .u8 Lib.asciiSpaceTab :=
  Lib.tabIs_of_head (t := 264) (e := 5) (n := 256) (g := 1) (by kernel_rfl) (by kernel_rfl) Tryz.underlying264 Tryz.underlying5 (by kernel_rfl) (by kernel_rfl) (laid_tail (laid_tail (laid_tail (laid_tail (laid_tail (laid_tail (laid_tail h)))))))
theorem gl_of {W : World} (h : laidMet Tryz.prog Rows.topWholeUptoRow.laid W) (hs : W.ShapedOpen Tryz.prog) : Gl W.heap.size W := by
  obtain ⟨m, hm⟩ := cell_of_shapedOpen_int (g := 0) (t := 3) (zero := #[.int .i64 0]) (k := .i64) hs (of_decide_eq_true (by kernel_rfl)) (by kernel_rfl) rfl (by kernel_rfl) (by kernel_rfl) Tryz.underlying3
  refine ⟨Lib.tabBelow_of_tabIs (tab_pow h), Lib.tabBelow_of_tabIs (tab_space h), ⟨m, hm⟩, ?_⟩
  by_cases hl : 0 < W.heap.size
  · exact hl
  · simp [World.cell?, Array.getElem?_eq_none (Nat.le_of_not_lt hl)] at hm
theorem bulk_part {H : Type} {d : DataW H} {l : List (DataW H)} (h : d ∈ l) : Rows.uptoBulk d ≤ Rows.uptoBulkAll l := by
  induction l with
  | nil => cases h
  | cons x r ih =>
    simp only [Rows.uptoBulkAll]
    rcases List.mem_cons.1 h with rfl | e
    · omega
    · have := ih e
      omega
theorem slE_of_cells {α : Type} {enc : α → List Value} {sz : Nat} (hsz : ∀ x, (enc x).length = sz) (h0 : 0 < sz) {W : World} {a : Addr} {len : Nat} (f : Nat → α)
    (h : ∀ i, i < len → ∀ j u, (enc (f i))[j]? = some u → W.cell? (a.add (i * sz + j)) = some u) : SlE enc sz W (some a) len ((List.range len).map f) := by
  refine ⟨by simp, by rw [flat_length hsz]; simp, fun hn => ?_⟩
  obtain ⟨b, o, sp⟩ := a
  have hfirst : W.cell? ⟨b, o, sp⟩ = some ((enc (f 0))[0]'(by rw [hsz]; exact h0)) := by
    have := h 0 hn 0 _ (List.getElem?_eq_getElem (by rw [hsz]; exact h0))
    simpa [Addr.add] using this
  have hsp : sp = none := by
    cases sp with
    | none => rfl
    | some s =>
      simp only [World.cell?] at hfirst
      split at hfirst <;> simp at hfirst
  subst hsp
  refine ⟨b, o, rfl, ?_, fun q u hu => ?_⟩
  · by_cases hb : b < W.heap.size
    · exact hb
    · simp [World.cell?, Array.getElem?_eq_none (Nat.le_of_not_lt hb)] at hfirst
  · have hq : q < len * sz := by
      have := (List.getElem?_eq_some_iff.1 hu).1
      rw [flat_length hsz] at this
      simpa using this
    have hi : q / sz < len := Nat.div_lt_of_lt_mul (by rw [Nat.mul_comm]; exact hq)
    have hr : q % sz < sz := Nat.mod_lt _ h0
    have he : q / sz * sz + q % sz = q := by rw [Nat.mul_comm]; exact Nat.div_add_mod q sz
    have hx : ((List.range len).map f)[q / sz]? = some (f (q / sz)) := by simp [hi]
    have hg := flat_get hsz _ _ (q % sz) _ hx hr
    rw [he, hu] at hg
    have := h _ hi _ _ hg.symm
    rw [he] at this
    rw [← this]
    by_cases hz : q = 0
    · subst hz; simp [Addr.add]
    · simp [Addr.add, hz]
set_option maxRecDepth 100000 in
/-- A list of texts of a small bulk, in memory as it came. -/
theorem open_texts {H : Type} {enc : TypeId × Value → H} {W : World} {r : Reach} {b0 : Nat} {v : Value} {d : DataW H} {p : List MemPlace} (hv : Value.okWide Tryz.prog W r b0 22 v)
    (h : DataW.Trod enc Tryz.prog W 0 (fun _ => true) true 22 v d p) (hk : Rows.uptoBulk d ≤ 1048576) : ∃ A n c L, v = .slice A n c ∧ n ≤ 9223372036854775807 ∧ SlE strE 1 W A n L ∧ ∀ x ∈ L, x.size ≤ 2000000 := by
  obtain ⟨a, len, cap, rfl⟩ := okWide_slice Tryz.underlying22 hv
  obtain ⟨fuel, hf⟩ := h
  rcases open_strings Tryz.underlying22 Tryz.underlying9 (by kernel_rfl) hf with ⟨e, _⟩ | ⟨a', len', cap', ss, e, _, hl, hm, hn, hx, hc, _⟩
  · have e' : (Value.slice a len cap) = .slice none 0 0 := by simpa [Value.cells] using e
    exact ⟨none, 0, 0, [], e', by decide, SlE.nil _ _, fun x hx => by cases hx⟩
  · have e' : (Value.slice a len cap) = .slice (some a') len' cap' := by simpa [Value.cells] using e
    simp only [if_true] at hn
    have hd : d = .slice (strs (ss.take len')) (strs (ss.drop len')) := congrArg Prod.fst hx
    refine ⟨some a', len', cap', (List.range len').map fun i => ss.getD i ByteArray.empty, e', by unfold maxLen at hm; omega, slE_of_cells strE_len (by omega) _ (fun i hi j u hu => ?_), fun x hxm => ?_⟩
    · have hj : j = 0 := by
        have := (List.getElem?_eq_some_iff.1 hu).1
        simp [strE] at this
        exact this
      subst hj
      rw [Nat.mul_one, Nat.add_zero, hc i (by omega)]
      simpa [strE] using hu
    · obtain ⟨i, hi, rfl⟩ := List.mem_map.1 hxm
      have hi' := List.mem_range.1 hi
      have hget : ss.getD i ByteArray.empty ∈ ss.take len' := by
        rw [List.getD_eq_getElem?_getD, List.getElem?_eq_getElem (by omega)]
        exact List.mem_take_iff_getElem.2 ⟨i, by omega, rfl⟩
      have hmem : DataW.lit (.string (ss.getD i ByteArray.empty).data.toList) ∈ (strs (ss.take len') : List (DataW H)) := by
        unfold strs
        exact List.mem_map.2 ⟨_, hget, rfl⟩
      have h1 := bulk_part hmem
      rw [hd] at hk
      simp only [Rows.uptoBulk] at hk h1
      rw [ba_size]
      omega
set_option maxHeartbeats 800000 in
set_option maxRecDepth 100000 in
theorem undone_lifted (os : Os) (started : os.Started) (H : Type) (enc : TypeId × Value → H) (F : Stop.Interp) :
    ReturnsInHanded {} Tryz.checked os 3 .any ((Rows.OpenSpec.upto Rows.topWholeSpec).preRow enc Tryz.prog Tryz.f3 Rows.topWholeUptoRow.domain false Rows.topWholeUptoRow.laid) (((Rows.OpenSpec.upto Rows.topWholeSpec).at F).post enc Tryz.prog Tryz.f3 false true false false) := by
  obtain ⟨places, hx⟩ : ∃ places, DataW.whole enc Tryz.prog ((laidWorld os).forCall (fun _ _ => 0) ⟨#[], #[.slice none 0 0, .int .i64 0, .int .i64 0], []⟩).memory Tryz.f3.params.toList Rows.topWholeSpec.vars false #[Value.slice none 0 0, Value.int .i64 0, Value.int .i64 0].toList 8 = some ([.nil, .lit (.int .i64 0), .lit (.int .i64 0)], [], places) := ⟨[], by kernel_rfl⟩
  refine returnsInHanded_of_row (C := Tryz.checked) (s := Rows.OpenSpec.upto Rows.topWholeSpec) rowOwn started (by kernel_rfl) Tryz.func3
    (witness_row_atRef (enc := enc) (C := Tryz.checked) false (laidWorld os) #[.slice none 0 0, .int .i64 0, .int .i64 0] rfl (by kernel_rfl) (by kernel_rfl) (by kernel_rfl)
      (OpenSpec.preRow_of_cond 8 hx (by kernel_rfl) (fun k hk => by cases hk; kernel_rfl) (by kernel_rfl) (laid_met os _))) ?_
  intro W base args ds gs before hval0 hW _ hcond _ hL0 hsh _
  have hk : Rows.uptoSmall H (ds ++ gs) = true := hcond _ rfl
  have hL : laidMet Tryz.prog Rows.topWholeUptoRow.laid W := hL0
  have hval : ∀ (j : Nat) t v, Tryz.f3.params[j]? = some t → args[j]? = some v → Value.okWide Tryz.prog W .any base t v := hval0
  have hW' := hW
  obtain ⟨p, q, hA0, hV, rfl, _, _⟩ := hW
  have hA : DataW.TrodAll enc Tryz.prog W 0 (fun _ => true) true Tryz.f3.params.toList args.toList ds p := hA0
  rw [Tryz.params3] at hA hval
  obtain ⟨v0, v1, v2, d0, d1, d2, p0, p1, p2, rfl, rfl, rfl, h0, h1, h2⟩ := trodAll_three hA
  obtain ⟨rfl, rfl⟩ := trodVars_none hV
  clear hA0 hval0
  simp only [List.append_nil] at hW' hk
  have hb1 : Rows.uptoBulk d0 ≤ 1048576 := by
    have h1 := of_decide_eq_true hk
    simp only [Rows.uptoBulkAll] at h1
    omega
  obtain ⟨A, n, c, L, rfl, hn, hS, hz⟩ := open_texts (hval 0 22 v0 rfl rfl) h0 hb1
  obtain ⟨x1, rfl, _, _, wf1⟩ := open_int Tryz.underlying3 (hval 1 3 v1 rfl rfl) h1
  obtain ⟨x2, rfl, _, _, wf2⟩ := open_int Tryz.underlying3 (hval 2 3 v2 rfl rfl) h2
  refine (whole_any W A n c L x1 x2 hS hz hn W.heap.size (gl_of hL hsh) (Nat.le_refl _)).mono fun e' W' ⟨he, hb⟩ => ?_
  subst he
  refine ⟨_, rfl, _, _, _, [], _, [], hW', ?_, trodAll_mk3 (Below.trod rowLaidOut (by kernel_rfl) (of_decide_eq_true (by kernel_rfl)) h0 hb (fun x hx => hW'.lt x (by simp [hx]))) (Below.trod rowLaidOut (by kernel_rfl) (of_decide_eq_true (by kernel_rfl)) h1 hb (fun x hx => hW'.lt x (by simp [hx]))) (Below.trod rowLaidOut (by kernel_rfl) (of_decide_eq_true (by kernel_rfl)) h2 hb (fun x hx => hW'.lt x (by simp [hx]))), rfl, hb.frame _, fun h => by cases h⟩
  exact trodAll_mk1 (shut_bool Tryz.underlying4 _)
theorem undone_inst : Tryz.f3.isInstance Tryz.pinned.checked.prog Rows.topWholeUptoRow.origin Rows.topWholeUptoRow.targs := of_decide_eq_true (by kernel_rfl)
theorem undone_wrap : Tryz.f3.isWrapper Tryz.pinned.checked.prog Rows.topWholeUptoRow.wrapper Rows.topWholeUptoRow.mainSum := by unfold Func.isWrapper; rw [if_neg (by decide +kernel)]; exact ⟨rfl, rfl⟩
theorem undone_said : Rows.TopWholeUptoSaid :=
  OpenClaim.holds_of_cond 3 Tryz.f3 rfl rfl rfl rfl rfl rfl rfl ⟨rfl, rfl, rfl, rfl, rfl⟩ rfl rfl rfl rfl rfl u_named Tryz.func3 undone_closed
    undone_inst undone_wrap
    (fun os started H enc _ F => by rw [OpenClaim.pre_eq_preRow]; exact undone_lifted os started H enc F)
theorem undone_plain (f : FuncId) (fn : Func) (hf : Tryz.pinned.checked.prog.funcNamed Rows.topWholeUptoRow.func = some f) (hfn : Tryz.pinned.checked.prog.funcs[f]? = some fn) :
    true = Tryz.pinned.checked.prog.looks [] ∧ ∀ (j : Nat) t, fn.params[j]? = some t → Tryz.pinned.checked.prog.wantsStandIn t = false := by
  obtain rfl : f = 3 := Option.some.inj (u_named.symm.trans hf) |>.symm
  obtain rfl : fn = Tryz.f3 := (Option.some.inj (Tryz.func3.symm.trans hfn)).symm
  refine ⟨u_looks, fun j t ht => ?_⟩
  rw [Tryz.params3] at ht
  have h := Array.mem_of_getElem? ht
  simp only [List.mem_toArray, List.mem_cons, List.not_mem_nil, or_false] at h
  rcases h with rfl | rfl | rfl
  · exact (show Tryz.prog.wantsStandIn 22 = false by kernel_rfl)
  · exact (show Tryz.prog.wantsStandIn 3 = false by kernel_rfl)
  · exact (show Tryz.prog.wantsStandIn 3 = false by kernel_rfl)
theorem topWhole_holds : Rows.TopWholeUptoCardSaid :=
  Claim7.holds_tied_plain_at .later [] _ _ _ _ undone_said (fun _ h => by cases h) u_wf (fun _ h => by cases h) upto_row_tie rfl ⟨rfl, rfl⟩ u_main rfl undone_plain u_goes
end Go.Proofs.YtndcijkgaadpgaaGreatDoor
