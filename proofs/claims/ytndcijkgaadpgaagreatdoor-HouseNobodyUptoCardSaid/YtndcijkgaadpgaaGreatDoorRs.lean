/-
  The statement on clavecinlaw10.HouseNobody where what it reads is of bulk at most 1048576, proved: the row, and its tied card; no other condition.
-/
import Derived.Test.YtndcijkgaadpgaaGreatDoorCards
import Derived.Test.YtndcijkgaadpgaaGreatDoorRr
import Derived.Test.YtndcijkgaadpgaaGreatDoorOa
import Derived.Test.YtndcijkgaadpgaaGreatDoorRtied
import Derived.Test.YtndcijkgaadpgaaGreatDoorRu
import Derived.Stop.LaidErr
import Derived.LaidLaws
import Derived.Look8
import Derived.OpenShut
import Derived.ProofKit
import Derived.Deep.DeepHandedRow
import Derived.Lib.LaidTab
import Derived.Shelf.Vars
namespace Go.Proofs.YtndcijkgaadpgaaGreatDoor
open Go Go.ChangeShapes Go.WideShapes Go.RowKit
theorem rowOwn : ownKnob Tryz.prog.godebug = none := by kernel_rfl
theorem rowLaidOut : laidOutB Tryz.prog = true := by kernel_rfl
theorem laid_tail {P : Program} {x : String × DataW Unit} {l : List (String × DataW Unit)} {W : World} (h : laidMet P (x :: l) W) : laidMet P l W := by
  obtain ⟨n, d⟩ := x
  obtain ⟨ps, ⟨g, t, cs, fuel, p, q, -, -, -, -, hq, rfl⟩, hn, hc⟩ := h
  exact ⟨q, hq, (List.nodup_append.1 hn).2.1, fun b off hp => hc b off (List.mem_append.2 (.inr hp))⟩
theorem tab_pow {W : World} (h : laidMet Tryz.prog Rows.houseNobodyUptoRow.laid W) : Lib.TabIs Tryz.prog W "internal/strconv.uint64pow10" .u64 Lib.pow10Tab :=
  Lib.tabIs_of_head (t := 398) (e := 71) (n := 20) (g := 3) (by kernel_rfl) (by kernel_rfl) Tryz.underlying398 Tryz.underlying71 (by kernel_rfl) (by kernel_rfl) h
set_option maxRecDepth 100000 in
theorem tab_space {W : World} (h : laidMet Tryz.prog Rows.houseNobodyUptoRow.laid W) : Lib.TabIs Tryz.prog W "strings.asciiSpace" .u8 Lib.asciiSpaceTab :=
  Lib.tabIs_of_head (t := 264) (e := 5) (n := 256) (g := 1) (by kernel_rfl) (by kernel_rfl) Tryz.underlying264 Tryz.underlying5 (by kernel_rfl) (by kernel_rfl) (laid_tail (laid_tail (laid_tail (laid_tail (laid_tail (laid_tail (laid_tail h)))))))
theorem gl_of {W : World} (h : laidMet Tryz.prog Rows.houseNobodyUptoRow.laid W) (hs : W.ShapedOpen Tryz.prog) : Gl W.heap.size W := by
  obtain ⟨m, hm⟩ := cell_of_shapedOpen_int (g := 0) (t := 3) (zero := #[.int .i64 0]) (k := .i64) hs (of_decide_eq_true (by kernel_rfl)) (by kernel_rfl) rfl (by kernel_rfl) (by kernel_rfl) Tryz.underlying3
  refine ⟨Lib.tabBelow_of_tabIs (tab_pow h), Lib.tabBelow_of_tabIs (tab_space h), ⟨m, hm⟩, ?_⟩
  by_cases hl : 0 < W.heap.size
  · exact hl
  · simp [World.cell?, Array.getElem?_eq_none (Nat.le_of_not_lt hl)] at hm
theorem rowStar : "*" ++ "errors.errorString" = "*errors.errorString" := by decide
theorem rowErr (u : TypeId) (h : Tryz.prog.typeName? 3 u = some "*errors.errorString") : u = 568 :=
  typeName_ptr_named (nm := "errors.errorString") (by rw [rowStar]; kernel_rfl) (by kernel_rfl) (by decide) u (by rw [rowStar]; exact h)
theorem rowSyn : Tryz.prog.globalNamed "strconv.ErrSyntax" = some 6 := by kernel_rfl
theorem rowRng : Tryz.prog.globalNamed "strconv.ErrRange" = some 7 := by kernel_rfl
theorem ge_of {W : World} (h : laidMet Tryz.prog Rows.houseNobodyUptoRow.laid W) : Ge W.heap.size W := by
  have h5 := laid_tail (laid_tail (laid_tail (laid_tail (laid_tail h))))
  obtain ⟨a1, s1, e1, -⟩ := laid_sentinel h5 (ti := 261) (tp := 568) (te := 570) (ts := 9) rowSyn (by kernel_rfl) Tryz.underlying261 rowErr Tryz.underlying568 Tryz.underlying570 rfl rfl Tryz.underlying9 (by kernel_rfl) (by kernel_rfl)
  obtain ⟨a2, s2, e2, -⟩ := laid_sentinel (laid_tail h5) (ti := 261) (tp := 568) (te := 570) (ts := 9) rowRng (by kernel_rfl) Tryz.underlying261 rowErr Tryz.underlying568 Tryz.underlying570 rfl rfl Tryz.underlying9 (by kernel_rfl) (by kernel_rfl)
  have c1 : W.cell? ⟨6, 0, none⟩ = some (.iface 568 (.pointer (some a1))) := by simpa using World.var?_cell rowSyn e1 0
  have c2 : W.cell? ⟨7, 0, none⟩ = some (.iface 568 (.pointer (some a2))) := by simpa using World.var?_cell rowRng e2 0
  exact ⟨⟨_, _, c1⟩, ⟨_, _, c2⟩, World.block_lt_of_cell? W _ c1, World.block_lt_of_cell? W _ c2⟩
set_option maxHeartbeats 800000 in
set_option maxRecDepth 100000 in
theorem undone_lifted (os : Os) (started : os.Started) (H : Type) (enc : TypeId × Value → H) (F : Stop.Interp) :
    ReturnsInHanded {} Tryz.checked os 4 .any ((Rows.OpenSpec.upto Rows.houseNobodySpec).preRow enc Tryz.prog Tryz.f4 Rows.houseNobodyUptoRow.domain false Rows.houseNobodyUptoRow.laid) (((Rows.OpenSpec.upto Rows.houseNobodySpec).at F).post enc Tryz.prog Tryz.f4 false true false false) := by
  obtain ⟨places, hx⟩ : ∃ places, DataW.whole enc Tryz.prog ((laidWorld os).forCall (fun _ _ => 0) ⟨#[], #[.string ByteArray.empty], []⟩).memory Tryz.f4.params.toList Rows.houseNobodySpec.vars false #[Value.string ByteArray.empty].toList 8 = some ([.lit (.string [])], [], places) := ⟨[], by kernel_rfl⟩
  refine returnsInHanded_of_row (C := Tryz.checked) (s := Rows.OpenSpec.upto Rows.houseNobodySpec) rowOwn started (by kernel_rfl) Tryz.func4
    (witness_row_atRef (enc := enc) (C := Tryz.checked) false (laidWorld os) #[.string ByteArray.empty] rfl (by kernel_rfl) (by kernel_rfl) (by kernel_rfl)
      (OpenSpec.preRow_of_cond 8 hx (by kernel_rfl) (fun k hk => by cases hk; kernel_rfl) (by kernel_rfl) (laid_met os _))) ?_
  intro W base args ds gs before hval0 hW _ hcond _ hL0 hsh _
  have hk : Rows.uptoSmall H (ds ++ gs) = true := hcond _ rfl
  have hL : laidMet Tryz.prog Rows.houseNobodyUptoRow.laid W := hL0
  have hval : ∀ (j : Nat) t v, Tryz.f4.params[j]? = some t → args[j]? = some v → Value.okWide Tryz.prog W .any base t v := hval0
  have hW' := hW
  obtain ⟨p, q, hA0, hV, rfl, _, _⟩ := hW
  have hA : DataW.TrodAll enc Tryz.prog W 0 (fun _ => true) true Tryz.f4.params.toList args.toList ds p := hA0
  rw [Tryz.params4] at hA hval
  obtain ⟨v0, d0, rfl, rfl, h0⟩ := trodAll_one hA
  obtain ⟨rfl, rfl⟩ := trodVars_none hV
  clear hA0 hval0
  simp only [List.append_nil] at hW' hk
  obtain ⟨x, rfl⟩ := okWide_string Tryz.underlying9 (hval 0 9 v0 rfl rfl)
  refine (hnobody_any W x W.heap.size (gl_of hL hsh) (ge_of hL) (Nat.le_refl _)).mono fun e' W' ⟨he, hb⟩ => ?_
  subst he
  refine ⟨_, rfl, _, _, _, [], _, [], hW', ?_, trodAll_mk1 (Below.trod rowLaidOut (by kernel_rfl) (of_decide_eq_true (by kernel_rfl)) h0 hb (fun x hx => hW'.lt x hx)), rfl, hb.frame _, fun h => by cases h⟩
  exact trodAll_mk1 (shut_bool Tryz.underlying4 _)
theorem undone_inst : Tryz.f4.isInstance Tryz.pinned.checked.prog Rows.houseNobodyUptoRow.origin Rows.houseNobodyUptoRow.targs := of_decide_eq_true (by kernel_rfl)
theorem undone_wrap : Tryz.f4.isWrapper Tryz.pinned.checked.prog Rows.houseNobodyUptoRow.wrapper Rows.houseNobodyUptoRow.mainSum := by unfold Func.isWrapper; rw [if_neg (by decide +kernel)]; exact ⟨rfl, rfl⟩
theorem undone_said : Rows.HouseNobodyUptoSaid :=
  OpenClaim.holds_of_cond 4 Tryz.f4 rfl rfl rfl rfl rfl rfl rfl ⟨rfl, rfl, rfl, rfl, rfl⟩ rfl rfl rfl rfl rfl u_named Tryz.func4 undone_closed
    undone_inst undone_wrap
    (fun os started H enc _ F => by rw [OpenClaim.pre_eq_preRow]; exact undone_lifted os started H enc F)
theorem undone_plain (f : FuncId) (fn : Func) (hf : Tryz.pinned.checked.prog.funcNamed Rows.houseNobodyUptoRow.func = some f) (hfn : Tryz.pinned.checked.prog.funcs[f]? = some fn) :
    true = Tryz.pinned.checked.prog.looks [] ∧ ∀ (j : Nat) t, fn.params[j]? = some t → Tryz.pinned.checked.prog.wantsStandIn t = false := by
  obtain rfl : f = 4 := Option.some.inj (u_named.symm.trans hf) |>.symm
  obtain rfl : fn = Tryz.f4 := (Option.some.inj (Tryz.func4.symm.trans hfn)).symm
  refine ⟨u_looks, fun j t ht => ?_⟩
  rw [Tryz.params4] at ht
  obtain rfl : t = 9 := by simpa using Array.mem_of_getElem? ht
  exact (show Tryz.prog.wantsStandIn 9 = false by kernel_rfl)
theorem houseNobody_holds : Rows.HouseNobodyUptoCardSaid :=
  Claim7.holds_tied_plain_at .later [] _ _ _ _ undone_said (fun _ h => by cases h) u_wf (fun _ h => by cases h) upto_row_tie rfl ⟨rfl, rfl⟩ u_main rfl undone_plain u_goes
end Go.Proofs.YtndcijkgaadpgaaGreatDoor
