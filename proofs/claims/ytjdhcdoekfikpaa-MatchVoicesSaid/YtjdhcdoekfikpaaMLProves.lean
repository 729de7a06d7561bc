/-
  What the law's proves and empty need: Best's prices prove it.
-/
import Derived.Test.YtjdhcdoekfikpaaMRProves
namespace Go.Proofs.Ytjdhcdoekfikpaa
open Go.RowKit

theorem getD_all {l : List Int} {P : Int → Prop} (h : ∀ x ∈ l, P x) {i : Nat} (hi : i < l.length) : P (l.getD i 0) := by
  rw [getD_get _ _ _ hi]; exact h _ (List.getElem_mem hi)
/-- Best's prices prove it, as the document's Proves asks. -/
theorem prOk_bst {T : List (List Int)} {m : Nat} {l : List Nat} {s : Int} {lu lv : List Int} (h : Bst T m l s lu lv) : TotOk T m (castL l) ∧ PrOk T T.length m (castL l) lu lv s := by
  have hasg := h.best.asg
  refine ⟨totOk_asg hasg, by rw [totS_asg hasg, h.best.cost], fun i hi => ?_, fun j hj => ?_, fun i hi j hj => ⟨fun hx => ?_, fun hx => ?_⟩⟩
  · have := getD_all h.ub (i := i) (by rw [h.hlu]; exact hi)
    omega
  · have hv := getD_all h.vb (i := j) (by rw [h.hlv]; exact hj)
    refine ⟨by omega, hv.2, ?_⟩
    by_cases h0 : lv.getD j 0 = 0
    · exact .inr h0
    · obtain ⟨i, hi, e⟩ := mem_getD (h.opt.used j hj (by show lv.getD j 0 < 0; omega))
      exact .inl ⟨i, by rw [← h.hll]; exact hi, by rw [getD_cast, e]⟩
  · have := h.du.feas i hi j hj hx.1
    omega
  · obtain ⟨h1, h2⟩ := hx
    rw [getD_cast] at h1
    have e : l.getD i 0 = j := by omega
    have := (h.opt.ok i hi).2.2
    rw [e] at this
    exact h2 this
set_option maxRecDepth 100000 in
set_option maxHeartbeats 2000000 in
theorem empty_yes (w : World) : Calls Try.prog 23 #[.agg #[.slice none 0 0, .slice none 0 0, .slice none 0 0, .int .i64 0]] w fun e w' => e = .returned (.bool true) ∧ Below w.heap.size w w' := by
  refine calls_cps ?_
  intro R hR
  have hx := heap_alloc_new w (.cells #[.slice none 0 0, .slice none 0 0, .slice none 0 0, .int .i64 0] 28)
  have Hf := Lib.hid (show ∀ W, Qt (w.alloc (.cells #[.slice none 0 0, .slice none 0 0, .slice none 0 0, .int .i64 0] 28)) W → R (.returned (.bool true)) W from fun W hq => hR.out _ _ ⟨rfl, (below_new w _).trans (hq.below.mono (below_new w _).size)⟩)
  obtain ⟨r0, r1, r2, r3, r4⟩ := cells4 hx
  clear hR hx
  go_enter Try.func23, Try.ntmps23
  go_wp2
  exact Hf.out _ (Qt.refl _)
set_option maxRecDepth 100000 in
set_option maxHeartbeats 1000000 in
theorem lawProves_yes (A : Option Addr) (n c m : Nat) (T : List (List Int)) (A1 A2 A3 : Option Addr) (c1 c2 c3 : Nat) (l : List Nat) (lu lv : List Int) (s : Int) (w : World) (hT : SlR w A n T) (hok : TOk T m)
    (h1 : SlE intE 1 w A1 n (castL l)) (h2 : SlE intE 1 w A2 n lu) (h3 : SlE intE 1 w A3 m lv) (hB : Bst T m l s lu lv) :
    Calls Try.prog 27 #[.slice A n c, .agg #[.slice A1 n c1, .slice A2 n c2, .slice A3 m c3, .int .i64 s]] w fun e w' => e = .returned (.bool true) ∧ Below w.heap.size w w' := by
  refine calls_cps ?_
  intro R hR
  have hn1 : 1 ≤ n := by rw [hT.1]; exact hok.n1
  have hm64 := hok.m64
  have hnm : n ≤ m := by rw [hT.1]; exact hok.nm
  obtain ⟨htot, hpr⟩ := prOk_bst hB
  rw [← hT.1] at hpr
  obtain ⟨b, o, A0, c0, rfl, hh⟩ := hT.head (by omega)
  rw [hok.wid] at hh
  obtain ⟨wb, hwb⟩ : ∃ wb, w.alloc (.cells #[.slice A1 n c1, .slice A2 n c2, .slice A3 m c3, .int .i64 s] 28) = wb := ⟨_, rfl⟩
  obtain ⟨bb, hbb⟩ : ∃ bb, w.heap.size = bb := ⟨_, rfl⟩
  have hx := heap_alloc_new w (.cells #[.slice A1 n c1, .slice A2 n c2, .slice A3 m c3, .int .i64 s] 28)
  have hbl := below_new w (.cells #[.slice A1 n c1, .slice A2 n c2, .slice A3 m c3, .int .i64 s] 28)
  rw [hwb] at hx hbl
  have Hyes := Lib.hid (show ∀ W, Below wb.heap.size wb W → R (.returned (.bool true)) W from fun W hq => hR.out _ _ ⟨rfl, hbl.trans (hq.mono hbl.size)⟩)
  have HT := Lib.hid (hT.below hbl)
  have H1 := Lib.hid (h1.below hbl)
  have H2 := Lib.hid (h2.below hbl)
  have H3 := Lib.hid (h3.below hbl)
  have hhb : wb.cell? ⟨b, o, none⟩ = some (.slice A0 m c0) := by
    obtain ⟨b', o', A0', c0', e, hh'⟩ := (hT.below hbl).head (by omega)
    simp only [Option.some.injEq, Addr.mk.injEq, and_true] at e
    obtain ⟨rfl, rfl⟩ := e
    obtain ⟨b2, o2, e2, hb2, _⟩ := hT.2 (by omega)
    simp only [Option.some.injEq, Addr.mk.injEq, and_true] at e2
    obtain ⟨rfl, rfl⟩ := e2
    exact (hbl.cell (p := ⟨b, o, none⟩) hb2).trans hh
  rw [hbb] at hx
  have Hc := Lib.hid (show ∀ W, Qt wb W → W.cell? ⟨bb, 0, none⟩ = some (.slice A1 n c1) ∧ W.cell? ⟨bb, 1, none⟩ = some (.slice A2 n c2) ∧ W.cell? ⟨bb, 2, none⟩ = some (.slice A3 m c3) ∧ W.cell? ⟨bb, 3, none⟩ = some (.int .i64 s) ∧ W.cell? ⟨b, o, none⟩ = some (.slice A0 m c0) from fun W hq => by
    obtain ⟨q, rfl⟩ := hq
    obtain ⟨r0, r1, r2, r3, _⟩ := cells4 (show (wb.drewN q).heap[bb]? = _ from hx)
    exact ⟨r0, r1, r2, r3, hhb⟩)
  have Hok := Lib.hid hok
  have Htot := Lib.hid htot
  have Hpr := Lib.hid hpr
  have Hwb := Lib.hid hwb
  have Hbb := Lib.hid hbb
  clear hR hT h1 h2 h3 hx hbl hok htot hwb hbb hh hhb hB hpr
  go_enter Try.func27, Try.ntmps27
  go_wp2_with fail
  rw [Hwb.out, Hbb.out]
  refine (refTotal_any _ n c m T A1 n c1 (castL l) wb HT.out Hok.out H1.out (by omega)).mono ?_
  rintro e w1 ⟨⟨_, rfl⟩ | ⟨hno, _⟩, hq1⟩
  rotate_left
  · exact absurd Htot.out hno
  obtain ⟨t, ht⟩ : ∃ t, totS T (castL l) n = t := ⟨_, rfl⟩
  rw [ht]
  clear ht
  obtain ⟨r0, r1, r2, r3, r4⟩ := Hc.out w1 hq1
  have Hq1 := Lib.hid hq1
  have g1 : ((n : Int) == (n : Int)) = true := by simp
  have g2 : ((m : Int) == (m : Int)) = true := by simp
  clear hq1
  have hq2 : Qt wb w1.drew := Hq1.out.step 1
  have Hcall := Lib.hid (show Calls Try.prog 45 #[.slice (some ⟨b, o, none⟩) n c, .agg #[.slice A1 n c1, .slice A2 n c2, .slice A3 m c3, .int .i64 s]] w1.drew fun e w' => e = .returned (.bool true) ∧ Below wb.heap.size wb w' from
    (refProves_any _ n c m T A1 A2 A3 c1 c2 c3 (castL l) lu lv s w1.drew (hq2.slr HT.out) Hok.out (hq2.sl H1.out) (hq2.sl H2.out) (hq2.sl H3.out) Htot.out).mono fun e w' h => by
      rcases h.1 with h1 | h1
      · exact ⟨h1.2, hq2.below.trans (h.2.mono hq2.below.size)⟩
      · exact absurd Hpr.out h1.1)
  clear hq2
  go_wp2_with fail
  go_region_with ((go_at_call 45; refine Hcall.out.mono ?_; rintro e w2 ⟨rfl, hb2⟩))
  all_goals
    go_wp2
    first
      | exact Hyes.out _ hb2
      | (refine bodyPost_ret (v := .bool true) ?_ rfl (Hyes.out _ hb2); simp [results, Try.results27, go_sem])
      | (go_ret2; exact Hyes.out _ hb2)
end Go.Proofs.Ytjdhcdoekfikpaa
