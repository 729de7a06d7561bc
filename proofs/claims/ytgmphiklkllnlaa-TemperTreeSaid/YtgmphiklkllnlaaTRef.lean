/-
  Contracts of the document's Allowed and Cost; each states its condition.
-/
import Derived.Test.YtgmphiklkllnlaaTCost
import Derived.Deep.RegionHeld3
namespace Go.Proofs.Ytgmphiklkllnlaa
open Go.RowKit
theorem SlE.drew {α : Type} {enc : α → List Value} {sz : Nat} {W : World} {A : Option Addr} {n : Nat} {l : List α} (h : SlE enc sz W A n l) : SlE enc sz W.drew A n l := h
theorem errs_len (r : Rg) (st : List Int) : (r.errs st).length = r.N := by simp [Rg.errs]
theorem errs_get {r : Rg} {st : List Int} {k : Nat} (hk : k < r.N) : (r.errs st)[k]? = some (r.err st k r.S) := by
  unfold Rg.errs
  rw [List.getElem?_map, List.getElem?_range hk]; rfl
theorem all_errs (r : Rg) (A' : Option Addr) (c' : Nat) (st : List Int) (w : World) (hN : r.N ≤ 24) (hS : SlE intE 1 w A' r.N (r.errs st)) :
    Calls Try.prog 46 #[.slice A' r.N c', .int .i64 r.N, .int .i64 (-r.worst), .int .i64 r.worst] w fun e w' => e = .returned (.bool (r.allowB st)) ∧ w = w' := by
  have h := all_any A' r.N c' (r.errs st) (r.N : Int) (-r.worst) r.worst w hS (by omega)
  rw [show (r.errs st).all (fun x => inB x (-r.worst) r.worst) = r.allowB st from errs_all] at h
  simpa using h
set_option maxRecDepth 8000 in
set_option maxHeartbeats 4000000 in
theorem refAllowed_any (r : Rg) (hr : r.Ok) (A B D : Option Addr) (n c m d q e : Nat) (st : List Int) (w : World) (hS : SlE intE 1 w D q st) (hf : r.fitsB st = true) :
    Calls Try.prog 38 #[.agg #[.int .i64 r.N, .int .i64 r.S, .int .i64 r.low, .int .i64 r.high, .int .i64 r.total, .int .i64 r.pure, .int .i64 r.worst, .slice A n c, .slice B m d], .slice D q e] w fun en w' => en = .returned (.bool (r.allowB st)) ∧ Below w.heap.size w w' := by
  refine calls_cps ?_
  intro R hR
  have Hbox := Lib.hid (heap_alloc_new w (.cells #[.int .i64 r.N, .int .i64 r.S, .int .i64 r.low, .int .i64 r.high, .int .i64 r.total, .int .i64 r.pure, .int .i64 r.worst, .slice A n c, .slice B m d] 24))
  obtain ⟨hg, hlen, hsum⟩ := fitsB_iff.1 hf
  have Hg := Lib.hid hg
  have Hq := Lib.hid (hS.1.trans hlen)
  have HS := Lib.hid (hS.alloc (.cells #[.int .i64 r.N, .int .i64 r.S, .int .i64 r.low, .int .i64 r.high, .int .i64 r.total, .int .i64 r.pure, .int .i64 r.worst, .slice A n c, .slice B m d] 24))
  have hN := hr.n2
  have w1 := hr.w1
  have w2 := hr.w2
  obtain ⟨c0, c1, c2, c3, c4, c5, c6, c7, c8, cf⟩ := ring9 Hbox.out
  clear hg hlen hsum hf hS
  go_enter Try.func38, Try.ntmps38
  go_wp2_with fail
  have hwr : IntKind.i64.wrap (-r.worst) = -r.worst := IntWalk.i64_in _ (by omega)
  go_region_held3 (fun w' => w'.cell? ⟨w.heap.size, 0, none⟩ = some (.int .i64 r.N) ∧ w'.cell? ⟨w.heap.size, 1, none⟩ = some (.int .i64 r.S) ∧ w'.cell? ⟨w.heap.size, 2, none⟩ = some (.int .i64 r.low) ∧ w'.cell? ⟨w.heap.size, 3, none⟩ = some (.int .i64 r.high) ∧ w'.cell? ⟨w.heap.size, 4, none⟩ = some (.int .i64 r.total) ∧ w'.cell? ⟨w.heap.size, 5, none⟩ = some (.int .i64 r.pure) ∧ w'.cell? ⟨w.heap.size, 6, none⟩ = some (.int .i64 r.worst) ∧ w'.cell? ⟨w.heap.size, 7, none⟩ = some (.slice A n c) ∧ w'.cell? ⟨w.heap.size, 8, none⟩ = some (.slice B m d)) (first | go_keep | (have hh := ring9 (below_cells ‹Below (w.alloc (.cells #[.int .i64 r.N, .int .i64 r.S, .int .i64 r.low, .int .i64 r.high, .int .i64 r.total, .int .i64 r.pure, .int .i64 r.worst, .slice A n c, .slice B m d] 24)).drew.heap.size (w.alloc (.cells #[.int .i64 r.N, .int .i64 r.S, .int .i64 r.low, .int .i64 r.high, .int .i64 r.total, .int .i64 r.pure, .int .i64 r.worst, .slice A n c, .slice B m d] 24)).drew _› (by simp) Hbox.out); exact ⟨hh.1, hh.2.1, hh.2.2.1, hh.2.2.2.1, hh.2.2.2.2.1, hh.2.2.2.2.2.1, hh.2.2.2.2.2.2.1, hh.2.2.2.2.2.2.2.1, hh.2.2.2.2.2.2.2.2.1⟩))
    (first | (go_at_call 37; (with_reducible refine (refErrors_any r hr A B D n c m d q e st _ HS.out.drew Hq.out Hg.out).mono ?_); rintro en w3 ⟨A3, c3', rfl, ho3, hb3⟩) | (go_at_call 46; (with_reducible refine (all_errs r _ _ st _ hN (SlE.of_own ho3 (errs_len r st).symm)).mono ?_); rintro en w4 ⟨rfl, rfl⟩))
  all_goals
    have Hf := Lib.hid (hR.out _ _ ⟨rfl, below_box ((Below.refl _ _).drew.trans hb3)⟩)
    go_wp2
    exact Hf.out
set_option maxRecDepth 8000 in
set_option maxHeartbeats 4000000 in
theorem refCost_any (r : Rg) (hr : r.Ok) (A B D : Option Addr) (n c m d q e : Nat) (st : List Int) (w : World) (hF : SlE intE 1 w A n r.fi) (hT : SlE intE 1 w B m r.th) (hS : SlE intE 1 w D q st) (hf : r.fitsB st = true) :
    Calls Try.prog 39 #[.agg #[.int .i64 r.N, .int .i64 r.S, .int .i64 r.low, .int .i64 r.high, .int .i64 r.total, .int .i64 r.pure, .int .i64 r.worst, .slice A n c, .slice B m d], .slice D q e] w fun en w' => en = .returned (.int .i64 (r.cost st)) ∧ Below w.heap.size w w' := by
  refine calls_cps ?_
  intro R hR
  have Hok := Lib.hid hr
  have Hbox := Lib.hid (heap_alloc_new w (.cells #[.int .i64 r.N, .int .i64 r.S, .int .i64 r.low, .int .i64 r.high, .int .i64 r.total, .int .i64 r.pure, .int .i64 r.worst, .slice A n c, .slice B m d] 24))
  obtain ⟨hg, hlen, hsum⟩ := fitsB_iff.1 hf
  have Hg := Lib.hid hg
  have Hq := Lib.hid (hS.1.trans hlen)
  have Hn := Lib.hid (hF.1.trans hr.fl)
  have Hm := Lib.hid (hT.1.trans hr.tl)
  have HS := Lib.hid (hS.alloc (.cells #[.int .i64 r.N, .int .i64 r.S, .int .i64 r.low, .int .i64 r.high, .int .i64 r.total, .int .i64 r.pure, .int .i64 r.worst, .slice A n c, .slice B m d] 24))
  have HF := Lib.hid (hF.alloc (.cells #[.int .i64 r.N, .int .i64 r.S, .int .i64 r.low, .int .i64 r.high, .int .i64 r.total, .int .i64 r.pure, .int .i64 r.worst, .slice A n c, .slice B m d] 24))
  have HTh := Lib.hid (hT.alloc (.cells #[.int .i64 r.N, .int .i64 r.S, .int .i64 r.low, .int .i64 r.high, .int .i64 r.total, .int .i64 r.pure, .int .i64 r.worst, .slice A n c, .slice B m d] 24))
  have hN := hr.n2
  have s2 := hr.s2
  clear hg hlen hsum hf hS hF hT
  go_enter Try.func39, Try.ntmps39
  go_wp2_with fail
  (with_reducible refine (refErrors_any r hr A B D n c m d q e st _ HS.out Hq.out Hg.out).mono ?_)
  rintro en w1 ⟨A1, c1', rfl, ho1, hb1⟩
  have hbox1 := below_cells hb1 (by simp) Hbox.out
  obtain ⟨c0, c1, c2, c3, c4, c5, c6, c7, c8, cf⟩ := ring9 hbox1
  have HS1 := Lib.hid (HS.out.below hb1)
  have HF1 := Lib.hid (HF.out.below hb1)
  have HT1 := Lib.hid (HTh.out.below hb1)
  have HE1 := Lib.hid (SlE.of_own ho1 (errs_len r st).symm)
  have Hfin := Lib.hid (show ∀ W', Qt w1 W' → R (.returned (.int .i64 (r.cost st))) W' from fun W' h => hR.out _ _ ⟨rfl, (below_box hb1).trans (h.below.mono (below_box hb1).size)⟩)
  clear hR ho1 hb1 hbox1 hr
  go_wp2_with fail
  go_loopw [6, 7] (fun s6 s7 wr => ∃ (k : Nat) (T : Int), k ≤ r.N ∧ s7 = .int .i64 k ∧ s6 = .int .i64 T ∧ 0 ≤ T ∧ T ≤ 30000000 * (k : Int) ∧ Hid (T = totF (r.one st) 0 k) ∧ Qt w1 wr) (fun _ i _ => r.N - (intOf i).toNat)
  case atStart => exact ⟨0, 0, Nat.zero_le _, rfl, rfl, by omega, by omega, Lib.hid rfl, Qt.refl _⟩
  case round =>
    obtain ⟨k, T, hk, rfl, rfl, T0, T1, HP, hqt⟩ := hrel
    obtain ⟨qq, rfl⟩ := hqt
    have hQ := Lib.hid (show Qt w1 (w1.drewN qq) from ⟨qq, rfl⟩)
    by_cases hlt : k < r.N
    · obtain ⟨bs, os, s, rfl, hbl, hs, s0⟩ := HS1.out.at1 (k := k) (by rw [Hq.out]; exact hlt)
      obtain ⟨b1, o1, x, rfl, hbl1, hx, f0⟩ := HF1.out.at1 (k := k) (by rw [Hn.out]; exact hlt)
      obtain ⟨b2, o2, y, rfl, hbl2, hy, g0⟩ := HT1.out.at1 (k := k) (by rw [Hm.out]; exact hlt)
      obtain ⟨b3, o3, E, rfl, hbl3, hE, e0⟩ := HE1.out.at1 (k := k) hlt
      rw [errs_get hlt] at hE
      have hEe : r.err st k r.S = E := by injection hE
      have hs15 := st_15 Hok.out Hg.out s (List.mem_of_getElem? hs)
      have hkn : (k : Int) < (n : Int) := by have : k < n := (by rw [Hn.out]; exact hlt)
                                             omega
      have hkm : (k : Int) < (m : Int) := by have : k < m := (by rw [Hm.out]; exact hlt)
                                             omega
      have hkq : (k : Int) < (q : Int) := by have : k < q := (by rw [Hq.out]; exact hlt)
                                             omega
      have hkN : (k : Int) < (r.N : Int) := by omega
      have hk0 : (0 : Int) ≤ (k : Int) := by omega
      obtain ⟨⟨x1, x2⟩, y1, y2⟩ := wt_1000 Hok.out k
      rw [getD_some hx] at x1 x2
      rw [getD_some hy] at y1 y2
      obtain ⟨E1, E2⟩ := err_bd Hok.out Hg.out k r.S s2
      rw [hEe] at E1 E2
      have Hin := Lib.hid (show T + (x * s * s + y * E * E) = totF (r.one st) 0 (k + 1) from by
        rw [totF_snoc, ← HP.out, Rg.one, getD_some hx, getD_some hy, getD_some hs, hEe])
      obtain ⟨⟨m1, m2⟩, m3, m4⟩ := wss_bd ⟨x1, x2⟩ hs15 (by omega)
      obtain ⟨⟨m5, m6⟩, m7, m8⟩ := wss_bd ⟨y1, y2⟩ ⟨E1, E2⟩ (by omega)
      have hT30 : T + (x * s * s + y * E * E) ≤ 30000000 * ((k + 1 : Nat) : Int) := by omega
      have hT00 : 0 ≤ T + (x * s * s + y * E * E) := by omega
      have u1 : IntKind.i64.wrap (x * s) = x * s := IntWalk.i64_in _ (by omega)
      have u2 : IntKind.i64.wrap (x * s * s) = x * s * s := IntWalk.i64_in _ (by omega)
      have u3 : IntKind.i64.wrap (y * E) = y * E := IntWalk.i64_in _ (by omega)
      have u4 : IntKind.i64.wrap (y * E * E) = y * E * E := IntWalk.i64_in _ (by omega)
      have u5 : IntKind.i64.wrap (x * s * s + y * E * E) = x * s * s + y * E * E := IntWalk.i64_in _ (by omega)
      have u6 : IntKind.i64.wrap (T + (x * s * s + y * E * E)) = T + (x * s * s + y * E * E) := IntWalk.i64_in _ (by omega)
      have Hu := Lib.hid (And.intro u1 (And.intro u2 (And.intro u3 (And.intro u4 (And.intro u5 u6)))))
      clear u1 u2 u3 u4 u5 u6 hs hx hy hE hEe
      go_wp2_with fail
      obtain ⟨u1, u2, u3, u4, u5, u6⟩ := Hu.out
      go_quiet (fail)
      clear u1 u2 u3 u4 u5 u6
      go_wp2_with fail
      exact ⟨⟨k + 1, _, by omega, by go_num, rfl, hT00, hT30, Lib.hid Hin.out, ⟨_, rfl⟩⟩, by simp [intOf]; omega⟩
    · obtain rfl : k = r.N := by omega
      have Hf := Lib.hid (show R (.returned (.int .i64 T)) _ from by rw [HP.out]; exact Hfin.out _ hQ.out)
      go_wp2
      exact Hf.out
end Go.Proofs.Ytgmphiklkllnlaa
