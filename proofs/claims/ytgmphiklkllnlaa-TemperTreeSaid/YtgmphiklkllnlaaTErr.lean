/-
  Contracts of temper's priced, Errors and Cost; each states its condition.
-/
import Derived.Test.YtgmphiklkllnlaaTFit
namespace Go.Proofs.Ytgmphiklkllnlaa
open Go.RowKit
theorem ring9 {r : Rg} {A B : Option Addr} {n c m d : Nat} {W : World} {b : Nat} (h : W.heap[b]? = some (.cells #[.int .i64 r.N, .int .i64 r.S, .int .i64 r.low, .int .i64 r.high, .int .i64 r.total, .int .i64 r.pure, .int .i64 r.worst, .slice A n c, .slice B m d] 24)) :
    W.cell? ⟨b, 0, none⟩ = some (.int .i64 r.N) ∧ W.cell? ⟨b, 1, none⟩ = some (.int .i64 r.S) ∧ W.cell? ⟨b, 2, none⟩ = some (.int .i64 r.low) ∧ W.cell? ⟨b, 3, none⟩ = some (.int .i64 r.high) ∧ W.cell? ⟨b, 4, none⟩ = some (.int .i64 r.total) ∧
    W.cell? ⟨b, 5, none⟩ = some (.int .i64 r.pure) ∧ W.cell? ⟨b, 6, none⟩ = some (.int .i64 r.worst) ∧ W.cell? ⟨b, 7, none⟩ = some (.slice A n c) ∧ W.cell? ⟨b, 8, none⟩ = some (.slice B m d) ∧ (∀ j, W.frozen? ⟨b, j, none⟩ = false) := by
  have key : ∀ (j : Nat) (v : Value), (#[.int .i64 r.N, .int .i64 r.S, .int .i64 r.low, .int .i64 r.high, .int .i64 r.total, .int .i64 r.pure, .int .i64 r.worst, .slice A n c, .slice B m d] : Array Value)[j]? = some v → W.cell? ⟨b, j, none⟩ = some v := fun j v hv => by rw [cell_of_row _ _ j _ _ (0, 0) h]; exact hv
  exact ⟨key 0 _ rfl, key 1 _ rfl, key 2 _ rfl, key 3 _ rfl, key 4 _ rfl, key 5 _ rfl, key 6 _ rfl, key 7 _ rfl, key 8 _ rfl, fun j => by simp [World.frozen?, h]⟩
theorem below_drewN {b : Nat} {W W' : World} (h : Below b W W') (q : Nat) : Below b W (W'.drewN q) := ⟨h.os, h.tape, h.output, h.size, h.block⟩
theorem allow_no {r : Rg} {st : List Int} {i : Nat} (hi : i < r.N) (h : inB (r.err st i r.S) (-r.worst) r.worst = false) : r.allowB st = false := by
  cases e : r.allowB st with
  | false => rfl
  | true =>
    have := inB_iff.2 (allowB_iff.1 e i hi)
    rw [this] at h; cases h
/-- What the loop of priced keeps. -/
def Pri (r : Rg) (st : List Int) (k : Nat) (T : Int) : Prop := T = totF (r.one st) 0 k ∧ ∀ i, i < k → -r.worst ≤ r.err st i r.S ∧ r.err st i r.S ≤ r.worst
set_option maxRecDepth 8000 in
set_option maxHeartbeats 4000000 in
theorem priced_any (r : Rg) (hr : r.Ok) (A B D : Option Addr) (n c m d q e : Nat) (st : List Int) (w : World) (hF : SlE intE 1 w A n r.fi) (hT : SlE intE 1 w B m r.th) (hS : SlE intE 1 w D q st) (hf : r.fitsB st = true) :
    Calls Try.prog 63 #[.agg #[.int .i64 r.N, .int .i64 r.S, .int .i64 r.low, .int .i64 r.high, .int .i64 r.total, .int .i64 r.pure, .int .i64 r.worst, .slice A n c, .slice B m d], .slice D q e] w fun en w' => en = .returned (.tuple #[.int .i64 (if r.allowB st = true then r.cost st else 0), .bool (r.allowB st)]) ∧ Below w.heap.size w w' := by
  refine calls_cps ?_
  intro R hR
  have Hok := Lib.hid hr
  obtain ⟨hg, hlen, hsum⟩ := fitsB_iff.1 hf
  have Hg := Lib.hid hg
  have Hq := Lib.hid (hS.1.trans hlen)
  have Hn := Lib.hid (hF.1.trans hr.fl)
  have Hm := Lib.hid (hT.1.trans hr.tl)
  have hq24 : q ≤ 24 := by rw [Hq.out]; exact hr.n2
  have HF := Lib.hid (hF.alloc (.cells #[.int .i64 r.N, .int .i64 r.S, .int .i64 r.low, .int .i64 r.high, .int .i64 r.total, .int .i64 r.pure, .int .i64 r.worst, .slice A n c, .slice B m d] 24))
  have HTh := Lib.hid (hT.alloc (.cells #[.int .i64 r.N, .int .i64 r.S, .int .i64 r.low, .int .i64 r.high, .int .i64 r.total, .int .i64 r.pure, .int .i64 r.worst, .slice A n c, .slice B m d] 24))
  have HS := Lib.hid (hS.alloc (.cells #[.int .i64 r.N, .int .i64 r.S, .int .i64 r.low, .int .i64 r.high, .int .i64 r.total, .int .i64 r.pure, .int .i64 r.worst, .slice A n c, .slice B m d] 24))
  have Hbox := Lib.hid (heap_alloc_new w (.cells #[.int .i64 r.N, .int .i64 r.S, .int .i64 r.low, .int .i64 r.high, .int .i64 r.total, .int .i64 r.pure, .int .i64 r.worst, .slice A n c, .slice B m d] 24))
  have Hno := Lib.hid (show ∀ W', Below (w.heap.size + 1) (w.alloc (.cells #[.int .i64 r.N, .int .i64 r.S, .int .i64 r.low, .int .i64 r.high, .int .i64 r.total, .int .i64 r.pure, .int .i64 r.worst, .slice A n c, .slice B m d] 24)) W' → r.allowB st = false → R (.returned (.tuple #[.int .i64 0, .bool false])) W' from fun W' hb h => hR.out _ _ ⟨by rw [h]; rfl, (below_new w _).trans (hb.mono (by omega))⟩)
  have Hyes := Lib.hid (show ∀ W', Below (w.heap.size + 1) (w.alloc (.cells #[.int .i64 r.N, .int .i64 r.S, .int .i64 r.low, .int .i64 r.high, .int .i64 r.total, .int .i64 r.pure, .int .i64 r.worst, .slice A n c, .slice B m d] 24)) W' → r.allowB st = true → R (.returned (.tuple #[.int .i64 (r.cost st), .bool true])) W' from fun W' hb h => hR.out _ _ ⟨by rw [h]; rfl, (below_new w _).trans (hb.mono (by omega))⟩)
  obtain ⟨n1, n2, s1, s2, s3, l1, l2, h1, h2, t1, t2, p1, p2, w1, w2, fl, tl, fw, tw⟩ := hr
  clear fl tl fw tw hR hg hf hlen hsum hF hT hS
  go_enter Try.func63, Try.ntmps63
  go_wp2_with fail
  go_loopw [6, 12] (fun s6 s12 wr => ∃ (k : Nat) (T : Int), k ≤ q ∧ s12 = .int .i64 k ∧ s6 = .int .i64 T ∧ 0 ≤ T ∧ T ≤ 30000000 * (k : Int) ∧ Hid (Pri r st k T) ∧ Below (w.heap.size + 1) (w.alloc (.cells #[.int .i64 r.N, .int .i64 r.S, .int .i64 r.low, .int .i64 r.high, .int .i64 r.total, .int .i64 r.pure, .int .i64 r.worst, .slice A n c, .slice B m d] 24)) wr) (fun _ i _ => q - (intOf i).toNat)
  case atStart => exact ⟨0, 0, Nat.zero_le _, rfl, rfl, by omega, by omega, Lib.hid ⟨rfl, fun i hi => absurd hi (by omega)⟩, Below.refl _ _⟩
  case round =>
    obtain ⟨k, T, hk, rfl, rfl, T0, T1, HP, hb⟩ := hrel
    obtain ⟨wo, rfl⟩ : ∃ wo : World, wo = wr := ⟨_, rfl⟩
    by_cases hlt : k < q
    · have hkN : k < r.N := by rw [← Hq.out]; exact hlt
      have hbW : Below (w.alloc (.cells #[.int .i64 r.N, .int .i64 r.S, .int .i64 r.low, .int .i64 r.high, .int .i64 r.total, .int .i64 r.pure, .int .i64 r.worst, .slice A n c, .slice B m d] 24)).heap.size (w.alloc (.cells #[.int .i64 r.N, .int .i64 r.S, .int .i64 r.low, .int .i64 r.high, .int .i64 r.total, .int .i64 r.pure, .int .i64 r.worst, .slice A n c, .slice B m d] 24)) wo := by rw [World.size_alloc]; exact hb
      have hbox := below_cells hb (b := w.heap.size) (by omega) Hbox.out
      have hz : w.heap.size < wo.heap.size := (Array.getElem?_eq_some_iff.1 hbox).1
      have hSo := HS.out.below hbW
      have hFo := HF.out.below hbW
      have hTo := HTh.out.below hbW
      obtain ⟨c0, c1, c2, c3, c4, c5, c6, c7, c8, cf⟩ := ring9 hbox
      obtain ⟨bs, os, s, rfl, hbl, hs, s0⟩ := hSo.at1 hlt
      have hs15 := st_15 Hok.out Hg.out s (List.mem_of_getElem? hs)
      have Hs := Lib.hid (getD_some hs)
      clear hs hbW
      go_wp2_with fail
      (with_reducible refine (off_any r Hok.out A B _ n c m d q e st k _ hSo Hq.out Hg.out hkN).mono ?_)
      rintro en w1 ⟨rfl, hb1⟩
      have hbox1 := below_cells hb1 hz hbox
      have hz1 : w.heap.size < w1.heap.size := (Array.getElem?_eq_some_iff.1 hbox1).1
      have hF1 := hFo.below hb1
      have hT1 := hTo.below hb1
      have HB1 := Lib.hid (hb.trans (hb1.mono (show w.heap.size + 1 ≤ wo.heap.size by omega)))
      clear c0 c1 c2 c3 c4 c5 c6 c7 c8 cf s0 hSo hFo hTo hb hb1
      obtain ⟨c0, c1, c2, c3, c4, c5, c6, c7, c8, cf⟩ := ring9 hbox1
      obtain ⟨b1, o1, x, rfl, hbl1, hx, f0⟩ := hF1.at1 (k := k) (by rw [Hn.out]; exact hkN)
      obtain ⟨b2, o2, y, rfl, hbl2, hy, g0⟩ := hT1.at1 (k := k) (by rw [Hm.out]; exact hkN)
      have hkn : (k : Int) < (n : Int) := by have : k < n := (by rw [Hn.out]; exact hkN)
                                             omega
      have hkm : (k : Int) < (m : Int) := by have : k < m := (by rw [Hm.out]; exact hkN)
                                             omega
      obtain ⟨⟨x1, x2⟩, y1, y2⟩ := wt_1000 Hok.out k
      rw [getD_some hx] at x1 x2
      rw [getD_some hy] at y1 y2
      obtain ⟨E1, E2⟩ := err_bd Hok.out Hg.out k r.S s2
      have Hno1 := Lib.hid (fun h => Hno.out _ HB1.out (allow_no hkN h))
      have Hin := Lib.hid (show inB (r.err st k r.S) (-r.worst) r.worst = true → ∀ T', T' = T + (x * s * s + y * (r.err st k r.S) * (r.err st k r.S)) → Pri r st (k + 1) T' from fun h T' hT' => by
        obtain ⟨a, b⟩ := HP.out
        refine ⟨?_, fun i hi => ?_⟩
        · rw [totF_snoc, ← a, hT', Rg.one, getD_some hx, getD_some hy, Hs.out]
        · by_cases e : i = k
          · subst e; exact inB_iff.1 h
          · exact b i (by omega))
      obtain ⟨⟨m1, m2⟩, m3, m4⟩ := wss_bd ⟨x1, x2⟩ hs15 (by omega)
      obtain ⟨⟨m5, m6⟩, m7, m8⟩ := wss_bd ⟨y1, y2⟩ ⟨E1, E2⟩ (by omega)
      clear hx hy hF1 hT1 hbox hbox1
      obtain ⟨E, hE⟩ : ∃ E, r.err st k r.S = E := ⟨_, rfl⟩
      rw [hE] at E1 E2 Hno1 Hin m5 m6 m7 m8 ⊢
      clear hE
      cases hin : inB E (-r.worst) r.worst
      · have Hf := Lib.hid (Hno1.out hin)
        go_wp2_with (first | (go_at_call 57; (with_reducible refine (within_is _ _ _ _ _ (by assumption)).mono ?_); rintro en w' ⟨rfl, rfl⟩))
        exact Hf.out
      · have Hf := Lib.hid (Hin.out hin)
        have u1 : IntKind.i64.wrap (x * s) = x * s := IntWalk.i64_in _ (by omega)
        have u2 : IntKind.i64.wrap (x * s * s) = x * s * s := IntWalk.i64_in _ (by omega)
        have u3 : IntKind.i64.wrap (y * E) = y * E := IntWalk.i64_in _ (by omega)
        have u4 : IntKind.i64.wrap (y * E * E) = y * E * E := IntWalk.i64_in _ (by omega)
        have u5 : IntKind.i64.wrap (x * s * s + y * E * E) = x * s * s + y * E * E := IntWalk.i64_in _ (by omega)
        have u6 : IntKind.i64.wrap (T + (x * s * s + y * E * E)) = T + (x * s * s + y * E * E) := IntWalk.i64_in _ (by omega)
        have hT30 : T + (x * s * s + y * E * E) ≤ 30000000 * ((k + 1 : Nat) : Int) := by omega
        have hT00 : 0 ≤ T + (x * s * s + y * E * E) := by omega
        have Hu := Lib.hid (And.intro u1 (And.intro u2 (And.intro u3 (And.intro u4 (And.intro u5 u6)))))
        clear u1 u2 u3 u4 u5 u6
        go_wp2_with (first | (go_at_call 57; (with_reducible refine (within_is _ _ _ _ _ (by assumption)).mono ?_); rintro en w' ⟨rfl, rfl⟩))
        obtain ⟨u1, u2, u3, u4, u5, u6⟩ := Hu.out
        go_quiet (fail)
        clear u1 u2 u3 u4 u5 u6
        go_wp2_with fail
        exact ⟨⟨k + 1, _, by omega, by go_num, rfl, hT00, hT30, Lib.hid (Hf.out _ rfl), below_drewN HB1.out _⟩, by simp [intOf]; omega⟩
    · obtain rfl : k = q := by omega
      have hP := HP.out
      have Hf := Lib.hid (Hyes.out _ hb (allowB_iff.2 fun i hi => hP.2 i (by rw [Hq.out]; exact hi)))
      rw [Rg.cost, ← Hq.out, ← hP.1] at Hf
      clear hP
      go_wp2
      exact Hf.out
end Go.Proofs.Ytgmphiklkllnlaa
