/-
  Contracts of temper's circle.next and circle.bounds; each states its condition.
-/
import Derived.Test.YtojbldoekalbnaaGreatTEa
namespace Go.Proofs.YtojbldoekalbnaaGreat
open Go.RowKit
theorem circ13 {r : Rg} {A B D : Option Addr} {n c m d q e : Nat} {rv : Value} {W : World} {b : Nat} (h : W.heap[b]? = some (.cells #[.int .i64 r.N, .int .i64 r.S, .int .i64 r.low, .int .i64 r.high, .int .i64 r.total, .int .i64 r.pure, .int .i64 r.worst, .slice A n c, .slice B m d, .slice D q e, .int .i64 (r.codes : Nat), .int .i64 (r.sums : Nat), rv] 83)) :
    W.cell? ⟨b, 0, none⟩ = some (.int .i64 r.N) ∧ W.cell? ⟨b, 1, none⟩ = some (.int .i64 r.S) ∧ W.cell? ⟨b, 2, none⟩ = some (.int .i64 r.low) ∧ W.cell? ⟨b, 3, none⟩ = some (.int .i64 r.high) ∧ W.cell? ⟨b, 4, none⟩ = some (.int .i64 r.total) ∧ W.cell? ⟨b, 5, none⟩ = some (.int .i64 r.pure) ∧ W.cell? ⟨b, 6, none⟩ = some (.int .i64 r.worst) ∧ W.cell? ⟨b, 7, none⟩ = some (.slice A n c) ∧ W.cell? ⟨b, 8, none⟩ = some (.slice B m d) ∧
    W.cell? ⟨b, 9, none⟩ = some (.slice D q e) ∧ W.cell? ⟨b, 10, none⟩ = some (.int .i64 (r.codes : Nat)) ∧ W.cell? ⟨b, 11, none⟩ = some (.int .i64 (r.sums : Nat)) ∧ W.cell? ⟨b, 12, none⟩ = some rv ∧ (∀ j, W.frozen? ⟨b, j, none⟩ = false) := by
  have key : ∀ (j : Nat) (v : Value), (#[.int .i64 r.N, .int .i64 r.S, .int .i64 r.low, .int .i64 r.high, .int .i64 r.total, .int .i64 r.pure, .int .i64 r.worst, .slice A n c, .slice B m d, .slice D q e, .int .i64 (r.codes : Nat), .int .i64 (r.sums : Nat), rv] : Array Value)[j]? = some v → W.cell? ⟨b, j, none⟩ = some v := fun j v hv => by rw [cell_of_row _ _ j _ _ (0, 0) h]; exact hv
  exact ⟨key 0 _ rfl, key 1 _ rfl, key 2 _ rfl, key 3 _ rfl, key 4 _ rfl, key 5 _ rfl, key 6 _ rfl, key 7 _ rfl, key 8 _ rfl, key 9 _ rfl, key 10 _ rfl, key 11 _ rfl, key 12 _ rfl, fun j => by simp [World.frozen?, h]⟩
theorem codes_64 {r : Rg} (hr : r.Ok) : 1 ≤ r.codes ∧ r.codes ≤ 64 := by
  unfold Rg.codes
  have h1 := hr.s1
  have h2 := hr.s2
  obtain e | e | e : r.S = 2 ∨ r.S = 3 ∨ r.S = 4 := by omega
  all_goals rw [e]; decide
theorem offC_bd {r : Rg} (hr : r.Ok) (code : Nat) {a : Int} (ha : r.low ≤ a ∧ a ≤ r.low + 3) : ∀ k, k ≤ 3 → -160 ≤ r.offC code a k ∧ r.offC code a k ≤ 160 := by
  have key : ∀ k : Nat, -(115 + 15 * (k : Int)) ≤ r.offC code a k ∧ r.offC code a k ≤ 115 + 15 * (k : Int) := by
    have h1 := hr.p1
    have h2 := hr.p2
    have h3 := hr.l1
    have h4 := hr.l2
    intro k
    induction k with
    | zero => simp only [Rg.offC]; omega
    | succ k ih =>
      have h := Nat.mod_lt (code / 4 ^ k) (show 4 > 0 by omega)
      rw [Rg.offC]
      omega
  intro k hk
  have := key k
  omega
/-- What a step costs: the third that it ends, and the step. -/
def Rg.priceC (r : Rg) (code t : Nat) (a : Int) : Int :=
  r.th.getD ((t - (r.S - 1)) % r.N) 0 * r.offC code a (r.S - 1) * r.offC code a (r.S - 1) + if t < r.N then r.fi.getD t 0 * a * a else 0
theorem priceC_bd {r : Rg} (hr : r.Ok) (code t : Nat) {a : Int} (ha : r.low ≤ a ∧ a ≤ r.low + 3) : 0 ≤ r.priceC code t a ∧ r.priceC code t a ≤ 30000000 := by
  have h1 := hr.l1
  have h2 := hr.l2
  have h3 := hr.s2
  have ho := offC_bd hr code ha (r.S - 1) (by omega)
  have k1 := (wss_bd (wt_1000 hr ((t - (r.S - 1)) % r.N)).2 ho (by omega)).2
  have k2 := (wss_bd (S := 15) (wt_1000 hr t).1 (show -15 ≤ a ∧ a ≤ 15 by omega) (by omega)).2
  unfold Rg.priceC
  split <;> omega
set_option maxRecDepth 8000 in
set_option maxHeartbeats 4000000 in
theorem next_any (r : Rg) (hr : r.Ok) (A B D : Option Addr) (n c m d q e : Nat) (rv : Value) (b code t : Nat) (a : Int) (w : World) (hC : w.heap[b]? = some (.cells #[.int .i64 r.N, .int .i64 r.S, .int .i64 r.low, .int .i64 r.high, .int .i64 r.total, .int .i64 r.pure, .int .i64 r.worst, .slice A n c, .slice B m d, .slice D q e, .int .i64 (r.codes : Nat), .int .i64 (r.sums : Nat), rv] 83)) (hF : SlE intE 1 w A n r.fi) (hT : SlE intE 1 w B m r.th)
    (hcode : code < r.codes) (ht1 : r.S ≤ t + 1) (ht2 : t + 1 < r.N + r.S) (ha : r.low ≤ a ∧ a ≤ r.low + 3) :
    Calls Tryz.prog 83 #[.pointer (some ⟨b, 0, none⟩), .int .i64 (code : Nat), .int .i64 (t : Nat), .int .i64 a] w fun en w' =>
      en = .returned (.tuple #[.int .i64 (((code * 4 + (a - r.low).toNat) % r.codes : Nat) : Int), .int .i64 (r.priceC code t a), .bool (inB (r.offC code a (r.S - 1)) (-r.worst) r.worst)]) ∧ Below w.heap.size w w' := by
  refine calls_cps ?_
  intro R hR
  have Hfin := Lib.hid (show ∀ W' P E, Below (w.heap.size + 1) (w.alloc (.cells #[.int .i64 r.N, .int .i64 r.S, .int .i64 r.low, .int .i64 r.high, .int .i64 r.total, .int .i64 r.pure, .int .i64 r.worst, .slice A n c, .slice B m d] 50)) W' → P = r.priceC code t a → E = r.offC code a (r.S - 1) → R (.returned (.tuple #[.int .i64 (((code * 4 + (a - r.low).toNat) % r.codes : Nat) : Int), .int .i64 P, .bool (inB E (-r.worst) r.worst)])) W' from fun W' P E hb hp he => by
    rw [he, hp]
    exact hR.out _ _ ⟨rfl, (below_new w _).trans (hb.mono (by omega))⟩)
  clear hR
  have Hok := Lib.hid hr
  have Hn := Lib.hid (hF.1.trans hr.fl)
  have Hm := Lib.hid (hT.1.trans hr.tl)
  obtain ⟨hc1, hc2⟩ := codes_64 hr
  have Ha := Lib.hid ha
  obtain ⟨a1, a2⟩ := ha
  have hbl : b < w.heap.size := (Array.getElem?_eq_some_iff.1 hC).1
  have Hoff := Lib.hid (fun k hk => offC_bd hr code Ha.out k hk)
  have Hwt := Lib.hid (fun i => wt_1000 hr i)
  obtain ⟨c0, c1, c2, c3, c4, c5, c6, c7, c8, c9, c10, c11, c12, cf⟩ := circ13 hC
  obtain ⟨n1, n2, s1, s2, s3, l1, l2, h1, h2, t1, t2, p1, p2, w1, w2, fl, tl, fw, tw⟩ := hr
  clear fl tl fw tw
  go_enter Tryz.func83, Tryz.ntmps83
  go_wp2_with fail
  go_loop [12, 13, 14] (fun s12 s13 s14 => ∃ (k X : Nat) (E : Int), k + 1 ≤ r.S ∧ s13 = .int .i64 (k : Nat) ∧ s14 = .int .i64 (X : Nat) ∧ X ≤ 64 ∧ s12 = .int .i64 E ∧ -160 ≤ E ∧ E ≤ 160 ∧ Hid (X = code / 4 ^ k ∧ E = r.offC code a k)) (fun _ i _ => r.S - (intOf i).toNat)
  case atStart => exact ⟨0, code, r.pure - a, by omega, rfl, rfl, by omega, rfl, by omega, by omega, Lib.hid ⟨by simp, rfl⟩⟩
  case round =>
    obtain ⟨k, X, E, hk, rfl, rfl, hX, rfl, E1, E2, HX⟩ := hrel
    by_cases hlt : k + 1 < r.S
    · have hb := Hoff.out (k + 1) (by omega)
      have he : r.offC code a (k + 1) = E - ((X : Int) % 4 + r.low) := by rw [Rg.offC, ← HX.out.2, ← HX.out.1]; simp
      rw [he] at hb
      have HX2 := Lib.hid (And.intro (show X / 4 = code / 4 ^ (k + 1) by rw [HX.out.1, Nat.div_div_eq_div_mul, Nat.pow_succ]) he.symm)
      clear he
      go_wp2_with fail
      exact ⟨⟨k + 1, X / 4, E - ((X : Int) % 4 + r.low), by omega, by go_num, by simp, by omega, rfl, by omega, by omega, HX2⟩, by simp [intOf]; omega⟩
    · obtain ⟨k', hk'⟩ : ∃ k', r.S = k' + 1 := ⟨r.S - 1, by omega⟩
      have hkk : k = r.S - 1 := by omega
      have HE := Lib.hid (show E = r.offC code a (r.S - 1) by rw [HX.out.2, hkk])
      obtain ⟨J, hJ⟩ : ∃ J, (t - (r.S - 1)) % r.N = J := ⟨_, rfl⟩
      have hJN : J < r.N := by rw [← hJ]; exact Nat.mod_lt _ (by omega)
      have hJi : ((t : Int) - (r.S : Int) + 1) % (r.N : Int) = (J : Int) := by
        rw [← hJ, show (t : Int) - (r.S : Int) + 1 = ((t - (r.S - 1) : Nat) : Int) by omega]; simp
      have hJt : ((t : Int) - (r.S : Int) + 1).tmod (r.N : Int) = (J : Int) := by
        rw [Int.tmod_eq_emod_of_nonneg (by omega), hJi]
      obtain ⟨b2, o2, y, rfl, hbl2, hy, g0⟩ := hT.at1 (k := J) (by rw [Hm.out]; exact hJN)
      have hyb := (Hwt.out J).2
      rw [getD_some hy] at hyb
      obtain ⟨⟨m5, m6⟩, m7, m8⟩ := wss_bd hyb ⟨E1, E2⟩ (by omega)
      have hJm : (J : Int) < (m : Int) := by have : J < m := (by rw [Hm.out]; exact hJN)
                                             omega
      have hJ0 : (0 : Int) ≤ (J : Int) := by omega
      have HP := Lib.hid (show r.priceC code t a = y * E * E + if t < r.N then r.fi.getD t 0 * a * a else 0 by unfold Rg.priceC; rw [← HE.out, hJ, getD_some hy])
      have Hfin := Lib.hid (fun W' P hb hp => Hfin.out W' P E hb hp HE.out)
      obtain ⟨Z, hZ⟩ : ∃ Z, (code * 4 + (a - r.low).toNat) % r.codes = Z := ⟨_, rfl⟩
      rw [hZ] at Hfin
      have hZi : ((code : Int) * 4 + a - r.low) % (r.codes : Int) = (Z : Int) := by
        rw [← hZ, show (code : Int) * 4 + a - r.low = ((code * 4 + (a - r.low).toNat : Nat) : Int) by omega]; simp
      have hZt : ((code : Int) * 4 + a - r.low).tmod (r.codes : Int) = (Z : Int) := by
        rw [Int.tmod_eq_emod_of_nonneg (by omega), hZi]
      have hu1 : IntKind.i64.wrap ((t : Int) - (r.S : Int)) = (t : Int) - (r.S : Int) := IntWalk.i64_in _ (by omega)
      have hu2 : IntKind.i64.wrap ((t : Int) - (r.S : Int) + 1) = (t : Int) - (r.S : Int) + 1 := IntWalk.i64_in _ (by omega)
      have hu3 : IntKind.i64.wrap (y * E) = y * E := IntWalk.i64_in _ (by omega)
      have hu4 : IntKind.i64.wrap (y * E * E) = y * E * E := IntWalk.i64_in _ (by omega)
      have hv1 : IntKind.i64.wrap ((code : Int) * 4) = (code : Int) * 4 := IntWalk.i64_in _ (by omega)
      have hv2 : IntKind.i64.wrap ((code : Int) * 4 + a) = (code : Int) * 4 + a := IntWalk.i64_in _ (by omega)
      have hv3 : IntKind.i64.wrap ((code : Int) * 4 + a - r.low) = (code : Int) * 4 + a - r.low := IntWalk.i64_in _ (by omega)
      have hv4 : IntKind.i64.wrap (-r.worst) = -r.worst := IntWalk.i64_in _ (by omega)
      have hv5 : IntKind.i64.wrap (J : Int) = J := IntWalk.i64_in _ (by omega)
      have hv6 : IntKind.i64.wrap (Z : Int) = Z := IntWalk.i64_in _ (by have := Nat.mod_lt (code * 4 + (a - r.low).toNat) (show 0 < r.codes by omega); omega)
      have Hu := Lib.hid (And.intro hu1 (And.intro hu2 (And.intro hu3 (And.intro hu4 (And.intro hJt (And.intro hJi hv5))))))
      have Hv := Lib.hid (And.intro hv1 (And.intro hv2 (And.intro hv3 (And.intro hv4 (And.intro hZt (And.intro hZi hv6))))))
      clear hu1 hu2 hu3 hu4 hv1 hv2 hv3 hv4 hv5 hv6 hJt hJi hZt hZi hZ hJ hy hkk hk'
      by_cases hN : t < r.N
      · obtain ⟨b1, o1, x, rfl, hbl1, hx, f0⟩ := hF.at1 (k := t) (by rw [Hn.out]; exact hN)
        have hxb := (Hwt.out t).1
        rw [getD_some hx] at hxb
        obtain ⟨⟨m1, m2⟩, m3, m4⟩ := wss_bd (s := a) (S := 15) hxb (by omega) (by omega)
        have htn : (t : Int) < (n : Int) := by have : t < n := (by rw [Hn.out]; exact hN)
                                               omega
        have HP2 := Lib.hid (show y * E * E + x * a * a = r.priceC code t a by rw [HP.out, if_pos hN, getD_some hx])
        clear hx HP
        have hu5 : IntKind.i64.wrap (x * a) = x * a := IntWalk.i64_in _ (by omega)
        have hu6 : IntKind.i64.wrap (x * a * a) = x * a * a := IntWalk.i64_in _ (by omega)
        have hu7 : IntKind.i64.wrap (y * E * E + x * a * a) = y * E * E + x * a * a := IntWalk.i64_in _ (by omega)
        have Hu2 := Lib.hid (And.intro hu5 (And.intro hu6 hu7))
        clear hu5 hu6 hu7
        go_wp2_with fail
        obtain ⟨hu1, hu2, hu3, hu4, hJt, hJi, hv5⟩ := Hu.out
        go_quiet (fail)
        clear hu1 hu2 hu3 hu4 hJt hJi hv5
        go_wp2_with fail
        have Hf := Lib.hid (fun q q' => Hfin.out _ _ (below_drewN (below_drewN (Below.refl _ _) q) q') HP2.out)
        clear Hfin
        obtain ⟨hv1, hv2, hv3, hv4, hZt, hZi, hv6⟩ := Hv.out
        go_quiet ((go_at_call 44; exact (within_any _ _ _ _).mono fun _ _ ⟨h1, h2⟩ => ⟨h1, _, h2.symm⟩))
        clear hv1 hv2 hv3 hv4 hZt hZi hv6
        go_wp2_with fail
        go_ret3
        exact Hf.out _ _
      · have HP2 := Lib.hid (show y * E * E = r.priceC code t a by rw [HP.out, if_neg hN, Int.add_zero])
        clear HP
        go_wp2_with fail
        obtain ⟨hu1, hu2, hu3, hu4, hJt, hJi, hv5⟩ := Hu.out
        go_quiet (fail)
        clear hu1 hu2 hu3 hu4 hJt hJi hv5
        go_wp2_with fail
        have Hf := Lib.hid (fun q q' => Hfin.out _ _ (below_drewN (below_drewN (Below.refl _ _) q) q') HP2.out)
        clear Hfin
        obtain ⟨hv1, hv2, hv3, hv4, hZt, hZi, hv6⟩ := Hv.out
        go_quiet ((go_at_call 44; exact (within_any _ _ _ _).mono fun _ _ ⟨h1, h2⟩ => ⟨h1, _, h2.symm⟩))
        clear hv1 hv2 hv3 hv4 hZt hZi hv6
        go_wp2_with fail
        go_ret3
        exact Hf.out _ _
set_option maxRecDepth 8000 in
set_option maxHeartbeats 4000000 in
theorem bounds_any (r : Rg) (hr : r.Ok) (A B D : Option Addr) (n c m d q e : Nat) (rv : Value) (first : List Int) (b t : Nat) (w : World) (hC : w.heap[b]? = some (.cells #[.int .i64 r.N, .int .i64 r.S, .int .i64 r.low, .int .i64 r.high, .int .i64 r.total, .int .i64 r.pure, .int .i64 r.worst, .slice A n c, .slice B m d, .slice D q e, .int .i64 (r.codes : Nat), .int .i64 (r.sums : Nat), rv] 83)) (hS : SlE intE 1 w D q first) (hq : q + 1 = r.S)
    (ht2 : t + 1 < r.N + r.S) :
    Calls Tryz.prog 124 #[.pointer (some ⟨b, 0, none⟩), .int .i64 (t : Nat)] w fun en w' =>
      en = .returned (.tuple #[.int .i64 ((r.lay first).lo t), .int .i64 ((r.lay first).hi t)]) ∧ Qt w w' := by
  refine calls_cps ?_
  intro R hR
  have Hq := Lib.hid hq
  have hN := hr.n2
  have hS4 := hr.s2
  obtain ⟨c0, c1, c2, c3, c4, c5, c6, c7, c8, c9, c10, c11, c12, cf⟩ := circ13 hC
  by_cases hlt : t < r.N
  · have Hf := Lib.hid (show ∀ x, R (.returned (.tuple #[.int .i64 r.low, .int .i64 r.high])) (w.drewN x) from fun x => hR.out _ _ ⟨by simp [Rg.lay, hlt], ⟨x, rfl⟩⟩)
    clear hR hq
    go_enter Tryz.func124, Tryz.ntmps124
    go_wp2_with fail
    go_quiet (fail)
    go_wp2_with fail
    exact Hf.out _
  · obtain ⟨j, rfl⟩ : ∃ j, t = r.N + j := ⟨t - r.N, by omega⟩
    have hj : j < q := by omega
    obtain ⟨bs, os, x, rfl, hbl, hx, s0⟩ := hS.at1 hj
    have Hf := Lib.hid (show ∀ y, R (.returned (.tuple #[.int .i64 x, .int .i64 x])) (w.drewN y) from fun y => hR.out _ _ ⟨by simp only [Rg.lay]; rw [if_neg hlt, if_neg hlt, Nat.add_sub_cancel_left, getD_some hx], ⟨y, rfl⟩⟩)
    have hu1 : IntKind.i64.wrap (((r.N + j : Nat) : Int) - (r.N : Int)) = (j : Int) := by rw [show ((r.N + j : Nat) : Int) - (r.N : Int) = (j : Int) by omega]; exact IntWalk.i64_in _ (by omega)
    have hu2 : ((r.N + j : Nat) : Int) - (r.N : Int) = (j : Int) := by omega
    have hu4 : (r.N : Int) + (j : Int) - (r.N : Int) = (j : Int) := by omega
    have hu3 : IntKind.i64.wrap ((r.N : Int) + (j : Int) - (r.N : Int)) = (j : Int) := by rw [hu4]; exact IntWalk.i64_in _ (by omega)
    have hj1 : (j : Int) < (q : Int) := by omega
    have hj0 : (0 : Int) ≤ (j : Int) := by omega
    have Hu := Lib.hid (And.intro hu1 (And.intro hu2 (And.intro hu3 hu4)))
    clear hR hq hx hu1 hu2 hu3 hu4
    go_enter Tryz.func124, Tryz.ntmps124
    go_wp2_with fail
    obtain ⟨hu1, hu2, hu3, hu4⟩ := Hu.out
    go_quiet (fail)
    clear hu1 hu2 hu3 hu4
    go_wp2_with fail
    exact Hf.out _
end Go.Proofs.YtojbldoekalbnaaGreat
