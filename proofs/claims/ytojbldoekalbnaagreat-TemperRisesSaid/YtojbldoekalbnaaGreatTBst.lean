/-
  The contract of temper's circle.best: the least cost of all that is behind, and the least step that leads to it; condition: the table's next row holds the least costs of the next place.
-/
import Derived.Test.YtojbldoekalbnaaGreatTNext
namespace Go.Proofs.YtojbldoekalbnaaGreat
open Go.RowKit
/-- The table's row at a place: for each code and sum the least cost of so many layers. -/
def Rg.rowV (r : Rg) (first : List Int) (n t : Nat) : List Int := (List.range (r.codes * r.sums)).map fun i => (r.lay first).val n t (i / r.sums, i % r.sums)
theorem idx_lt {y up C S : Nat} (hy : y < C) (hu : up < S) : y * S + up < C * S := by
  have h : (y + 1) * S ≤ C * S := Nat.mul_le_mul_right S hy
  rw [Nat.add_mul, Nat.one_mul] at h
  omega
theorem rowV_get {r : Rg} {first : List Int} {n t y up : Nat} (hy : y < r.codes) (hu : up < r.sums) : (r.rowV first n t)[y * r.sums + up]? = some ((r.lay first).val n t (y, up)) := by
  have h := idx_lt hy hu
  unfold Rg.rowV
  rw [List.getElem?_map, List.getElem?_range h, Option.map_some, Nat.add_comm (y * r.sums), Nat.add_mul_div_right _ _ (by omega), Nat.add_mul_mod_self_right, Nat.div_eq_of_lt hu, Nat.mod_eq_of_lt hu, Nat.zero_add]
theorem lay_tr {r : Rg} {first : List Int} {t code sum : Nat} {a : Int} : (r.lay first).tr t (code, sum) a =
    if -r.worst ≤ r.offC code a (r.S - 1) ∧ r.offC code a (r.S - 1) ≤ r.worst ∧ (if t < r.N then sum + (a - r.low).toNat else sum) < r.sums then
      some (((code * 4 + (a - r.low).toNat) % r.codes, if t < r.N then sum + (a - r.low).toNat else sum), r.priceC code t a) else none := rfl
/-- The range of the steps at a place. -/
theorem lay_rng {r : Rg} (hr : r.Ok) {first : List Int} (hf : first.length + 1 = r.S) (hg : ∀ x ∈ first, r.low ≤ x ∧ x ≤ r.high) {t : Nat} (ht : t + 1 < r.N + r.S) :
    (r.low ≤ (r.lay first).lo t ∧ (r.lay first).hi t ≤ r.low + 3) ∧ (r.lay first).lo t ≤ (r.lay first).hi t := by
  have h1 := hr.h1
  have h2 := hr.h2
  simp only [Rg.lay]
  by_cases c : t < r.N
  · rw [if_pos c, if_pos c]; omega
  · rw [if_neg c, if_neg c]
    have hi : t - r.N < first.length := by omega
    have := hg _ (List.getElem_mem hi)
    rw [List.getD_eq_getElem?_getD, List.getElem?_eq_getElem hi]
    simp only [Option.getD_some]
    omega
theorem pick_bd {σ : Type} {Y : Lay σ} {val : σ → Int} {t : Nat} {s : σ} {B : Int} {lo hi : Int} (hB : -1 ≤ B)
    (h : ∀ a s' p, lo ≤ a → a ≤ hi → Y.tr t s a = some (s', p) → 0 ≤ val s' → 0 ≤ p + val s' ∧ p + val s' ≤ B) :
    ∀ (n : Nat) (a : Int) (b : Int × Int), lo ≤ a → a + n ≤ hi + 1 → -1 ≤ b.1 ∧ b.1 ≤ B → -1 ≤ (Y.pick val t s n a b).1 ∧ (Y.pick val t s n a b).1 ≤ B
  | 0, _, _, _, _, hb => hb
  | n + 1, a, b, h1, h2, hb => by
    rw [Lay.pick]
    refine pick_bd hB h n (a + 1) _ (by omega) (by omega) ?_
    cases htr : Y.tr t s a with
    | none => exact hb
    | some z =>
      obtain ⟨s1, p1⟩ := z
      dsimp only
      split
      · rename_i hc
        have := h a s1 p1 h1 (by omega) htr hc.1
        dsimp only
        omega
      · exact hb
theorem val_bd {r : Rg} (hr : r.Ok) {first : List Int} (hf : first.length + 1 = r.S) (hg : ∀ x ∈ first, r.low ≤ x ∧ x ≤ r.high) :
    ∀ (n t : Nat) (s : Nat × Nat), n + t + 1 ≤ r.N + r.S → -1 ≤ (r.lay first).val n t s ∧ (r.lay first).val n t s ≤ 30000000 * (n : Int)
  | 0, t, s, _ => by rw [Lay.val]; split <;> omega
  | n + 1, t, s, h => by
    rw [Lay.val]
    obtain ⟨⟨l1, l2⟩, l3⟩ := lay_rng hr hf hg (t := t) (by omega)
    refine pick_bd (lo := (r.lay first).lo t) (hi := (r.lay first).hi t) (by omega) (fun a s' p ha1 ha2 htr h0 => ?_) _ _ _ (Int.le_refl _) (by unfold Lay.cnt; omega) (by dsimp only; omega)
    have hv := val_bd hr hf hg n (t + 1) s' (by omega)
    obtain ⟨c, sm⟩ := s
    rw [lay_tr] at htr
    by_cases hc : -r.worst ≤ r.offC c a (r.S - 1) ∧ r.offC c a (r.S - 1) ≤ r.worst ∧ (if t < r.N then sm + (a - r.low).toNat else sm) < r.sums
    · rw [if_pos hc] at htr
      simp only [Option.some.injEq, Prod.mk.injEq] at htr
      have hp := priceC_bd hr c t (a := a) (by omega)
      rw [htr.2] at hp
      omega
    · rw [if_neg hc] at htr; cases htr
/-- The search among the steps, at the head of its loop. -/
def BstI (r : Rg) (first : List Int) (n t code sum : Nat) (a l wh : Int) : Prop :=
  (r.lay first).pick ((r.lay first).val n (t + 1)) t (code, sum) ((r.lay first).hi t - a + 1).toNat a (l, wh) = (r.lay first).best n t (code, sum)
theorem BstI.skip {r : Rg} {first : List Int} {n t code sum : Nat} {a l wh : Int} (h : BstI r first n t code sum a l wh) (ha : a ≤ (r.lay first).hi t) (htr : (r.lay first).tr t (code, sum) a = none) :
    BstI r first n t code sum (a + 1) l wh := by
  unfold BstI at *
  rw [show ((r.lay first).hi t - a + 1).toNat = ((r.lay first).hi t - (a + 1) + 1).toNat + 1 by omega, Lay.pick, htr] at h
  exact h
theorem BstI.step {r : Rg} {first : List Int} {n t code sum : Nat} {a l wh : Int} (h : BstI r first n t code sum a l wh) (ha : a ≤ (r.lay first).hi t) {s' : Nat × Nat} {p v : Int} (htr : (r.lay first).tr t (code, sum) a = some (s', p))
    (hv : (r.lay first).val n (t + 1) s' = v) (l' wh' : Int) (he : (if 0 ≤ v ∧ (l < 0 ∨ p + v < l) then (p + v, a) else (l, wh)) = (l', wh')) :
    BstI r first n t code sum (a + 1) l' wh' := by
  subst hv
  unfold BstI at *
  rw [show ((r.lay first).hi t - a + 1).toNat = ((r.lay first).hi t - (a + 1) + 1).toNat + 1 by omega, Lay.pick, htr] at h
  rw [← he]
  exact h
theorem BstI.fin {r : Rg} {first : List Int} {n t code sum : Nat} {a l wh : Int} (h : BstI r first n t code sum a l wh) (ha : (r.lay first).hi t < a) : (r.lay first).best n t (code, sum) = (l, wh) := by
  unfold BstI at h
  rw [show ((r.lay first).hi t - a + 1).toNat = 0 by omega, Lay.pick] at h
  exact h.symm
set_option maxRecDepth 8000 in
set_option maxHeartbeats 8000000 in
theorem best_any (r : Rg) (hr : r.Ok) (A B D : Option Addr) (n c m d q e : Nat) (first : List Int) (hg : ∀ x ∈ first, r.low ≤ x ∧ x ≤ r.high) (b rb g L K z code sum t : Nat) (w : World)
    (hC : w.heap[b]? = some (.cells #[.int .i64 r.N, .int .i64 r.S, .int .i64 r.low, .int .i64 r.high, .int .i64 r.total, .int .i64 r.pure, .int .i64 r.worst, .slice A n c, .slice B m d, .slice D q e, .int .i64 (r.codes : Nat), .int .i64 (r.sums : Nat), .slice (some ⟨rb, 0, none⟩) L L] 83))
    (hF : SlE intE 1 w A n r.fi) (hT : SlE intE 1 w B m r.th) (hS : SlE intE 1 w D q first) (hq : q + 1 = r.S)
    (hrow : w.cell? ⟨rb, t + 1, none⟩ = some (.slice (some ⟨g, 0, none⟩) K K)) (hK : K = r.codes * r.sums) (hL : L = r.N + r.S) (hV : SlE intE 1 w (some ⟨g, 0, none⟩) K (r.rowV first z (t + 1))) (hz : z + t + 2 = r.N + r.S)
    (hcode : code < r.codes) (hsum : sum < r.sums) (ht1 : r.S ≤ t + 1) :
    Calls Tryz.prog 82 #[.pointer (some ⟨b, 0, none⟩), .int .i64 (code : Nat), .int .i64 (sum : Nat), .int .i64 (t : Nat)] w fun en w' =>
      en = .returned (.tuple #[.int .i64 ((r.lay first).best z t (code, sum)).1, .int .i64 ((r.lay first).best z t (code, sum)).2]) ∧ Below w.heap.size w w' := by
  refine calls_cps ?_
  intro R hR
  have Hok := Lib.hid hr
  have ht2 : t + 1 < r.N + r.S := by omega
  have hfl : first.length + 1 = r.S := by rw [← hS.1]; exact hq
  obtain ⟨⟨l1, l2⟩, l3⟩ := lay_rng hr hfl hg ht2
  have Hvb := Lib.hid (fun s => val_bd hr hfl hg z (t + 1) s (by omega))
  have Hpb := Lib.hid (fun a (ha : r.low ≤ a ∧ a ≤ r.low + 3) => priceC_bd hr code t ha)
  obtain ⟨hc1, hc2⟩ := codes_64 hr
  have hsm : r.sums ≤ 73 := by have := hr.n2; unfold Rg.sums; omega
  have hN24 := hr.n2
  have hS4 := hr.s2
  have hS2 := hr.s1
  have w1 := hr.w1
  have w2 := hr.w2
  have r1 := hr.l1
  have r2 := hr.l2
  have hbl : b < w.heap.size := (Array.getElem?_eq_some_iff.1 hC).1
  have hrbl : rb < w.heap.size := World.block_lt_of_cell? w _ hrow
  have HC := Lib.hid hC
  have HF := Lib.hid hF
  have HT := Lib.hid hT
  have HV := Lib.hid hV
  have Hrow := Lib.hid hrow
  have HK := Lib.hid hK
  have HL := Lib.hid hL
  have hzb : (z : Int) ≤ 27 := by omega
  clear hfl hg hF hT hV hrow hK hz hr hL
  obtain ⟨Lo, hLo⟩ : ∃ x, (r.lay first).lo t = x := ⟨_, rfl⟩
  obtain ⟨Hi, hHi⟩ : ∃ x, (r.lay first).hi t = x := ⟨_, rfl⟩
  have Hbst := Lib.hid (show BstI r first z t code sum Lo (-1) 0 by unfold BstI Lay.best Lay.cnt; rw [hLo])
  have HLo := Lib.hid hLo
  have HHi := Lib.hid hHi
  rw [hLo, hHi] at l3
  rw [hLo] at l1
  rw [hHi] at l2
  clear hLo hHi
  go_enter Tryz.func82, Tryz.ntmps82
  go_wp2_with fail
  (with_reducible refine (bounds_any r Hok.out A B D n c m d q e (.slice (some ⟨rb, 0, none⟩) L L) first b t _ hC hS hq ht2).mono ?_)
  rintro en w3 ⟨rfl, hq3⟩
  rw [HLo.out, HHi.out]
  have Hb3 := Lib.hid hq3.below
  clear hq3 hC hS hq
  go_wp2_with fail
  go_loopw [10, 11, 14] (fun s10 s11 s14 wr => ∃ a l wh : Int, s10 = .int .i64 l ∧ s11 = .int .i64 wh ∧ s14 = .int .i64 a ∧ Lo ≤ a ∧ a ≤ Hi + 1 ∧ -1 ≤ l ∧ l ≤ 1000000000 ∧ Hid (BstI r first z t code sum a l wh) ∧ Below w.heap.size w wr) (fun _ _ s14 _ => (Hi + 1 - intOf s14).toNat)
  case atStart => exact ⟨Lo, -1, 0, rfl, rfl, rfl, Int.le_refl _, by omega, by omega, by omega, Hbst, Hb3.out⟩
  case round =>
    obtain ⟨a, l, wh, rfl, rfl, rfl, a1, a2, k1, k2, HI, hb⟩ := hrel
    obtain ⟨wo, rfl⟩ : ∃ wo : World, wo = wr := ⟨_, rfl⟩
    by_cases hlt : a ≤ Hi
    · have har : r.low ≤ a ∧ a ≤ r.low + 3 := by omega
      have Hskip := Lib.hid (fun h => HI.out.skip (by rw [HHi.out]; exact hlt) h)
      have Hstep := Lib.hid (fun (s' : Nat × Nat) (p v : Int) htr hv => HI.out.step (by rw [HHi.out]; exact hlt) (s' := s') (p := p) (v := v) htr hv)
      go_wp2_with fail
      (with_reducible refine (next_any r Hok.out A B D n c m d q e (.slice (some ⟨rb, 0, none⟩) L L) b code t a _ (below_cells hb hbl HC.out) (HF.out.below hb) (HT.out.below hb) hcode ht1 ht2 har).mono ?_)
      rintro en w4 ⟨rfl, hb4⟩
      have HB4 := Lib.hid (hb.trans (hb4.mono hb.size))
      obtain ⟨c0, c1, c2, c3, c4, c5, c6, c7, c8, c9, c10, c11, c12, cf⟩ := circ13 (below_cells HB4.out hbl HC.out)
      have q0 := (HB4.out.cell (p := ⟨rb, t + 1, none⟩) hrbl).trans Hrow.out
      obtain ⟨p1, p2⟩ := Hpb.out a har
      obtain ⟨P, hP⟩ : ∃ P, r.priceC code t a = P := ⟨_, rfl⟩
      obtain ⟨Z, hZ⟩ : ∃ Z, (code * 4 + (a - r.low).toNat) % r.codes = Z := ⟨_, rfl⟩
      have hZc : Z < r.codes := by rw [← hZ]; exact Nat.mod_lt _ (by omega)
      obtain ⟨E, hE⟩ : ∃ E, r.offC code a (r.S - 1) = E := ⟨_, rfl⟩
      have Htr := Lib.hid (lay_tr (r := r) (first := first) (t := t) (code := code) (sum := sum) (a := a))
      rw [hP, hZ, hE] at Htr
      rw [hP, hZ, hE]
      rw [hP] at p1 p2
      clear hP hZ hE hb hb4
      cases hok : inB E (-r.worst) r.worst
      · have hno : ¬ (-r.worst ≤ E ∧ E ≤ r.worst) := fun h => by rw [inB_iff.2 h] at hok; cases hok
        have Hn := Lib.hid (Hskip.out (by rw [Htr.out, if_neg (fun h => hno ⟨h.1, h.2.1⟩)]))
        clear hok hno
        by_cases hN : t < r.N
        all_goals
          go_wp2_with fail
          exact ⟨⟨a + 1, l, wh, rfl, rfl, rfl, by omega, by omega, k1, k2, Lib.hid Hn.out, HB4.out⟩, by simp [intOf]; omega⟩
      · obtain ⟨o1, o2⟩ := inB_iff.1 hok
        clear hok
        by_cases hN : t < r.N
        · have hUi : (sum : Int) + (a - r.low) = ((sum + (a - r.low).toNat : Nat) : Int) := by omega
          have Htr := Lib.hid (Htr.out.trans (by rw [if_pos hN]))
          obtain ⟨U, hU⟩ : ∃ U, sum + (a - r.low).toNat = U := ⟨_, rfl⟩
          rw [hU] at Htr hUi
          have HUi := Lib.hid hUi
          clear hU hUi
          go_upto_region 10 with fail
          rw [HUi.out]
          by_cases hup : U < r.sums
          · have hIdx := idx_lt hZc hup
            rw [← HK.out] at hIdx
            obtain ⟨I, hI⟩ : ∃ I, Z * r.sums + U = I := ⟨_, rfl⟩
            obtain ⟨bx, ox, v, hbx, -, hv, q1⟩ := (HV.out.below HB4.out).at1 hIdx
            have hv0 : (r.lay first).val z (t + 1) (Z, U) = v := by rw [rowV_get hZc hup] at hv; injection hv
            have hbx' := hbx
            simp only [Option.some.injEq, Addr.mk.injEq, and_true] at hbx'
            obtain ⟨rfl, rfl⟩ := hbx'
            obtain ⟨v1, v2⟩ := Hvb.out (Z, U)
            rw [hv0] at v1 v2
            have Hstep2 := Lib.hid (Hstep.out _ _ _ (Htr.out.trans (if_pos ⟨o1, o2, hup⟩)) hv0)
            rw [hI] at hIdx q1
            have hIk : (I : Int) < (K : Int) := by omega
            have hI0 : (0 : Int) ≤ (I : Int) := by omega
            have hIz : (Z : Int) * (r.sums : Int) + (U : Int) = (I : Int) := by rw [← hI]; simp
            have hZs : (0 : Int) ≤ (Z : Int) * (r.sums : Int) := Int.mul_nonneg (by omega) (by omega)
            have hK2 : K ≤ 64 * 73 := by rw [HK.out]; exact Nat.mul_le_mul hc2 hsm
            have hu1 : IntKind.i64.wrap ((Z : Int) * (r.sums : Int)) = (Z : Int) * (r.sums : Int) := IntWalk.i64_in _ (by omega)
            have hu2 : IntKind.i64.wrap ((Z : Int) * (r.sums : Int) + (U : Int)) = (I : Int) := by rw [hIz]; exact IntWalk.i64_in _ (by omega)
            have hu3 : IntKind.i64.wrap ((t : Int) + 1) = (t : Int) + 1 := IntWalk.i64_in _ (by omega)
            have hu4 : IntKind.i64.wrap (I : Int) = (I : Int) := IntWalk.i64_in _ (by omega)
            have ht0 : (0 : Int) ≤ (t : Int) + 1 := by omega
            have htL : (t : Int) + 1 < (L : Int) := by have := HL.out; omega
            have Hu := Lib.hid (And.intro hu1 (And.intro hu2 (And.intro hu3 (And.intro hu4 hIz))))
            clear hu1 hu2 hu3 hu4 hI hIz hv hbx hv0
            rw [Nat.zero_add] at q1
            go_wp2_with fail
            obtain ⟨hu1, hu2, hu3, hu4, hIz⟩ := Hu.out
            go_quiet (fail)
            clear hu1 hu2 hu3 hu4 hIz
            by_cases hv0 : 0 ≤ v
            · by_cases hl0 : l < 0
              · have Hn := Lib.hid (Hstep2.out (P + v) a (if_pos ⟨hv0, .inl hl0⟩))
                go_wp2_with fail
                exact ⟨⟨a + 1, P + v, a, rfl, rfl, rfl, by omega, by omega, by omega, by omega, Lib.hid Hn.out, below_drewN HB4.out _⟩, by simp [intOf]; omega⟩
              · by_cases hl1 : P + v < l
                · have Hn := Lib.hid (Hstep2.out (P + v) a (if_pos ⟨hv0, .inr hl1⟩))
                  go_wp2_with fail
                  exact ⟨⟨a + 1, P + v, a, rfl, rfl, rfl, by omega, by omega, by omega, by omega, Lib.hid Hn.out, below_drewN HB4.out _⟩, by simp [intOf]; omega⟩
                · have Hn := Lib.hid (Hstep2.out l wh (if_neg (fun h => by rcases h.2 with h | h <;> omega)))
                  go_wp2_with fail
                  exact ⟨⟨a + 1, l, wh, rfl, rfl, rfl, by omega, by omega, by omega, by omega, Lib.hid Hn.out, below_drewN HB4.out _⟩, by simp [intOf]; omega⟩
            · have Hn := Lib.hid (Hstep2.out l wh (if_neg (fun h => hv0 h.1)))
              go_wp2_with fail
              exact ⟨⟨a + 1, l, wh, rfl, rfl, rfl, by omega, by omega, by omega, by omega, Lib.hid Hn.out, below_drewN HB4.out _⟩, by simp [intOf]; omega⟩
          · have Hn := Lib.hid (Hskip.out (by rw [Htr.out, if_neg (fun h => hup h.2.2)]))
            go_wp2_with fail
            exact ⟨⟨a + 1, l, wh, rfl, rfl, rfl, by omega, by omega, k1, k2, Lib.hid Hn.out, HB4.out⟩, by simp [intOf]; omega⟩
        · have Htr := Lib.hid (show (r.lay first).tr t (code, sum) a = if -r.worst ≤ E ∧ E ≤ r.worst ∧ sum < r.sums then some ((Z, sum), P) else none by rw [Htr.out]; simp only [if_neg hN])
          go_upto_region 10 with fail
          have hup := hsum
          · have hIdx := idx_lt hZc hup
            rw [← HK.out] at hIdx
            obtain ⟨I, hI⟩ : ∃ I, Z * r.sums + sum = I := ⟨_, rfl⟩
            obtain ⟨bx, ox, v, hbx, -, hv, q1⟩ := (HV.out.below HB4.out).at1 hIdx
            have hv0 : (r.lay first).val z (t + 1) (Z, sum) = v := by rw [rowV_get hZc hup] at hv; injection hv
            have hbx' := hbx
            simp only [Option.some.injEq, Addr.mk.injEq, and_true] at hbx'
            obtain ⟨rfl, rfl⟩ := hbx'
            obtain ⟨v1, v2⟩ := Hvb.out (Z, sum)
            rw [hv0] at v1 v2
            have Hstep2 := Lib.hid (Hstep.out _ _ _ (Htr.out.trans (if_pos ⟨o1, o2, hup⟩)) hv0)
            rw [hI] at hIdx q1
            have hIk : (I : Int) < (K : Int) := by omega
            have hI0 : (0 : Int) ≤ (I : Int) := by omega
            have hIz : (Z : Int) * (r.sums : Int) + (sum : Int) = (I : Int) := by rw [← hI]; simp
            have hZs : (0 : Int) ≤ (Z : Int) * (r.sums : Int) := Int.mul_nonneg (by omega) (by omega)
            have hK2 : K ≤ 64 * 73 := by rw [HK.out]; exact Nat.mul_le_mul hc2 hsm
            have hu1 : IntKind.i64.wrap ((Z : Int) * (r.sums : Int)) = (Z : Int) * (r.sums : Int) := IntWalk.i64_in _ (by omega)
            have hu2 : IntKind.i64.wrap ((Z : Int) * (r.sums : Int) + (sum : Int)) = (I : Int) := by rw [hIz]; exact IntWalk.i64_in _ (by omega)
            have hu3 : IntKind.i64.wrap ((t : Int) + 1) = (t : Int) + 1 := IntWalk.i64_in _ (by omega)
            have hu4 : IntKind.i64.wrap (I : Int) = (I : Int) := IntWalk.i64_in _ (by omega)
            have ht0 : (0 : Int) ≤ (t : Int) + 1 := by omega
            have htL : (t : Int) + 1 < (L : Int) := by have := HL.out; omega
            have Hu := Lib.hid (And.intro hu1 (And.intro hu2 (And.intro hu3 (And.intro hu4 hIz))))
            clear hu1 hu2 hu3 hu4 hI hIz hv hbx hv0
            rw [Nat.zero_add] at q1
            go_wp2_with fail
            obtain ⟨hu1, hu2, hu3, hu4, hIz⟩ := Hu.out
            go_quiet (fail)
            clear hu1 hu2 hu3 hu4 hIz
            by_cases hv0 : 0 ≤ v
            · by_cases hl0 : l < 0
              · have Hn := Lib.hid (Hstep2.out (P + v) a (if_pos ⟨hv0, .inl hl0⟩))
                go_wp2_with fail
                exact ⟨⟨a + 1, P + v, a, rfl, rfl, rfl, by omega, by omega, by omega, by omega, Lib.hid Hn.out, below_drewN HB4.out _⟩, by simp [intOf]; omega⟩
              · by_cases hl1 : P + v < l
                · have Hn := Lib.hid (Hstep2.out (P + v) a (if_pos ⟨hv0, .inr hl1⟩))
                  go_wp2_with fail
                  exact ⟨⟨a + 1, P + v, a, rfl, rfl, rfl, by omega, by omega, by omega, by omega, Lib.hid Hn.out, below_drewN HB4.out _⟩, by simp [intOf]; omega⟩
                · have Hn := Lib.hid (Hstep2.out l wh (if_neg (fun h => by rcases h.2 with h | h <;> omega)))
                  go_wp2_with fail
                  exact ⟨⟨a + 1, l, wh, rfl, rfl, rfl, by omega, by omega, by omega, by omega, Lib.hid Hn.out, below_drewN HB4.out _⟩, by simp [intOf]; omega⟩
            · have Hn := Lib.hid (Hstep2.out l wh (if_neg (fun h => hv0 h.1)))
              go_wp2_with fail
              exact ⟨⟨a + 1, l, wh, rfl, rfl, rfl, by omega, by omega, by omega, by omega, Lib.hid Hn.out, below_drewN HB4.out _⟩, by simp [intOf]; omega⟩
    · have he := HI.out.fin (by rw [HHi.out]; omega)
      have Hf := Lib.hid (show R (.returned (.tuple #[.int .i64 l, .int .i64 wh])) wo from by
        have := hR.out _ wo ⟨rfl, hb⟩
        rw [he] at this
        exact this)
      clear he hR
      go_wp2_with fail
      exact Hf.out
end Go.Proofs.YtojbldoekalbnaaGreat
