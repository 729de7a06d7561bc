/-
  The contracts of temper's beginnings and of the iterator that it hands back: all beginnings come, in their order; condition: the ring is valid.
-/
import Derived.Test.YtojbldoekalbnaaGreatTRnd
import Derived.WalkMore
import Derived.Scope
import Derived.Deep.LoopGhost
namespace Go.Proofs.YtojbldoekalbnaaGreat
open Go.RowKit Go.Shelf
attribute [local go_sem] Oper.semAt_some
theorem grown_set (W : World) (g i : Nat) (v : Value) : W.grownBy (W.setCell ⟨g, i, none⟩ v) (some g) :=
  ⟨rfl, rfl, rfl, by simp [World.setCell], fun j _ hj => Below.heap_setCell W ⟨g, i, none⟩ v j (fun e => hj (by dsimp only at e; rw [e]))⟩
theorem grown_below {W W' : World} (h : Below W.heap.size W W') : W.grownBy W' none := ⟨h.os, h.tape, h.output, h.size, fun k hk _ => h.block k hk⟩
set_option maxHeartbeats 1000000 in
theorem beginnings_any (r : Rg) (A B : Option Addr) (n c m d : Nat) (w : World) :
    Calls Tryz.prog 47 #[.agg #[.int .i64 r.N, .int .i64 r.S, .int .i64 r.low, .int .i64 r.high, .int .i64 r.total, .int .i64 r.pure, .int .i64 r.worst, .slice A n c, .slice B m d]] w fun e w' => e = .returned (.func (.func 79) #[] #[.pointer (some ⟨w.heap.size, 0, none⟩)]) ∧ w' = w.alloc (.cells #[.int .i64 r.N, .int .i64 r.S, .int .i64 r.low, .int .i64 r.high, .int .i64 r.total, .int .i64 r.pure, .int .i64 r.worst, .slice A n c, .slice B m d] 50) := by
  refine calls_cps ?_
  intro R hR
  go_enter Tryz.func47, Tryz.ntmps47
  go_wp2
  exact hR.out _ _ ⟨rfl, rfl⟩
set_option maxRecDepth 100000 in
set_option maxHeartbeats 8000000 in
theorem begs_in (nf l : Nat) (hnf : 2 ≤ nf) (S : Nat → Prop) (r : Rg) (hr : r.Ok) (A B : Option Addr) (n c m d bx : Nat) (J : List (List Int) → World → Prop) (W : World)
    (hJ : ∀ s W1 W2 row, J s W1 → W1.grownBy W2 row → (∀ k, row = some k → k = W.heap.size) → J s W2)
    (hY : ∀ pre first rest a e W1, pre ++ first :: rest = r.begs → J pre W1 → SlE intE 1 W1 (some a) (r.S - 1) first → W.heap.size < a.block → YieldAt Fence.wide (nf - 1) Tryz.prog l #[.slice (some a) (r.S - 1) e] W1 fun en W' =>
      en = .returned (.bool true) ∧ J (pre ++ [first]) W' ∧ Kx S W1 W')
    (hS : ∀ j, S j → j < W.heap.size) (hbx : W.heap[bx]? = some (.cells #[.int .i64 r.N, .int .i64 r.S, .int .i64 r.low, .int .i64 r.high, .int .i64 r.total, .int .i64 r.pure, .int .i64 r.worst, .slice A n c, .slice B m d] 50)) (hSb : ¬ S bx) (h0 : J [] W) :
    CallsIn Fence.wide nf Tryz.prog 79 #[.func (.yield l) #[] #[], .pointer (some ⟨bx, 0, none⟩)] W fun en W' => (∃ v, en = .returned v) ∧ J r.begs W' := by
  refine callsIn_cps ?_
  intro R hR
  have Hok := Lib.hid hr
  have HJ := Lib.hid hJ
  have HY := Lib.hid hY
  have HS := Lib.hid hS
  have hbxl : bx < W.heap.size := (Array.getElem?_eq_some_iff.1 hbx).1
  have Hbx := Lib.hid hbx
  obtain ⟨c0, c1, c2, c3, c4, c5, c6, c7, c8, cf⟩ := ring9 hbx
  have s1 := hr.s1
  have s2 := hr.s2
  have n2 := hr.n2
  clear hJ hY hS hbx hr
  have hFw : ∀ f, Fence.wide.fn f := fun _ => trivial
  have hmk := run_mkInt (r.S - 1) (by omega)
  have hSm : ((r.S - 1 : Nat) : Int) = (r.S : Int) - 1 := by omega
  rw [hSm] at hmk
  refine callsIn_of_wp Tryz.func79 rfl trivial ?_ rfl
  simp only [Tryz.ntmps79, List.size_toArray, List.length_cons, List.length_nil, Nat.reduceAdd, Nat.reduceSub, Array.replicate_succ, Array.replicate_zero, List.push_toArray, List.append_toArray, List.nil_append, List.cons_append]
  refine wpIn_wide.2 ?_
  refine wp_scope_straight ?_
  go_wp2_with fail
  have hb1 := below_new W (.cells (madeCells #[Value.int .i64 0] (r.S - 1)) 3)
  have hj1 := HJ.out [] _ _ none h0 (World.grownBy_alloc W (.cells (madeCells #[Value.int .i64 0] (r.S - 1)) 3) none) (fun k hk => by cases hk)
  have hbk1 : Blk (W.alloc (.cells (madeCells #[Value.int .i64 0] (r.S - 1)) 3)) W.heap.size (List.replicate (r.S - 1) 0) := Blk.made (heap_alloc_new W _)
  obtain ⟨W1, hW1⟩ : ∃ W1, W.alloc (.cells (madeCells #[Value.int .i64 0] (r.S - 1)) 3) = W1 := ⟨_, rfl⟩
  rw [hW1] at hb1 hj1 hbk1 ⊢
  obtain ⟨g, hg⟩ : ∃ g, W.heap.size = g := ⟨_, rfl⟩
  rw [hg] at hbk1 HJ HY HS hbxl ⊢
  have Hb1 := Lib.hid hb1
  have Hj1 := Lib.hid hj1
  have Hbk1 := Lib.hid hbk1
  have Hg := Lib.hid hg
  obtain ⟨N, hN⟩ : ∃ N, r.S - 1 = N := ⟨_, rfl⟩
  have hNi : (r.S : Int) - 1 = (N : Int) := by omega
  have hN3 : N ≤ 3 := by omega
  have hN1 : 1 ≤ N := by omega
  have HN := Lib.hid hN
  rw [hN] at HY hbk1 ⊢
  clear hb1 hj1 hbk1 hW1 hg hmk hSm h0 c0 c1 c2 c3 c4 c5 c6 c7 c8 cf hN
  rw [hNi]
  have hbx1 : W1.heap[bx]? = some (.cells #[.int .i64 r.N, .int .i64 r.S, .int .i64 r.low, .int .i64 r.high, .int .i64 r.total, .int .i64 r.pure, .int .i64 r.worst, .slice A n c, .slice B m d] 50) := (Hb1.out.block bx (by rw [Hg.out]; exact hbxl)).trans Hbx.out
  have Hbx1 := Lib.hid hbx1
  rw [HN.out] at Hbk1
  have HNi := Lib.hid hNi
  clear hbx1 Hbx hNi
  have r1 := Hok.out.l1
  have r2 := Hok.out.l2
  have r3 := Hok.out.h1
  have r4 := Hok.out.h2
  go_loopw [12] (fun i wr => ∃ k : Nat, k ≤ N ∧ i = .int .i64 (k : Nat) ∧ Blk wr g (List.replicate k r.low ++ List.replicate (N - k) 0) ∧ J [] wr ∧ wr.heap[bx]? = some (.cells #[.int .i64 r.N, .int .i64 r.S, .int .i64 r.low, .int .i64 r.high, .int .i64 r.total, .int .i64 r.pure, .int .i64 r.worst, .slice A n c, .slice B m d] 50)) (fun i _ => N - (intOf i).toNat)
  case atStart => exact ⟨0, Nat.zero_le _, rfl, by simpa using Hbk1.out, Hj1.out, Hbx1.out⟩
  case round =>
    obtain ⟨k, hk, rfl, hbk, hj, hbox⟩ := hrel
    obtain ⟨wo, rfl⟩ : ∃ wo : World, wo = wr := ⟨_, rfl⟩
    by_cases hlt : k < N
    · obtain ⟨c0, c1, c2, c3, c4, c5, c6, c7, c8, cf⟩ := ring9 hbox
      have hc0 : wo.cell? ⟨g, k, none⟩ = some (.int .i64 0) := hbk.cell (by rw [List.getElem?_append_right (by simp), List.length_replicate, Nat.sub_self, List.getElem?_replicate]; rw [if_pos (by omega)])
      have hf0 := hbk.frozen k
      have Hs := Lib.hid (hbk.set k r.low)
      have Hj2 := Lib.hid (HJ.out [] _ _ (some g) hj (grown_set wo g k (.int .i64 r.low)) (fun k hk => by injection hk with hk; exact hk.symm))
      have Hbox2 := Lib.hid ((Below.heap_setCell wo ⟨g, k, none⟩ (.int .i64 r.low) bx (by dsimp only; omega)).trans hbox)
      clear hbk hj hbox
      go_wp2_with fail
      refine ⟨⟨k + 1, by omega, by go_num, ?_, Hj2.out, Hbox2.out⟩, by simp [intOf]; omega⟩
      have h := Hs.out
      rw [List.set_append_right _ _ (by simp), List.length_replicate, Nat.sub_self, show N - k = (N - (k + 1)) + 1 by omega, List.replicate_succ, List.set_cons_zero] at h
      rw [List.replicate_succ', List.append_assoc]
      exact h
    · obtain rfl : k = N := by omega
      rw [Nat.sub_self, List.replicate_zero, List.append_nil] at hbk
      have Hbk := Lib.hid hbk
      have Hj := Lib.hid hj
      have Hbox := Lib.hid hbox
      clear hbk hj hbox
      have h64 : 4 ^ k ≤ 64 := by
        obtain e | e | e : k = 1 ∨ k = 2 ∨ k = 3 := by omega
        all_goals subst e; decide
      have H64 := Lib.hid h64
      clear h64
      go_wp2_with fail
      go_step3
      go_wp2_with fail
      go_loopg [5] 64 (fun gk s5 wr => ∃ (pre : List (List Int)) (cur : List Int), Hid (pre ++ seqO r.low r.high gk cur = r.begs ∧ VL r.low r.high k cur ∧ 4 ^ k ≤ rk r.low cur + gk) ∧ Blk wr g cur ∧ J pre wr ∧ wr.heap[bx]? = some (.cells #[.int .i64 r.N, .int .i64 r.S, .int .i64 r.low, .int .i64 r.high, .int .i64 r.total, .int .i64 r.pure, .int .i64 r.worst, .slice A n c, .slice B m d] 50))
      case atStart => exact ⟨[], _, Lib.hid ⟨by unfold Rg.begs; rw [HN.out]; rfl, lows_VL Hok.out k, by have := H64.out; omega⟩, Hbk.out, Hj.out, Hbox.out⟩
      case round =>
        clear Hbk Hj Hbox
        obtain ⟨pre, cur, HV, hbk, hj, hbox⟩ := hrel
        obtain ⟨wo, rfl⟩ : ∃ wo : World, wo = wr := ⟨_, rfl⟩
        have hrk := rk_lt Hok.out.h2 HV.out.2.1
        obtain ⟨f, rfl⟩ : ∃ f, gk = f + 1 := ⟨gk - 1, by have := HV.out.2.2; omega⟩
        have hcl := HV.out.2.1.1
        have hsl := hbk.sl hcl.symm
        have Hcl := Lib.hid hcl
        have HE := Lib.hid (show pre ++ cur :: (match odo r.low r.high cur with | none => [] | some l' => seqO r.low r.high f l') = r.begs from HV.out.1)
        have Hbk := Lib.hid hbk
        have Hj := Lib.hid hj
        have Hbox := Lib.hid hbox
        have hgl := hbk.lt
        clear hbk hj hbox hrk hcl
        refine (wpIn_wide (n := nf)).1 ?_
        gi_wp2_with fail
        refine ⟨fun _ => by omega, ?_⟩
        refine (callsIn_wide.2 (clone_any ⟨g, 0, none⟩ k k cur _ hsl (by omega))).mono ?_
        rintro en w2 ⟨A2, e2, rfl, ho2, hb2⟩
        obtain ⟨g2, cg, hv2, hg21, hg22⟩ := ho2.form (by omega)
        have hA2 : A2 = some ⟨g2, 0, none⟩ := by injection hv2
        subst hA2
        have Hbk2 := Lib.hid (Hbk.out.of_eq (hb2.block g hgl))
        have Hj2 := Lib.hid (HJ.out pre _ _ none Hj.out (grown_below hb2) (fun k hk => by cases hk))
        have Hbox2 := Lib.hid ((hb2.block bx (Array.getElem?_eq_some_iff.1 Hbox.out).1).trans Hbox.out)
        obtain ⟨fn, tmps, assign, body, hy0, hR0⟩ := HY.out pre cur _ ⟨g2, 0, none⟩ e2 w2 HE.out Hj2.out (SlE.of_own ho2 Hcl.out.symm) (by dsimp only; omega)
        have hgl2 : g < w2.heap.size := by omega
        clear hv2 hb2 hg21 hg22 Hbk Hj Hbox hsl hgl ho2
        gi_wp2_with fail
        refine ⟨fun _ => by omega, hR0.mono ?_⟩
        clear hy0 hR0
        rintro en w3 ⟨rfl, hj3, hk3⟩
        have Hbk3 := Lib.hid (Hbk2.out.of_eq (hk3.block g hgl2 (fun h => by have := HS.out g h; omega)))
        have Hbox3 := Lib.hid ((hk3.block bx (Array.getElem?_eq_some_iff.1 Hbox2.out).1 hSb).trans Hbox2.out)
        have Hj3 := Lib.hid hj3
        clear hk3 hj3 hgl2 Hj2 Hbk2 Hbox2
        gi_wp2_with fail
        refine wpIn_wide.2 ?_
        go_loopw [5] (fun s5 wr => ∃ (i : Nat) (a : Int), i ≤ k ∧ s5 = .int .i64 a ∧ (i : Int) - 1 ≤ a ∧ a ≤ (i : Int) - 1 ∧ Hid (∀ x ∈ cur.drop i, x = r.high) ∧ Blk wr g (cur.take i ++ List.replicate (k - i) r.low) ∧ J (pre ++ [cur]) wr ∧ wr.heap[bx]? = some (.cells #[.int .i64 r.N, .int .i64 r.S, .int .i64 r.low, .int .i64 r.high, .int .i64 r.total, .int .i64 r.pure, .int .i64 r.worst, .slice A n c, .slice B m d] 50)) (fun s5 _ => (intOf s5 + 1).toNat)
        case atStart => exact ⟨k, _, Nat.le_refl _, rfl, Int.le_refl _, Int.le_refl _, Lib.hid (by rw [List.drop_of_length_le (by rw [Hcl.out]; exact Nat.le_refl _)]; simp), by rw [List.take_of_length_le (by rw [Hcl.out]; exact Nat.le_refl _), Nat.sub_self, List.replicate_zero, List.append_nil]; exact Hbk3.out, Hj3.out, Hbox3.out⟩
        case round =>
          clear Hbk3 Hj3 Hbox3
          obtain ⟨i, a, hi, rfl, a1, a2, Hhi, hbk, hj, hbox⟩ := hrel
          obtain ⟨wi, rfl⟩ : ∃ wi : World, wi = wr := ⟨_, rfl⟩
          by_cases h0 : 1 ≤ i
          · obtain ⟨j, rfl⟩ : ∃ j, i = j + 1 := ⟨i - 1, by omega⟩
            obtain rfl : a = (j : Int) := by omega
            clear a1 a2
            obtain ⟨c0, c1, c2, c3, c4, c5, c6, c7, c8, cf⟩ := ring9 hbox
            have hjc : j < cur.length := by rw [Hcl.out]; omega
            obtain ⟨x, hx⟩ : ∃ x, cur[j]? = some x := ⟨_, List.getElem?_eq_getElem hjc⟩
            have hxb := HV.out.2.1.2 x (List.mem_of_getElem? hx)
            have htk : cur.take (j + 1) = cur.take j ++ [x] := by
              rw [List.take_succ_eq_append_getElem hjc]; congr 1; rw [List.getElem?_eq_getElem hjc] at hx; injection hx with hx; rw [hx]
            have hlen : (cur.take j).length = j := by rw [List.length_take]; omega
            have hcell : wi.cell? ⟨g, j, none⟩ = some (.int .i64 x) := hbk.cell (by rw [htk, List.append_assoc, List.getElem?_append_right (by omega), hlen, Nat.sub_self]; rfl)
            have hfr := hbk.frozen j
            have hset : ∀ v, (cur.take (j + 1) ++ List.replicate (k - (j + 1)) r.low).set j v = cur.take j ++ v :: List.replicate (k - (j + 1)) r.low := fun v => by
              rw [htk, List.append_assoc, List.set_append_right _ _ (by omega), hlen, Nat.sub_self]; rfl
            have hcat : cur = cur.take j ++ x :: cur.drop (j + 1) := by
              have := List.take_append_drop (j + 1) cur
              rw [htk, List.append_assoc] at this
              exact this.symm
            have hdl : (cur.drop (j + 1)).length = k - (j + 1) := by rw [List.length_drop, Hcl.out]
            have hgb : ∀ q v, (wi.drewN q).grownBy ((wi.drewN q).setCell ⟨g, j, none⟩ v) (some g) := fun q v => grown_set _ _ _ _
            have Hs := Lib.hid (fun (q : Nat) (v : Int) => show Blk ((wi.drewN q).setCell ⟨g, j, none⟩ (.int .i64 v)) g _ from (Blk.of_eq (W' := wi.drewN q) hbk rfl).set j v)
            have Hj2 := Lib.hid (fun (q : Nat) (v : Value) => HJ.out (pre ++ [cur]) _ _ (some g) (HJ.out (pre ++ [cur]) _ (wi.drewN q) none hj (grown_below (below_drewN (Below.refl _ _) q)) (fun k hk => by cases hk)) (grown_set (wi.drewN q) g j v) (fun k hk => by injection hk with hk; exact hk.symm))
            have Hb2 := Lib.hid (fun (q : Nat) (v : Value) => (Below.heap_setCell (wi.drewN q) ⟨g, j, none⟩ v bx (by dsimp only; omega)).trans hbox)
            have Hset := Lib.hid hset
            have hj0 : (0 : Int) ≤ (j : Int) := by omega
            have hjk : (j : Int) < (k : Int) := by omega
            by_cases hxh : x < r.high
            · have hod := odo_at (lo := r.low) (pre := cur.take j) Hhi.out hxh
              rw [← hcat, hdl] at hod
              have HE2 := Lib.hid (show (pre ++ [cur]) ++ seqO r.low r.high f (cur.take j ++ (x + 1) :: List.replicate (k - (j + 1)) r.low) = r.begs by
                have := HE.out
                rw [hod] at this
                rw [List.append_assoc]
                exact this)
              have hvl := (odo_some HV.out.2.1 hod).1
              have hrk := rk_odo Hok.out.h2 HV.out.2.1 hod
              have HV2 := Lib.hid (show VL r.low r.high k (cur.take j ++ (x + 1) :: List.replicate (k - (j + 1)) r.low) ∧ 4 ^ k ≤ rk r.low (cur.take j ++ (x + 1) :: List.replicate (k - (j + 1)) r.low) + f from ⟨hvl, by have := HV.out.2.2; omega⟩)
              have hdc : decide (x < r.high) = true := by simp [hxh]
              clear hod hvl hrk hx htk hlen hset hcat hdl hgb hbk hj hbox
              go_wp2_with fail
              go_quiet (fail)
              go_wp2_with fail
              go_roundg f
              case measure => omega
              case rel => exact ⟨pre ++ [cur], _, Lib.hid ⟨HE2.out, HV2.out.1, HV2.out.2⟩, by rw [← Hset.out]; exact Hs.out nq _, by exact Hj2.out nq _, by exact Hb2.out nq _⟩
            · have hxe : x = r.high := by omega
              have Hhi2 := Lib.hid (show ∀ y ∈ cur.drop j, y = r.high from fun y hy => by
                rw [List.drop_eq_getElem_cons hjc] at hy
                rw [List.getElem?_eq_getElem hjc] at hx
                injection hx with hx
                rcases List.mem_cons.1 hy with hy | hy
                · rw [hy, hx, hxe]
                · exact Hhi.out y hy)
              have hdc : decide (x < r.high) = false := by simp [hxe]
              clear hx htk hlen hset hcat hdl hgb hbk hj hbox
              go_wp2_with fail
              go_quiet (fail)
              go_wp2_with fail
              refine ⟨⟨j, (j : Int) - 1, by omega, rfl, Int.le_refl _, Int.le_refl _, Hhi2, ?_, by exact Hj2.out nq _, by exact Hb2.out nq _⟩, by simp [intOf] <;> omega⟩
              have h := Hs.out nq r.low
              rw [Hset.out] at h
              rw [show k - j = (k - (j + 1)) + 1 by omega, List.replicate_succ]
              exact h
          · obtain rfl : i = 0 := by omega
            obtain rfl : a = -1 := by omega
            have hon := odo_highs (lo := r.low) (hi := r.high) (s := cur) (fun x hx => Hhi.out x (by simpa using hx))
            have Hf := Lib.hid (show ∀ v, R (.returned v) wi from fun v => hR.out _ _ ⟨⟨_, rfl⟩, by
              have := HE.out
              rw [hon] at this
              rw [← this]; exact hj⟩)
            clear hon hbk hj hbox hR a1 a2
            go_wp2_with fail
            refine wpIn_wide.2 ?_
            go_wp2_with fail
            rw [Exit.noGoto_ret]
            go_end0
            exact Hf.out _
end Go.Proofs.YtojbldoekalbnaaGreat
