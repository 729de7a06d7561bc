/-
  grow at shapes, (*House).shape; conditions: the cells hold a house.
-/
import Derived.Test.YtndcijkgaadpgaaGreatDoorUs
namespace Go.Proofs.YtndcijkgaadpgaaGreatDoor
section
open Go.RowKit Go.Shelf Go.Maps
/-- Where no block of a book is turned. -/
theorem Bd.keepT {W w : World} {F S : Nat → Prop} {a dk : Nat} {d : Dk} {b : Bk} (h : Bd W F a dk d b) (k : Kx S W w) (hS : ∀ j C ty, S j → W.heap[j]? = some (.cells C ty (0, 0)) → ¬ BkTy ty) (hM : ∀ j es cl, W.heap[j]? = some (.map es cl) → ¬ S j) : Bd w F a dk d b := by
  refine ⟨h.disk.kx_ty k (fun C hC hs => hS _ _ _ hs hC (.inl rfl)) (fun j C hC hs => hS _ _ _ hs hC (.inr (.inl rfl))), h.book.keep (fun j _ C ty hC ht => k.block j (Array.getElem?_eq_some_iff.1 hC).1 (fun hs => hS _ _ _ hs hC ?_)) (fun j _ ⟨es, cl, hC⟩ => k.block j (Array.getElem?_eq_some_iff.1 hC).1 (hM j es cl hC))⟩
  rcases ht with rfl | rfl | rfl
  · exact .inr (.inr (.inr (.inl rfl)))
  · exact .inr (.inr (.inr (.inr rfl)))
  · exact .inr (.inr (.inl rfl))
theorem infoShp : (Tryz.prog.info? 103).map (fun i => (i.zero, i.size, i.bytes)) = some (some (.agg #[.int .i64 0, .int .i64 0, .int .i64 0, .bool false]), 4, 32) := by kernel_rfl
theorem elemShp0 : ElemOk Tryz.prog 52 103 4 32 := ElemOk.of (z := .agg #[.int .i64 0, .int .i64 0, .int .i64 0, .bool false]) Tryz.underlying52 infoShp rfl (by omega)
/-- A shape more. -/
theorem Hs.more {W w1 w2 : World} {F : Nat → Prop} {h a dk : Nat} {d : Dk} {b : Bk} {sh : List Shp} {x : Shp} {A A' : Option Addr} {c c' : Nat} (hu : Up W F) (hh : Hs W F h a dk d b sh) (hb : Below W.heap.size W w1) (h12 : W.cell? ⟨h, 12, none⟩ = some (.slice A sh.length c)) (hF : ∀ g, (Value.slice A sh.length c).ownBlock = some g → F g) (ho : W.ownsRow 0 103 4 (.slice A sh.length c) sh.length (sh.flatMap Shp.enc))
    (ho2 : w2.ownsRow 0 103 4 (.slice A' (sh.length + 1) c') (sh.length + 1) (sh.flatMap Shp.enc ++ x.enc)) (hg : w1.grownBy w2 (Value.slice A sh.length c).ownBlock) (hl : (Value.slice A' (sh.length + 1) c').ownBlock = (Value.slice A sh.length c).ownBlock ∨ (Value.slice A' (sh.length + 1) c').ownBlock = some w1.heap.size) :
    (∃ C v, w2.heap[h]? = some (.cells C 56 (0, 0)) ∧ C[12]? = some v) ∧ Hs (w2.setCell ⟨h, 12, none⟩ (.slice A' (sh.length + 1) c')) F h a dk d b (sh ++ [x]) ∧ Kx F W (w2.setCell ⟨h, 12, none⟩ (.slice A' (sh.length + 1) c')) := by
  obtain ⟨C, q1, q2, q3, q4, A0, c0, q5, -, -⟩ := hh.cells
  have hlt := (Array.getElem?_eq_some_iff.1 q1).1
  have hne := own_nea (a := h) q1 ho (by decide)
  have hk2 : Kx (fun j => (Value.slice A sh.length c).ownBlock = some j) W w2 := ((Kx.refl _ W).below hb).grown hg (fun j hj => .inl hj)
  have q1' := (hk2.block h hlt (fun e => hne h e rfl)).trans q1
  have hk3 : Kx (fun j => j = h ∨ (Value.slice A sh.length c).ownBlock = some j) W (w2.setCell ⟨h, 12, none⟩ (.slice A' (sh.length + 1) c')) := (hk2.mono (fun j e => .inr e)).trans (kx_put w2 h 12 _) (fun j _ e => .inl e)
  have hsz : 12 < C.size := (Array.getElem?_eq_some_iff.1 q5).1
  refine ⟨⟨C, _, q1', q5⟩, ⟨hh.bd.keepT hk3 (fun j C' ty hs hC => ?_) (fun j es cl hC hs => ?_), hh.own, C.setIfInBounds 12 (.slice A' (sh.length + 1) c'), hset q1', ?_, ?_, ?_, A', c', ?_, ?_, ?_⟩, hk3.mono (fun j hs => ?_)⟩
  · rcases hs with rfl | hs
    · rw [q1] at hC
      simp only [Option.some.injEq, Obj.cells.injEq] at hC
      rw [← hC.2.1]
      unfold BkTy
      decide
    · obtain ⟨D, hD⟩ := own_blk ho hs
      rw [hD] at hC
      simp only [Option.some.injEq, Obj.cells.injEq] at hC
      rw [← hC.2.1]
      unfold BkTy
      decide
  · rcases hs with rfl | hs
    · rw [q1] at hC
      cases hC
    · obtain ⟨D, hD⟩ := own_blk ho hs
      rw [hD] at hC
      cases hC
  · rw [Array.getElem?_setIfInBounds_ne (by decide)]; exact q2
  · rw [Array.getElem?_setIfInBounds_ne (by decide)]; exact q3
  · rw [Array.getElem?_setIfInBounds_ne (by decide)]; exact q4
  · rw [Array.getElem?_setIfInBounds_self_of_lt hsz, List.length_append, List.length_singleton]
  · rw [List.length_append, List.length_singleton, List.flatMap_append]
    have h2 := own_setH (a := h) (i := 12) (u := .slice A' (sh.length + 1) c') ho2 q1' (by decide)
    simpa using h2
  · rw [List.length_append, List.length_singleton]
    intro g hg'
    rcases hl with e | e
    · exact hF g (e ▸ hg')
    · rw [e] at hg'
      cases hg'
      exact hu _ hb.size
  · rcases hs with rfl | hs
    · exact hh.own
    · exact hF j hs
set_option maxRecDepth 8000 in
set_option maxHeartbeats 4000000 in
theorem grow_any (w : World) (F : Nat → Prop) (h a dk : Nat) (d : Dk) (b : Bk) (sh : List Shp) (x : Shp) (hh : Hs w F h a dk d b sh) (hu : Up w F) (hs : sh.length ≤ 16) :
    Calls Tryz.prog 169 #[.pointer (some ⟨h, 12, none⟩), .int .i64 16, .agg #[.int .i64 x.W, .int .i64 x.H, .int .i64 x.V, .bool x.T]] w fun e w' => ∃ r, e = .returned r ∧ AnsT (if sh.length < 16 then [] else bangL 9) r w' ∧ Hs w' F h a dk d b (if sh.length < 16 then sh ++ [x] else sh) ∧ Kx F w w' := by
  refine calls_cps ?_
  intro R hR
  have HH := Lib.hid hh
  have HU := Lib.hid hu
  obtain ⟨w1, hw1⟩ : ∃ w1, w.alloc (.cells #[.int .i64 x.W, .int .i64 x.H, .int .i64 x.V, .bool x.T] 103) = w1 := ⟨_, rfl⟩
  have hbx := heap_alloc_new w (.cells #[.int .i64 x.W, .int .i64 x.H, .int .i64 x.V, .bool x.T] 103)
  have hbl := below_new w (.cells #[.int .i64 x.W, .int .i64 x.H, .int .i64 x.V, .bool x.T] 103)
  rw [hw1] at hbx hbl
  have HW1 := Lib.hid hw1
  have HBL := Lib.hid hbl
  obtain ⟨A, c, -, -, -, q12, -⟩ := (hh.below hbl).at
  obtain ⟨A0, c0, -, -, -, e12, -, HO0, HF0⟩ := hh.at
  have hAA : A0 = A ∧ c0 = c := by
    have h1 := (hbl.cell (p := ⟨h, 12, none⟩) (by obtain ⟨C, h1, _⟩ := hh.cells; exact (Array.getElem?_eq_some_iff.1 h1).1)).trans e12
    rw [q12] at h1
    simp only [Option.some.injEq, Value.slice.injEq, true_and] at h1
    exact ⟨h1.1.symm, h1.2.symm⟩
  obtain ⟨rfl, rfl⟩ := hAA
  have HE12 := Lib.hid e12
  obtain ⟨x0, x1, x2, x3, -⟩ := cells4 hbx
  obtain ⟨n, hn⟩ : ∃ n, sh.length = n := ⟨_, rfl⟩
  have Hn := Lib.hid hn
  rw [hn] at q12 HO0 HF0 HE12 hR hs
  clear hh hu hw1 hbx hbl e12 hn
  by_cases h16 : n < 16
  · rw [if_pos h16, if_pos h16] at hR
    have Hr := Lib.hid hR.out
    have i1 : ¬ (n : Int) ≥ 16 := by omega
    clear hR
    go_enter Tryz.func169, Tryz.ntmps169
    go_upto_region 1 with fail
    rw [HW1.out]
    go_upto_region 3 with fail
    have hb8 : Below w.heap.size w (w1.alloc (.cells #[.int .i64 x.W, .int .i64 x.H, .int .i64 x.V, .bool x.T] 103)).drew := (HBL.out.alloc HBL.out.size _).drew
    have HB8 := Lib.hid hb8
    have HO8 := Lib.hid (ownsRow_below HO0.out hb8)
    have HSl := Lib.hid (Sl.drew (Sl.new w1 #[.int .i64 x.W, .int .i64 x.H, .int .i64 x.V, .bool x.T] 103 4 1 rfl))
    have Hone := Lib.hid (show ∀ u ∈ [Value.int .i64 x.W, .int .i64 x.H, .int .i64 x.V, .bool x.T], u.oneCell' = true from by intro u hu; simp at hu; rcases hu with rfl | rfl | rfl | rfl <;> rfl)
    have HM := Lib.hid (fun (A' : Option Addr) (c' : Nat) (w2 : World) h1 h2 h3 => Hs.more (x := x) (A := A0) (c := c0) (A' := A') (c' := c') (w2 := w2) HU.out HH.out hb8 (by rw [Hn.out]; exact HE12.out) (by rw [Hn.out]; exact HF0.out) (by rw [Hn.out]; exact HO0.out) h1 h2 h3)
    rw [Hn.out] at HM
    have k12 := (World.cell?_alloc_lt w1 (.cells #[.int .i64 x.W, .int .i64 x.H, .int .i64 x.V, .bool x.T] 103) ⟨h, 12, none⟩ (by obtain ⟨C, h1, _⟩ := HH.out.cells; exact Nat.lt_of_lt_of_le (Array.getElem?_eq_some_iff.1 h1).1 HBL.out.size)).trans q12
    clear hb8
    go_region_law ((refine step_app rfl (.tmp 17) (.tmp 19) 52 rfl elemShp0 0 (.slice A0 n c0) n _ ?_ HO8.out (some ⟨w1.heap.size, 0, none⟩) 1 1 [.int .i64 x.W, .int .i64 x.H, .int .i64 x.V, .bool x.T] ?_ HSl.out Hone.out (by unfold maxLen; omega) (by omega) (Nat.zero_le _) ?_; (· (simp [Act.eval])); (· (simp [Act.eval])); intro A7 c7 w7 ho7 hg7 hl7; obtain ⟨⟨C7, v7, hc7, hv7⟩, hh7, hk7⟩ := HM.out A7 c7 w7 ho7 hg7 hl7; have tf : w7.frozen? ⟨h, 12, none⟩ = false := (by simp [World.frozen?, hc7]); have tc : w7.cell? ⟨h, 12, none⟩ = some v7 := (by rw [cell_of_row _ _ 12 _ _ (0, 0) hc7]; exact hv7); have HH7 := Lib.hid hh7; have HK7 := Lib.hid hk7; clear ho7 hg7 hl7 hc7 hv7 hh7 hk7))
    all_goals
      have hf := Hr.out (.returned (.iface 137 (.slice none 0 0))) _ ⟨_, rfl, .inr ⟨none, 0, 0, [], rfl, SlE.nil _ _, by decide, Nat.le_refl _, by decide, rfl⟩, HH7.out, HK7.out⟩
      have HF := Lib.hid hf
      clear hf Hr
      go_wp2
      exact HF.out
  · rw [if_neg h16, if_neg h16] at hR
    have i1 : (n : Int) ≥ 16 := by omega
    have hf := hR.out (.returned (.iface 61 (.int .i64 9))) w1 ⟨_, rfl, ans_bang 9 w1 ⟨by decide, by decide⟩, HH.out.below HBL.out, kx_of_below HBL.out⟩
    have HF := Lib.hid hf
    clear hR hf
    go_enter Tryz.func169, Tryz.ntmps169
    go_upto_region 1 with fail
    rw [HW1.out]
    go_wp2
    exact HF.out
/-- The word of a shape that may be turned. -/
def turnW : List UInt8 := [116, 117, 114, 110]
set_option maxRecDepth 8000 in
set_option maxHeartbeats 4000000 in
theorem hshape_any (w : World) (F : Nat → Prop) (h a dk : Nat) (d : Dk) (b : Bk) (sh : List Shp) (hh : Hs w F h a dk d b sh) (hu : Up w F) (hs : sh.length ≤ 16) (B : Nat) (A1 : Option Addr) (n1 c1 : Nat) (A2 : Option Addr) (n2 c2 : Nat) (u : List UInt8) (x y z : Int) (hA : ArgsW B w A1 n1 c1 A2 n2 c2 [u] [x, y, z]) :
    Calls Tryz.prog 105 #[.pointer (some ⟨h, 0, none⟩), .agg #[.slice A1 n1 c1, .slice A2 n2 c2]] w fun e w' => ∃ r, e = .returned r ∧ AnsT (if sh.length < 16 then [] else bangL 9) r w' ∧ Hs w' F h a dk d b (if sh.length < 16 then sh ++ [⟨x, y, z, decide (u = turnW)⟩] else sh) ∧ Kx F w w' := by
  refine calls_cps ?_
  intro R hR
  have l1 := hA.l1
  have l2 := hA.l2
  simp only [List.length_cons, List.length_nil, Nat.zero_add, Nat.reduceAdd] at l1 l2
  subst l1 l2
  obtain ⟨w1, hw1⟩ : ∃ w1, w.alloc (.cells #[.slice A1 1 c1, .slice A2 3 c2] 76) = w1 := ⟨_, rfl⟩
  have hbx := heap_alloc_new w (.cells #[.slice A1 1 c1, .slice A2 3 c2] 76)
  have hbl := below_new w (.cells #[.slice A1 1 c1, .slice A2 3 c2] 76)
  rw [hw1] at hbx hbl
  have HW1 := Lib.hid hw1
  have hbd : Below w.heap.size w w1.drew := hbl.trans ((below_drewn (w := w1) 1).mono hbl.size)
  have hA1 := hA.below hbl
  obtain ⟨bi, oi, x0, rfl, hbi, hx0, p0⟩ := hA1.s2.at1 (k := 0) (by omega)
  obtain ⟨bi', oi', x1, e1, -, hx1, p1⟩ := hA1.s2.at1 (k := 1) (by omega)
  cases e1
  obtain ⟨bi', oi', x2, e1, -, hx2, p2⟩ := hA1.s2.at1 (k := 2) (by omega)
  cases e1
  obtain ⟨bs, os, y0, rfl, hbs, hy0, r0⟩ := strs_at hA1.s1 (k := 0) (by omega)
  simp only [List.getElem?_cons_zero, List.getElem?_cons_succ, Option.some.injEq] at hx0 hx1 hx2
  subst hx0 hx1 hx2
  have hyu : y0.toList = u := by
    unfold strL at hy0
    simp only [List.map_cons, List.map_nil, List.getElem?_cons_zero, Option.some.injEq] at hy0
    rw [← hy0, Lib.toList_data]
  rw [Nat.add_zero] at p0 r0
  obtain ⟨c0, c1', -⟩ := cells2 hbx
  have hp : (y0.toList == [116, 117, 114, 110]) = decide (u = turnW) := by
    rw [hyu, Bool.eq_iff_iff, beq_iff_eq, decide_eq_true_eq]
    rfl
  obtain ⟨t, ht⟩ : ∃ t, decide (u = turnW) = t := ⟨_, rfl⟩
  rw [ht] at hp hR
  have Hr := Lib.hid hR.out
  have HG := Lib.hid (grow_any w1.drew F h a dk d b sh ⟨x, y, z, t⟩ (hh.below hbd) (hu.below hbd) hs)
  have HK := Lib.hid (kx_of_below (S := F) hbd)
  obtain ⟨A, c, k0, -⟩ := (hh.below hbl).at
  have Hu := Lib.hid hyu
  clear hR hA hA1 hbx hbl hbd hy0 hyu ht hh hu hw1
  go_enter Tryz.func105, Tryz.ntmps105
  go_upto_region 1 with fail
  rw [HW1.out]
  go_wp2_with fail
  go_still_tail 18, (by kernel_rfl)
  go_wp2_with fail
  refine HG.out.mono ?_
  rintro e w2 ⟨r, rfl, q1, q2, q3⟩
  have hf := Hr.out _ _ ⟨r, rfl, q1, q2, HK.out.trans q3 (fun _ _ h => h)⟩
  have HF := Lib.hid hf
  clear hf q1 q2 q3 Hr
  go_wp2
  exact HF.out
end
end Go.Proofs.YtndcijkgaadpgaaGreatDoor
