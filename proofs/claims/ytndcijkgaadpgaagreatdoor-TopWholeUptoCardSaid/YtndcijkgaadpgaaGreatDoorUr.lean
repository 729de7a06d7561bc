/-
  (*House).post: the moves of a line are posted; conditions: the cells hold a house, the tables lie below a block, there are three words for each number. (*House).reverse: an entry of the book the other way round, at any number; conditions: the cells hold a house, the tables lie below a block.
-/
import Derived.Test.YtndcijkgaadpgaaGreatDoorUq
import Derived.StillTailTactics
namespace Go.Proofs.YtndcijkgaadpgaaGreatDoor
section
section
open Go.RowKit Go.Shelf
/-- The move at one of the numbers. -/
def mvAt (ws : List (List UInt8)) (k : Nat) (q : Int) : Mv := ⟨⟨(ws.getD (3 * k) []).toArray⟩, ⟨(ws.getD (3 * k + 1) []).toArray⟩, ⟨(ws.getD (3 * k + 2) []).toArray⟩, q⟩
def mvsFrom (ws : List (List UInt8)) : Nat → List Int → List Mv
  | _, [] => []
  | k, q :: r => mvAt ws k q :: mvsFrom ws (k + 1) r
/-- The moves of a line. -/
def mvsOf (ws : List (List UInt8)) (ns : List Int) : List Mv := mvsFrom ws 0 ns
theorem mvsFrom_snoc (ws : List (List UInt8)) (q : Int) : ∀ (l : List Int) (k : Nat), mvsFrom ws k (l ++ [q]) = mvsFrom ws k l ++ [mvAt ws (k + l.length) q]
  | [], k => rfl
  | a :: l, k => by
    rw [List.cons_append, mvsFrom, mvsFrom, mvsFrom_snoc ws q l (k + 1), List.length_cons, show k + 1 + l.length = k + (l.length + 1) by omega]
    rfl
theorem mvsOf_take {ws : List (List UInt8)} {ns : List Int} {k : Nat} {q : Int} (h : ns[k]? = some q) : mvsOf ws (ns.take (k + 1)) = mvsOf ws (ns.take k) ++ [mvAt ws k q] := by
  have hk := (List.getElem?_eq_some_iff.1 h).1
  unfold mvsOf
  rw [List.take_add_one, h]
  show mvsFrom ws 0 (ns.take k ++ [q]) = _
  rw [mvsFrom_snoc, List.length_take, Nat.min_eq_left (by omega), Nat.zero_add]
theorem mvsFrom_len (ws : List (List UInt8)) : ∀ (l : List Int) (k : Nat), (mvsFrom ws k l).length = l.length
  | [], _ => rfl
  | a :: l, k => by rw [mvsFrom, List.length_cons, List.length_cons, mvsFrom_len ws l]
theorem mvsOf_len (ws : List (List UInt8)) (l : List Int) : (mvsOf ws l).length = l.length := mvsFrom_len ws l 0
theorem getD_small {ws : List (List UInt8)} {k : Nat} (h : ∀ x ∈ ws, x.length ≤ 1000000) : (ws.getD k []).length ≤ 1000000 := by
  rw [List.getD_eq_getElem?_getD]
  cases hx : ws[k]? with
  | none => simp
  | some x => exact h x (List.mem_of_getElem? hx)
theorem mvsFrom_small {ws : List (List UInt8)} (h : ∀ x ∈ ws, x.length ≤ 1000000) : ∀ (l : List Int) (k : Nat), mvS (mvsFrom ws k l)
  | [], _ => fun m hm => by cases hm
  | a :: l, k => fun m hm => by
    rcases List.mem_cons.1 hm with rfl | hm
    · have h1 := getD_small (k := 3 * k) h
      have h2 := getD_small (k := 3 * k + 1) h
      have h3 := getD_small (k := 3 * k + 2) h
      refine ⟨?_, ?_, ?_⟩
      · rw [ba_size]; show (ws.getD (3 * k) []).length ≤ _; omega
      · rw [ba_size]; show (ws.getD (3 * k + 1) []).length ≤ _; omega
      · rw [ba_size]; show (ws.getD (3 * k + 2) []).length ≤ _; omega
    · exact mvsFrom_small h l (k + 1) m hm
theorem str_getD {w : World} {b o n k : Nat} {ws : List (List UInt8)} (h : SlE strE 1 w (some ⟨b, o, none⟩) n (strL ws)) (hk : k < n) : w.cell? ⟨b, o + k, none⟩ = some (.string ⟨(ws.getD k []).toArray⟩) := by
  obtain ⟨b', o', x, e, _, hx, hc⟩ := strs_at h hk
  cases e
  unfold strL at hx
  rw [List.getElem?_map] at hx
  cases hy : ws[k]? with
  | none => rw [hy] at hx; cases hx
  | some y =>
    rw [hy] at hx
    simp only [Option.map_some, Option.some.injEq] at hx
    rw [hc, List.getD_eq_getElem?_getD, hy, ← hx]
    rfl
set_option maxRecDepth 8000 in
set_option maxHeartbeats 8000000 in
theorem hpost_any (w : World) (F : Nat → Prop) (h a dk : Nat) (d : Dk) (b : Bk) (sh : List Shp) (hh : Hs w F h a dk d b sh) (hi : Inv d b) (hu : Up w F) (B : Nat) (A1 : Option Addr) (n1 c1 : Nat) (A2 : Option Addr) (n2 c2 : Nat) (ws : List (List UInt8)) (ns : List Int) (hA : ArgsW B w A1 n1 c1 A2 n2 c2 ws ns) (h3 : ws.length = 3 * ns.length) (hn : ns.length ≤ 5000) (hws : ∀ x ∈ ws, x.length ≤ 1000000) (bg : Nat) (hg : Gl bg w) (hb : bg ≤ w.heap.size) (hF : ∀ j, F j → bg ≤ j) :
    Calls Tryz.prog 108 #[.pointer (some ⟨h, 0, none⟩), .agg #[.slice A1 n1 c1, .slice A2 n2 c2]] w fun e w' => ∃ v, e = .returned v ∧ AnsT (postT (postB d b (mvsOf ws ns))) v w' ∧ Hs w' F h a dk (postB d b (mvsOf ws ns)).1 (postB d b (mvsOf ws ns)).2.1 sh ∧ Kx F w w' := by
  refine calls_cps ?_
  intro R hR
  have Hr := Lib.hid hR.out
  have HH := Lib.hid hh
  have HI := Lib.hid hi
  have HU := Lib.hid hu
  have HG := Lib.hid hg
  have HA := Lib.hid hA
  have HMS := Lib.hid (show mvS (mvsOf ws ns) from mvsFrom_small hws ns 0)
  have l1 := hA.l1
  have l2 := hA.l2
  have hc1 := (own_cap hA.o1).1
  have L1 := Lib.hid l1
  have L2 := Lib.hid l2
  have hn1 : n1 = 3 * n2 := by omega
  have Hn1 := Lib.hid hn1
  have hn2 : n2 ≤ 5000 := by omega
  obtain ⟨w1, hw1⟩ : ∃ w1, w.alloc (.cells #[.slice A1 n1 c1, .slice A2 n2 c2] 76) = w1 := ⟨_, rfl⟩
  have hbx := heap_alloc_new w (.cells #[.slice A1 n1 c1, .slice A2 n2 c2] 76)
  have hbl := below_new w (.cells #[.slice A1 n1 c1, .slice A2 n2 c2] 76)
  rw [hw1] at hbx hbl
  have HW1 := Lib.hid hw1
  have hs1 : w1.heap.size = w.heap.size + 1 := by rw [← hw1]; simp
  have Hs1 := Lib.hid hs1
  have HBX := Lib.hid hbx
  have HBL := Lib.hid hbl
  have HA1 := Lib.hid (hA.below hbl)
  obtain ⟨x0, x1, -⟩ := cells2 hbx
  clear hR hh hi hu hg hA hws l1 l2 hn1 h3 hbx hbl hw1 hs1
  go_enter Tryz.func108, Tryz.ntmps108
  go_wp2_with fail
  rw [HW1.out]
  clear x0 x1
  go_loopw [5, 12] (fun s5 s12 wr => ∃ (k : Nat) (A' : Option Addr) (c' : Nat), k ≤ n2 ∧ s12 = .int .i64 (k : Int) ∧ s5 = .slice A' k c' ∧ Hid (wr.ownsRow w1.heap.size 142 4 (.slice A' k c') k ((mvsOf ws (ns.take k)).flatMap mvE)) ∧ Hid (Below w1.heap.size w1 wr)) (fun _ s12 _ => n2 - (intOf s12).toNat)
  case atStart => exact ⟨0, none, 0, Nat.zero_le _, rfl, rfl, Lib.hid (by rw [List.take_zero]; exact World.ownsRow_nil _ _ _ _), Lib.hid (Below.refl _ _)⟩
  case round =>
    obtain ⟨k, A', c', hk, rfl, rfl, Ho, Hb⟩ := hrel
    obtain ⟨x0, x1, -⟩ := cells2 ((Hb.out.block w.heap.size (by have := Hs1.out; omega)).trans HBX.out)
    by_cases hlt : k < n2
    · have hsl := (HA1.out.below Hb.out).s1
      obtain ⟨bi, oi, q, rfl, hbi, hq, q0⟩ := ((HA1.out.below Hb.out).s2).at1 hlt
      obtain ⟨bs, os, ys, rfl, hbs, hys, -⟩ := strs_at hsl (k := 3 * k) (by have := Hn1.out; omega)
      have p0 := str_getD hsl (k := 3 * k) (by have := Hn1.out; omega)
      have p1 := str_getD hsl (k := 3 * k + 1) (by have := Hn1.out; omega)
      have p2 := str_getD hsl (k := 3 * k + 2) (by have := Hn1.out; omega)
      have HM := Lib.hid (mvsOf_take (ws := ws) hq)
      obtain ⟨m, hm⟩ : ∃ m, mvAt ws k q = m := ⟨_, rfl⟩
      have e0 : (⟨(ws.getD (3 * k) []).toArray⟩ : ByteArray) = m.f := by rw [← hm]; rfl
      have e1 : (⟨(ws.getD (3 * k + 1) []).toArray⟩ : ByteArray) = m.t := by rw [← hm]; rfl
      have e2 : (⟨(ws.getD (3 * k + 2) []).toArray⟩ : ByteArray) = m.i := by rw [← hm]; rfl
      have e3 : q = m.q := by rw [← hm]; rfl
      rw [hm] at HM
      rw [e0] at p0
      rw [e1, ← Nat.add_assoc] at p1
      rw [e2, ← Nat.add_assoc] at p2
      rw [e3] at q0
      have i1 : (k : Int) < (n2 : Int) := by omega
      have i2 : 3 * (k : Int) < (n1 : Int) := by have := Hn1.out; omega
      have i3 : 3 * (k : Int) + 2 < (n1 : Int) := by have := Hn1.out; omega
      have i4 : 3 * k < c1 := by have := Hn1.out; omega
      have j0 : 0 < n1 - 3 * k := by have := Hn1.out; omega
      have j1 : (1 : Int) < ((n1 - 3 * k : Nat) : Int) := by have := Hn1.out; omega
      have j2 : (2 : Int) < ((n1 - 3 * k : Nat) : Int) := by have := Hn1.out; omega
      have Hsz := Lib.hid Hb.out.size
      have HO2 := Lib.hid (own_drew (Ho.out.alloc (.cells #[.string m.f, .string m.t, .string m.i, .int .i64 m.q] 142)))
      have HSl := Lib.hid (Sl.drew (Sl.new wr #[.string m.f, .string m.t, .string m.i, .int .i64 m.q] 142 4 1 rfl))
      have hszd : w1.heap.size ≤ (wr.alloc (.cells #[.string m.f, .string m.t, .string m.i, .int .i64 m.q] 142)).drew.heap.size := by show w1.heap.size ≤ (wr.alloc (.cells #[.string m.f, .string m.t, .string m.i, .int .i64 m.q] 142)).heap.size; rw [World.size_alloc]; have := Hsz.out; omega
      have Hstep := Lib.hid (fun (A7 : Option Addr) (c7 : Nat) (w7 : World) (ho7 : w7.ownsRow w1.heap.size 142 4 (.slice A7 (k + 1) c7) (k + 1) ((mvsOf ws (ns.take k)).flatMap mvE ++ [.string m.f, .string m.t, .string m.i, .int .i64 m.q])) (hg7 : (wr.alloc (.cells #[.string m.f, .string m.t, .string m.i, .int .i64 m.q] 142)).drew.grownBy w7 (Value.slice A' k c').ownBlock) => (⟨below_own ((Hb.out.alloc Hsz.out _).drew) HO2.out (Nat.le_refl _) hszd hg7, by rw [HM.out, List.flatMap_append]; simpa [mvE] using ho7⟩ : Below w1.heap.size w1 w7 ∧ w7.ownsRow w1.heap.size 142 4 (.slice A7 (k + 1) c7) (k + 1) ((mvsOf ws (ns.take (k + 1))).flatMap mvE)))
      clear hsl hq hys hm e0 e1 e2 e3 Ho
      go_upto_region 6 with fail
      go_region_law ((refine step_app rfl (.tmp 22) (.tmp 34) 116 rfl elemMv w1.heap.size (.slice A' k c') k _ ?_ HO2.out (some ⟨wr.heap.size, 0, none⟩) 1 1 [.string m.f, .string m.t, .string m.i, .int .i64 m.q] ?_ HSl.out (mv_one [m]) (by unfold maxLen; omega) (by omega) hszd ?_; (· (simp [Act.eval])); (· (simp [Act.eval])); intro A7 c7 w7 ho7 hg7 hp7; obtain ⟨hb7, ho8⟩ := Hstep.out A7 c7 w7 ho7 hg7))
      all_goals
        have HO7 := Lib.hid ho8
        have HB7 := Lib.hid hb7
        clear ho7 hg7 ho8 hb7 hp7
        go_wp2_with fail
        exact ⟨⟨k + 1, A7, c7, hlt, by go_num, rfl, HO7, HB7⟩, by simp [intOf] <;> omega⟩
    · have hkn : k = n2 := by omega
      subst hkn
      have i1 : ¬ (k : Int) < (k : Int) := by omega
      have hlow : Below w.heap.size w wr := HBL.out.trans (Hb.out.mono (by have := Hs1.out; omega))
      have ho := own_mono Ho.out (Nat.zero_le _)
      rw [List.take_of_length_le (by rw [← L2.out]; exact Nat.le_refl _)] at ho
      have HP := Lib.hid (posted_any wr F h a dk d b sh (HH.out.below hlow) HI.out (HU.out.below hlow) A' k c' (mvsOf ws ns) ho (by rw [mvsOf_len]; exact L2.out) HMS.out (by omega) bg (HG.out.on (hlow.mono hb)) (Nat.le_trans hb hlow.size) hF)
      have HLow := Lib.hid hlow
      clear ho hlow Ho Hb
      go_wp2_with fail
      refine HP.out.mono ?_
      rintro e w5 ⟨v, rfl, q1, q2, q3⟩
      have hfin := Hr.out _ _ ⟨v, rfl, q1, q2, (kx_of_below HLow.out).trans q3 (fun _ _ h => h)⟩
      have HFin := Lib.hid hfin
      clear hfin q1 q2 q3 Hr
      go_wp2
      exact HFin.out
end
end
section
section
open Go.RowKit Go.Shelf
/-- Reverse at any number. -/
def revB (d : Dk) (b : Bk) (v : Int) : Dk × Bk × Int := if b.br = true then (d, b, 8) else if v < 0 ∨ (b.E.length : Int) ≤ v then (d, b, 1) else postB d b (revE (b.E.getD v.toNat []))
theorem Inv.rev {d : Dk} {b : Bk} (h : Inv d b) (v : Int) : Inv (revB d b v).1 (revB d b v).2.1 := by
  unfold revB
  split
  · exact h
  · split
    · exact h
    · exact h.post _
theorem rev_code (d : Dk) (b : Bk) (v : Int) : i64B (revB d b v).2.2 := by
  unfold revB
  split
  · exact ⟨by dsimp only; decide, by dsimp only; decide⟩
  · split
    · exact ⟨by dsimp only; decide, by dsimp only; decide⟩
    · exact post_code _ _ _
set_option maxRecDepth 8000 in
set_option maxHeartbeats 4000000 in
theorem revn_any (w : World) (F : Nat → Prop) (a dk : Nat) (d : Dk) (b : Bk) (h : Bd w F a dk d b) (hi : Inv d b) (hu : Up w F) (v : Int) :
    Calls Tryz.prog 173 #[.pointer (some ⟨a, 0, none⟩), .int .i64 v] w fun e w' => e = .returned (.int .i64 (revB d b v).2.2) ∧ Bd w' F a dk (revB d b v).1 (revB d b v).2.1 ∧ Kx F w w' := by
  by_cases hbr : b.br = true
  · refine calls_cps ?_
    intro R hR
    have Hf := Lib.hid (hR.out (.returned (.int .i64 8)) w (by unfold revB; rw [if_pos hbr]; exact ⟨rfl, h, Kx.refl _ _⟩))
    have HK := Lib.hid (broken_any w F a dk b h.book)
    rw [hbr] at HK
    clear hR h hi hu hbr
    go_enter Tryz.func173, Tryz.ntmps173
    go_wp2_with (go_at_call 244; (with_reducible refine HK.out.mono ?_); rintro e w' ⟨rfl, rfl⟩)
    exact Hf.out
  · have hbr' : b.br = false := by simpa using hbr
    by_cases hv : v < 0 ∨ (b.E.length : Int) ≤ v
    · refine calls_cps ?_
      intro R hR
      have Hf := Lib.hid (hR.out (.returned (.int .i64 1)) w (by unfold revB; rw [if_neg hbr, if_pos hv]; exact ⟨rfl, h, Kx.refl _ _⟩))
      have HK := Lib.hid (broken_any w F a dk b h.book)
      rw [hbr'] at HK
      obtain ⟨A0, c0, mb, n0, d0, d1, d2, d3, -⟩ := h.book.cells
      clear hR h hi hu hbr hbr'
      by_cases h0 : v < 0
      · clear hv
        go_enter Tryz.func173, Tryz.ntmps173
        go_wp2_with (go_at_call 244; (with_reducible refine HK.out.mono ?_); rintro e w' ⟨rfl, rfl⟩)
        exact Hf.out
      · have h1 : (b.E.length : Int) ≤ v := by omega
        clear hv
        go_enter Tryz.func173, Tryz.ntmps173
        go_wp2_with (go_at_call 244; (with_reducible refine HK.out.mono ?_); rintro e w' ⟨rfl, rfl⟩)
        exact Hf.out
    · have hx : v.toNat < b.E.length := by omega
      have hg : b.E.getD v.toNat [] = b.E[v.toNat] := by rw [List.getD_eq_getElem?_getD, List.getElem?_eq_getElem hx]; rfl
      have he : revB d b v = postB d b (revE b.E[v.toNat]) := by unfold revB; rw [if_neg hbr, if_neg hv, hg]
      have hvv : v = ((v.toNat : Nat) : Int) := by omega
      rw [he]
      have h2 := reverse_any w F a dk d b h hi hu hbr' v.toNat b.E[v.toNat] (List.getElem?_eq_getElem hx) (hi.ent _ (List.getElem_mem hx))
      rw [← hvv] at h2
      exact h2
set_option maxRecDepth 8000 in
set_option maxHeartbeats 4000000 in
theorem hrev_any (w : World) (F : Nat → Prop) (h a dk : Nat) (d : Dk) (b : Bk) (sh : List Shp) (hh : Hs w F h a dk d b sh) (hi : Inv d b) (hu : Up w F) (B : Nat) (A1 : Option Addr) (n1 c1 : Nat) (A2 : Option Addr) (n2 c2 : Nat) (ws : List (List UInt8)) (v : Int) (hA : ArgsW B w A1 n1 c1 A2 n2 c2 ws [v]) (bg : Nat) (hg : Gl bg w) (hb : bg ≤ w.heap.size) (hF : ∀ j, F j → bg ≤ j) :
    Calls Tryz.prog 109 #[.pointer (some ⟨h, 0, none⟩), .agg #[.slice A1 n1 c1, .slice A2 n2 c2]] w fun e w' => ∃ r, e = .returned r ∧ AnsT (postT (revB d b v)) r w' ∧ Hs w' F h a dk (revB d b v).1 (revB d b v).2.1 sh ∧ Kx F w w' := by
  refine calls_cps ?_
  intro R hR
  obtain ⟨w1, hw1⟩ : ∃ w1, w.alloc (.cells #[.slice A1 n1 c1, .slice A2 n2 c2] 76) = w1 := ⟨_, rfl⟩
  have hbx := heap_alloc_new w (.cells #[.slice A1 n1 c1, .slice A2 n2 c2] 76)
  have hbl := below_new w (.cells #[.slice A1 n1 c1, .slice A2 n2 c2] 76)
  rw [hw1] at hbx hbl
  have HW1 := Lib.hid hw1
  have hbd : Below w.heap.size w w1.drew := hbl.trans ((below_drewn (w := w1) 1).mono hbl.size)
  obtain ⟨x0, x1, -⟩ := cells2 hbx
  obtain ⟨A0, c0, -, -, q14, -⟩ := (hh.below hbl).at
  have hA1 := hA.below hbl
  have l2 := hA.l2
  simp only [List.length_cons, List.length_nil, Nat.zero_add] at l2
  subst l2
  obtain ⟨bi, oi, x, rfl, hbi, hx, p0⟩ := hA1.s2.at1 (k := 0) (by omega)
  have hxv : x = v := by simpa using hx.symm
  subst hxv
  rw [Nat.add_zero] at p0
  have hhd := hh.below hbd
  have HP := Lib.hid (revn_any w1.drew (HsG w1.drew F) a dk d b hhd.book hi (up_G (hu.below hbd)) x)
  have HI := Lib.hid (hi.rev x)
  have HC := Lib.hid (rev_code d b x)
  have HH := Lib.hid hhd
  have HG := Lib.hid (hg.on (hbd.mono hb))
  have HK0 := Lib.hid (kx_of_below (S := F) hbd)
  obtain ⟨P, hP⟩ : ∃ P, revB d b x = P := ⟨_, rfl⟩
  rw [hP] at HP HI HC hR
  have Hr := Lib.hid hR.out
  have hb1 := Nat.le_trans hb hbd.size
  clear hR hP hh hi hu hg hA hA1 hx hbx hbl hw1 hbd hhd
  go_enter Tryz.func109, Tryz.ntmps109
  go_wp2_with fail
  rw [HW1.out]
  go_still_tail 8, (by kernel_rfl)
  go_wp2_with fail
  refine HP.out.mono ?_
  rintro e w2 ⟨rfl, hb2, hk2⟩
  have hh2 := HH.out.after hb2 hk2
  obtain ⟨A3, c3, -, -, p14, -⟩ := hh2.at
  obtain ⟨N, hN⟩ : ∃ N, P.2.1.E.length = N := ⟨_, rfl⟩
  have HCn := Lib.hid (count_any w2 F a dk _ hh2.bd.book)
  rw [hN] at HCn
  have hN2 : N ≤ 9362 := by rw [← hN]; exact HI.out.few
  have HN := Lib.hid hN
  have HH2 := Lib.hid hh2
  have HK1 := Lib.hid (hk2.mono (T := F) fun j hj => hj.1)
  have HG1 := Lib.hid (HG.out.kx HK1.out hF hb1)
  have hsz := hk2.size
  have Hsz := Lib.hid hsz
  clear hb2 hk2 hh2 hN hsz q14 x0 x1 p0
  go_wp2_with fail
  refine HCn.out.mono ?_
  rintro e w2' ⟨rfl, rfl⟩
  go_wp2_with fail
  have HB2 := Lib.hid (below_new w2 (.cells #[.int .i64 ((N : Int) - 1)] 3))
  have HRow := Lib.hid (row_any ⟨entW.toArray⟩ (some ⟨w2.heap.size, 0, none⟩) 1 1 [(N : Int) - 1] (w2.alloc (.cells #[.int .i64 ((N : Int) - 1)] 3)) ⟨rfl, by have h := Sl.newAt w2 #[.int .i64 ((N : Int) - 1)] 3 1 1 rfl rfl; exact h⟩ (by omega) (by decide) (fun x hx => by rw [List.mem_singleton] at hx; subst hx; exact ⟨by omega, by omega⟩) bg (HG1.out.on (HB2.out.mono (by have := Hsz.out; omega))) (by have := Hsz.out; simp; omega))
  refine HRow.out.mono ?_
  rintro e w3 ⟨rfl, hb3⟩
  have HB3 := Lib.hid (HB2.out.trans (hb3.mono HB2.out.size))
  clear hb3
  go_wp2_with fail
  have hx4 := str_new w3 [⟨(rowL entW [(N : Int) - 1]).toArray⟩]
  have HA := Lib.hid (ans_row (wd := entW) HC.out (x := (N : Int) - 1) ⟨by omega, by omega⟩ (by decide) hx4)
  have HE := Lib.hid (either_any P.2.2 (some ⟨w3.heap.size, 0, none⟩) 1 1 (w3.alloc (.cells #[.string ⟨(rowL entW [(N : Int) - 1]).toArray⟩] 9)))
  obtain ⟨V, hV⟩ : ∃ V, (if P.2.2 ≠ 0 then Value.iface 61 (.int .i64 P.2.2) else .iface 137 (.slice (some ⟨w3.heap.size, 0, none⟩) 1 1)) = V := ⟨_, rfl⟩
  rw [hV] at HE HA
  refine HE.out.mono ?_
  rintro e w4 ⟨rfl, rfl⟩
  have hb4 : Below w2.heap.size w2 (w3.alloc (.cells #[.string ⟨(rowL entW [(N : Int) - 1]).toArray⟩] 9)) := HB3.out.trans ((below_new w3 _).mono HB3.out.size)
  have hfin := Hr.out _ _ ⟨_, rfl, by unfold postT; rw [HN.out]; exact HA.out, HH2.out.below hb4, (HK0.out.trans HK1.out (fun _ _ h => h)).below hb4⟩
  have HFin := Lib.hid hfin
  clear Hr hx4 hb4 hfin hV
  go_wp2
  exact HFin.out
end
end
end Go.Proofs.YtndcijkgaadpgaaGreatDoor
