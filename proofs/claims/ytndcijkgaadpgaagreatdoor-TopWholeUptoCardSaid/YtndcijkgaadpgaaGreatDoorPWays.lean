/-
  The contracts of (*saw).ways and of the iterator that it hands back: all that can be done with a rectangle comes, in the document's order; conditions: the saw's table holds the values of the smaller rectangles.
-/
import Derived.Test.YtndcijkgaadpgaaGreatDoorUx
namespace Go.Proofs.YtndcijkgaadpgaaGreatDoor
open Go.RowKit Go.Shelf
attribute [local go_sem] Oper.semAt_some

theorem callsIn_cps {F : Fence} {n : Nat} {P : Program} {f : FuncId} {args : Array Value} {w : World} {Q : Ending → World → Prop}
    (h : ∀ R : Ending → World → Prop, Hid (∀ e w', Q e w' → R e w') → CallsIn F n P f args w R) : CallsIn F n P f args w Q := h Q fun _ _ h => h

set_option maxHeartbeats 1000000 in
theorem ways_any (p : Option Addr) (x y : Int) (w : World) :
    Calls Tryz.prog 312 #[.pointer p, .int .i64 x, .int .i64 y] w fun e w' =>
      e = .returned (.func (.func 377) #[] #[.pointer (some ⟨w.heap.size, 0, none⟩), .pointer (some ⟨w.heap.size + 1, 0, none⟩), .pointer (some ⟨w.heap.size + 1 + 1, 0, none⟩)]) ∧
      w' = ((w.alloc (.cells #[.pointer p] 367)).alloc (.cells #[.int .i64 x] 3)).alloc (.cells #[.int .i64 y] 3) := by
  refine calls_cps ?_
  intro R hR
  go_enter Tryz.func312, Tryz.ntmps312
  go_wp2
  exact hR.out _ _ ⟨rfl, rfl⟩

/-- What the iterator reads: the three boxes that it has captured, the saw's kerf and shapes, and the values of the smaller rectangles. -/
structure WM (W : World) (p b1 : Nat) (x y : Nat) (k : Int) (B : Option Addr) (m d : Nat) (ss : List Shp) : Prop where
  cs : W.cell? ⟨b1, 0, none⟩ = some (.pointer (some ⟨p, 0, none⟩))
  cw : W.cell? ⟨b1 + 1, 0, none⟩ = some (.int .i64 x)
  ch : W.cell? ⟨b1 + 1 + 1, 0, none⟩ = some (.int .i64 y)
  ck : W.cell? ⟨p, 0, none⟩ = some (.int .i64 k)
  csh : W.cell? ⟨p, 1, none⟩ = some (.slice B m d)
  t1 : ∀ a : Nat, a < x → W.cell? ⟨p, 2 + a * 65 + y, none⟩ = some (.int .i64 (val k ss a y))
  t2 : ∀ a : Nat, a < y → W.cell? ⟨p, 2 + x * 65 + a, none⟩ = some (.int .i64 (val k ss x a))
  shs : SlE Shp.enc 4 W B m ss
/-- The blocks of all of it are not mo. -/
structure WB (mo : Option Nat) (p b1 : Nat) (B : Option Addr) (m : Nat) : Prop where
  op : some p ≠ mo
  o1 : some b1 ≠ mo
  o2 : some (b1 + 1) ≠ mo
  o3 : some (b1 + 1 + 1) ≠ mo
  osh : 0 < m → ∀ a, B = some a → some a.block ≠ mo
theorem WM.keep {W W' : World} {mo : Option Nat} {p b1 x y : Nat} {k : Int} {B : Option Addr} {m d : Nat} {ss : List Shp} (h : WM W p b1 x y k B m d ss) (hb : WB mo p b1 B m) (hk : KC mo W W') : WM W' p b1 x y k B m d ss :=
  ⟨hk.cell h.cs hb.o1, hk.cell h.cw hb.o2, hk.cell h.ch hb.o3, hk.cell h.ck hb.op, hk.cell h.csh hb.op, fun a ha => hk.cell (h.t1 a ha) hb.op, fun a ha => hk.cell (h.t2 a ha) hb.op,
   ⟨h.shs.1, h.shs.2.1, fun hm => by
    obtain ⟨b, o, e, hlt, hc⟩ := h.shs.2.2 hm
    exact ⟨b, o, e, Nat.lt_of_lt_of_le hlt hk.1, fun j u hu => hk.cell (p := ⟨b, o + j, none⟩) (hc j u hu) (hb.osh hm ⟨b, o, none⟩ e)⟩⟩⟩

theorem grown_drewN' (w : World) (n : Nat) : w.grownBy (w.drewN n) none := ⟨rfl, rfl, rfl, Nat.le_refl _, fun _ _ _ => rfl⟩
def wayV (x : Way) : Value := .agg #[.int .i64 x.1.1, .int .i64 x.1.2, .int .i64 x.2]
theorem shWs_drop (w h : Int) (s : Shp) : ∀ (ss : List Shp) (i k : Nat), ss[k]? = some s → shWs w h (i + k) (ss.drop k) = shW w h (i + k) s ++ shWs w h (i + (k + 1)) (ss.drop (k + 1)) := by
  intro ss i k hk
  obtain ⟨hlt, rfl⟩ := List.getElem?_eq_some_iff.1 hk
  rw [List.drop_eq_getElem_cons hlt, shWs]
  rfl

set_option maxRecDepth 100000 in
set_option maxHeartbeats 4000000 in
theorem ways1_in (n l : Nat) (mo : Option Nat) (p b1 x y : Nat) (k : Int) (B : Option Addr) (m d : Nat) (ss : List Shp) (hb : WB mo p b1 B m) (hn : 1 ≤ n) (hx1 : 1 ≤ x) (hx : x ≤ 64) (hy1 : 1 ≤ y) (hy : y ≤ 64) (hk0 : 0 ≤ k) (hk8 : k ≤ 8) (hss : ss.length ≤ 16)
    (hok : ∀ s ∈ ss, 1 ≤ s.W ∧ 1 ≤ s.H ∧ 0 ≤ s.V ∧ s.V ≤ 1000000) (J Jx : List Way → World → Prop) (hJa : ∀ cur W W', J cur W → W.grownBy W' none → J cur W')
    (hY : ∀ cur w rest W1, cur ++ w :: rest = ways (val k ss) k ss x y → J cur W1 → YieldAt Fence.wide (n - 1) Tryz.prog l #[wayV w] W1 fun e W' =>
      (e = .returned (.bool true) ∧ J (cur ++ [w]) W' ∧ KC mo W1 W') ∨ (e = .returned (.bool false) ∧ Jx (cur ++ [w]) W'))
    (W : World) (hmo : ∀ b, mo = some b → b < W.heap.size) (hM : WM W p b1 x y k B m d ss) (h0 : J [] W) :
    CallsIn Fence.wide n Tryz.prog 377 #[.func (.yield l) #[] #[], .pointer (some ⟨b1, 0, none⟩), .pointer (some ⟨b1 + 1, 0, none⟩), .pointer (some ⟨b1 + 1 + 1, 0, none⟩)] W fun e W' =>
      (∃ v, e = .returned v) ∧ (J (ways (val k ss) k ss x y) W' ∨ ∃ cur rest, cur ++ rest = ways (val k ss) k ss x y ∧ Jx cur W') := by
  refine callsIn_cps ?_
  intro R hR
  obtain ⟨wl, hwl⟩ : ∃ wl, ways (val k ss) k ss x y = wl := ⟨_, rfl⟩
  rw [hwl] at hY hR
  have HY := Lib.hid hY
  have Hwl := Lib.hid hwl
  have HJa := Lib.hid hJa
  clear hY hwl hJa
  have HMk := Lib.hid (show ∀ W', KC mo W W' → WM W' p b1 x y k B m d ss from fun W' h => hM.keep hb h)
  obtain ⟨fn, tmps, assign, body, hy0, hR0⟩ := HY.out [] ((0, 0), 0) _ W (by rw [← Hwl.out]; rfl) h0
  unfold wayV at hy0
  dsimp only at hy0
  have hFw : ∀ f, Fence.wide.fn f := fun _ => trivial
  have q1 := hM.cs
  have q2 := hM.cw
  have q3 := hM.ch
  have q5 := hM.csh
  refine callsIn_of_wp Tryz.func377 rfl trivial ?_ rfl
  simp only [Tryz.ntmps377, List.size_toArray, List.length_cons, List.length_nil, Nat.reduceAdd, Nat.reduceSub, Array.replicate_succ, Array.replicate_zero, List.push_toArray, List.append_toArray, List.nil_append, List.cons_append]
  gi_wp2_with fail
  refine hR0.mono ?_
  clear hy0 hR0
  rintro e W1 (⟨rfl, hJ1, hk1⟩ | ⟨rfl, hJx1⟩)
  case inr =>
    have Hfin := Lib.hid (show ∀ v, R (.returned v) W1 from fun v => hR.out _ _ ⟨⟨_, rfl⟩, .inr ⟨_, _, by rw [← Hwl.out]; rfl, hJx1⟩⟩)
    gi_wp2
    refine bodyPost_ret (results_none rfl _ _ _) rfl ?_
    exact Hfin.out _
  case inl =>
    clear q1 q2 q3 q5
    have q1 := (HMk.out W1 hk1).cs
    have q2 := (HMk.out W1 hk1).cw
    have q3 := (HMk.out W1 hk1).ch
    have q5 := (HMk.out W1 hk1).csh
    have hm := Lib.hid (HMk.out W1 hk1).shs.1
    have hm16 : m ≤ 16 := by rw [hm.out]; exact hss
    obtain ⟨tl, htl⟩ : ∃ tl, acW (val k ss) k x y ((x : Int) - 1).toNat ++ dnW (val k ss) k x y ((y : Int) - 1).toNat = tl := ⟨_, rfl⟩
    have Htl := Lib.hid htl
    clear htl
    gi_wp2_with fail
    gi_loopw [20] (fun i wr => ∃ (i0 : Nat) (cur : List Way), i0 ≤ m ∧ i = .int .i64 i0 ∧ Hid (cur ++ (shWs x y i0 (ss.drop i0) ++ tl) = wl) ∧ J cur wr ∧ KC mo W wr) (fun i _ => m - (intOf i).toNat)
    case atStart => exact ⟨0, _, Nat.zero_le _, rfl, Lib.hid (by rw [← Hwl.out, ways, ← Htl.out]; rfl), hJ1, hk1⟩
    case round =>
      clear q1 q2 q3 q5 hJ1 hk1
      obtain ⟨i0, cur, hi, rfl, Hcur, hJ, hk⟩ := hrel
      have q1 := (HMk.out wr hk).cs
      have q2 := (HMk.out wr hk).cw
      have q3 := (HMk.out wr hk).ch
      by_cases hlt : i0 < m
      · obtain ⟨b, o, s, rfl, hbl, hs, r0, r1, r2, r3⟩ := (HMk.out wr hk).shs.at4 hlt
        have Hs := Lib.hid hs
        clear hs
        obtain ⟨cT, hT⟩ : ∃ c, s.T = c := ⟨_, rfl⟩
        rw [hT] at r3
        have l1 : b1 < wr.heap.size := World.block_lt_of_cell? wr _ q1
        have l2 : b1 + 1 < wr.heap.size := World.block_lt_of_cell? wr _ q2
        have l3 : b1 + 1 + 1 < wr.heap.size := World.block_lt_of_cell? wr _ q3
        have hJx : J cur (wr.alloc (.cells #[.int .i64 s.W, .int .i64 s.H, .int .i64 s.V, .bool cT] 103)) := HJa.out _ _ _ hJ (World.grownBy_alloc wr _ none)
        have hkx : KC mo W (wr.alloc (.cells #[.int .i64 s.W, .int .i64 s.H, .int .i64 s.V, .bool cT] 103)) := hk.trans (KC.alloc wr _)
        have HX := Lib.hid (show ∀ W2, KC mo (wr.alloc (.cells #[.int .i64 s.W, .int .i64 s.H, .int .i64 s.V, .bool cT] 103)) W2 → W2.cell? ⟨wr.heap.size, 0, none⟩ = some (.int .i64 s.W) ∧ W2.cell? ⟨wr.heap.size, 1, none⟩ = some (.int .i64 s.H) ∧ W2.cell? ⟨wr.heap.size, 2, none⟩ = some (.int .i64 s.V) ∧ W2.cell? ⟨wr.heap.size, 3, none⟩ = some (.bool cT) from fun W2 h => by
          have hc : ∀ j v, (#[Value.int .i64 s.W, .int .i64 s.H, .int .i64 s.V, .bool cT] : Array Value)[j]? = some v → W2.cell? ⟨wr.heap.size, j, none⟩ = some v := fun j v hv =>
            h.cell ((cell_of_row _ _ j _ _ (0, 0) (heap_alloc_new wr _)).trans hv) (fun e => by have h1 := hmo _ e.symm; dsimp only at h1; have h2 := hk.1; omega)
          exact ⟨hc 0 _ rfl, hc 1 _ rfl, hc 2 _ rfl, hc 3 _ rfl⟩)
        obtain ⟨c1, hc1⟩ : ∃ c, (s.W == (x : Int)) = c := ⟨_, rfl⟩
        obtain ⟨c2, hc2⟩ : ∃ c, (s.H == (y : Int)) = c := ⟨_, rfl⟩
        obtain ⟨d1, hd1⟩ : ∃ c, (s.H == (x : Int)) = c := ⟨_, rfl⟩
        obtain ⟨d2, hd2⟩ : ∃ c, (s.W == (y : Int)) = c := ⟨_, rfl⟩
        have ha1 : asB x y s false = (c1 && c2) := by
          rw [← hc1, ← hc2]
          rw [BEq.comm (a := s.W), BEq.comm (a := s.H)]
          simp only [asB, Bool.false_and, Bool.false_or, Bool.not_false, Bool.true_and]
        have ha2 : asB x y s true = (cT && d1 && d2) := by
          rw [← hd1, ← hd2, ← hT]
          rw [BEq.comm (a := s.W), BEq.comm (a := s.H)]
          simp only [asB, Bool.true_and, Bool.not_true, Bool.false_and, Bool.or_false]
        clear hT
        have HA1 := Lib.hid ha1
        have HA2 := Lib.hid ha2
        clear ha1 ha2
        cases c1
        · skip
          cases cT
          · skip
            have hsw : shW x y i0 s = [] ++ [] := by rw [shW_eq, HA1.out, HA2.out]; rfl
            have hcu := Hcur.out
            rw [show shWs x y i0 (ss.drop i0) = shW x y i0 s ++ shWs x y (i0 + 1) (ss.drop (i0 + 1)) by have := shWs_drop x y s ss 0 i0 Hs.out; simpa using this, hsw] at hcu
            clear hsw
            have HT := Lib.hid (show Hid ((cur) ++ (shWs x y (i0 + 1) (ss.drop (i0 + 1)) ++ tl) = wl) from Lib.hid (by simpa using hcu))
            clear hcu
            gi_wp2_with fail
            refine ⟨⟨i0 + 1, cur, by omega, by go_num, HT.out, hJx, hkx⟩, by simp [intOf]; omega⟩
          · skip
            cases d1
            · skip
              have hsw : shW x y i0 s = [] ++ [] := by rw [shW_eq, HA1.out, HA2.out]; rfl
              have hcu := Hcur.out
              rw [show shWs x y i0 (ss.drop i0) = shW x y i0 s ++ shWs x y (i0 + 1) (ss.drop (i0 + 1)) by have := shWs_drop x y s ss 0 i0 Hs.out; simpa using this, hsw] at hcu
              clear hsw
              have HT := Lib.hid (show Hid ((cur) ++ (shWs x y (i0 + 1) (ss.drop (i0 + 1)) ++ tl) = wl) from Lib.hid (by simpa using hcu))
              clear hcu
              gi_wp2_with fail
              refine ⟨⟨i0 + 1, cur, by omega, by go_num, HT.out, hJx, hkx⟩, by simp [intOf]; omega⟩
            · skip
              cases d2
              · skip
                have hsw : shW x y i0 s = [] ++ [] := by rw [shW_eq, HA1.out, HA2.out]; rfl
                have hcu := Hcur.out
                rw [show shWs x y i0 (ss.drop i0) = shW x y i0 s ++ shWs x y (i0 + 1) (ss.drop (i0 + 1)) by have := shWs_drop x y s ss 0 i0 Hs.out; simpa using this, hsw] at hcu
                clear hsw
                have HT := Lib.hid (show Hid ((cur) ++ (shWs x y (i0 + 1) (ss.drop (i0 + 1)) ++ tl) = wl) from Lib.hid (by simpa using hcu))
                clear hcu
                gi_wp2_with fail
                refine ⟨⟨i0 + 1, cur, by omega, by go_num, HT.out, hJx, hkx⟩, by simp [intOf]; omega⟩
              · skip
                have hsw : shW x y i0 s = [] ++ [((2, (i0 : Int)), s.V)] := by rw [shW_eq, HA1.out, HA2.out]; rfl
                have hcu := Hcur.out
                rw [show shWs x y i0 (ss.drop i0) = shW x y i0 s ++ shWs x y (i0 + 1) (ss.drop (i0 + 1)) by have := shWs_drop x y s ss 0 i0 Hs.out; simpa using this, hsw] at hcu
                clear hsw
                have HC2 := Lib.hid (show cur ++ ((2, (i0 : Int)), s.V) :: (shWs x y (i0 + 1) (ss.drop (i0 + 1)) ++ tl) = wl by simpa using hcu)
                have HT := Lib.hid (show Hid ((cur ++ [((2, (i0 : Int)), s.V)]) ++ (shWs x y (i0 + 1) (ss.drop (i0 + 1)) ++ tl) = wl) from Lib.hid (by simpa using hcu))
                clear hcu
                obtain ⟨fn, tmps, assign, body, hy, hRd⟩ := HY.out cur ((2, (i0 : Int)), s.V) _ _ (HC2.out) hJx
                unfold wayV at hy
                dsimp only at hy
                gi_wp2_with fail
                refine hRd.mono ?_
                clear hy hRd
                rintro e W3 (⟨rfl, hJW3, hkW3⟩ | ⟨rfl, hJxW3⟩)
                case inr =>
                  have Hfin := Lib.hid (show ∀ v, R (.returned v) W3 from fun v => hR.out _ _ ⟨⟨_, rfl⟩, .inr ⟨_, _, (List.append_assoc _ _ _).trans (HC2.out), hJxW3⟩⟩)
                  gi_wp2
                  refine bodyPost_ret (results_none rfl _ _ _) rfl ?_
                  exact Hfin.out _
                case inl =>
                  have hk := hkx.trans hkW3
                  gi_wp2_with fail
                  refine ⟨⟨i0 + 1, (cur ++ [((2, (i0 : Int)), s.V)]), by omega, by go_num, HT.out, hJW3, hk⟩, by simp [intOf]; omega⟩
        · skip
          cases c2
          · skip
            cases cT
            · skip
              have hsw : shW x y i0 s = [] ++ [] := by rw [shW_eq, HA1.out, HA2.out]; rfl
              have hcu := Hcur.out
              rw [show shWs x y i0 (ss.drop i0) = shW x y i0 s ++ shWs x y (i0 + 1) (ss.drop (i0 + 1)) by have := shWs_drop x y s ss 0 i0 Hs.out; simpa using this, hsw] at hcu
              clear hsw
              have HT := Lib.hid (show Hid ((cur) ++ (shWs x y (i0 + 1) (ss.drop (i0 + 1)) ++ tl) = wl) from Lib.hid (by simpa using hcu))
              clear hcu
              gi_wp2_with fail
              refine ⟨⟨i0 + 1, cur, by omega, by go_num, HT.out, hJx, hkx⟩, by simp [intOf]; omega⟩
            · skip
              cases d1
              · skip
                have hsw : shW x y i0 s = [] ++ [] := by rw [shW_eq, HA1.out, HA2.out]; rfl
                have hcu := Hcur.out
                rw [show shWs x y i0 (ss.drop i0) = shW x y i0 s ++ shWs x y (i0 + 1) (ss.drop (i0 + 1)) by have := shWs_drop x y s ss 0 i0 Hs.out; simpa using this, hsw] at hcu
                clear hsw
                have HT := Lib.hid (show Hid ((cur) ++ (shWs x y (i0 + 1) (ss.drop (i0 + 1)) ++ tl) = wl) from Lib.hid (by simpa using hcu))
                clear hcu
                gi_wp2_with fail
                refine ⟨⟨i0 + 1, cur, by omega, by go_num, HT.out, hJx, hkx⟩, by simp [intOf]; omega⟩
              · skip
                cases d2
                · skip
                  have hsw : shW x y i0 s = [] ++ [] := by rw [shW_eq, HA1.out, HA2.out]; rfl
                  have hcu := Hcur.out
                  rw [show shWs x y i0 (ss.drop i0) = shW x y i0 s ++ shWs x y (i0 + 1) (ss.drop (i0 + 1)) by have := shWs_drop x y s ss 0 i0 Hs.out; simpa using this, hsw] at hcu
                  clear hsw
                  have HT := Lib.hid (show Hid ((cur) ++ (shWs x y (i0 + 1) (ss.drop (i0 + 1)) ++ tl) = wl) from Lib.hid (by simpa using hcu))
                  clear hcu
                  gi_wp2_with fail
                  refine ⟨⟨i0 + 1, cur, by omega, by go_num, HT.out, hJx, hkx⟩, by simp [intOf]; omega⟩
                · skip
                  have hsw : shW x y i0 s = [] ++ [((2, (i0 : Int)), s.V)] := by rw [shW_eq, HA1.out, HA2.out]; rfl
                  have hcu := Hcur.out
                  rw [show shWs x y i0 (ss.drop i0) = shW x y i0 s ++ shWs x y (i0 + 1) (ss.drop (i0 + 1)) by have := shWs_drop x y s ss 0 i0 Hs.out; simpa using this, hsw] at hcu
                  clear hsw
                  have HC2 := Lib.hid (show cur ++ ((2, (i0 : Int)), s.V) :: (shWs x y (i0 + 1) (ss.drop (i0 + 1)) ++ tl) = wl by simpa using hcu)
                  have HT := Lib.hid (show Hid ((cur ++ [((2, (i0 : Int)), s.V)]) ++ (shWs x y (i0 + 1) (ss.drop (i0 + 1)) ++ tl) = wl) from Lib.hid (by simpa using hcu))
                  clear hcu
                  obtain ⟨fn, tmps, assign, body, hy, hRd⟩ := HY.out cur ((2, (i0 : Int)), s.V) _ _ (HC2.out) hJx
                  unfold wayV at hy
                  dsimp only at hy
                  gi_wp2_with fail
                  refine hRd.mono ?_
                  clear hy hRd
                  rintro e W3 (⟨rfl, hJW3, hkW3⟩ | ⟨rfl, hJxW3⟩)
                  case inr =>
                    have Hfin := Lib.hid (show ∀ v, R (.returned v) W3 from fun v => hR.out _ _ ⟨⟨_, rfl⟩, .inr ⟨_, _, (List.append_assoc _ _ _).trans (HC2.out), hJxW3⟩⟩)
                    gi_wp2
                    refine bodyPost_ret (results_none rfl _ _ _) rfl ?_
                    exact Hfin.out _
                  case inl =>
                    have hk := hkx.trans hkW3
                    gi_wp2_with fail
                    refine ⟨⟨i0 + 1, (cur ++ [((2, (i0 : Int)), s.V)]), by omega, by go_num, HT.out, hJW3, hk⟩, by simp [intOf]; omega⟩
          · skip
            cases cT
            · skip
              have hsw : shW x y i0 s = [((1, (i0 : Int)), s.V)] ++ [] := by rw [shW_eq, HA1.out, HA2.out]; rfl
              have hcu := Hcur.out
              rw [show shWs x y i0 (ss.drop i0) = shW x y i0 s ++ shWs x y (i0 + 1) (ss.drop (i0 + 1)) by have := shWs_drop x y s ss 0 i0 Hs.out; simpa using this, hsw] at hcu
              clear hsw
              have HC1 := Lib.hid (show cur ++ ((1, (i0 : Int)), s.V) :: ([] ++ (shWs x y (i0 + 1) (ss.drop (i0 + 1)) ++ tl)) = wl by simpa using hcu)
              have HT := Lib.hid (show Hid ((cur ++ [((1, (i0 : Int)), s.V)]) ++ (shWs x y (i0 + 1) (ss.drop (i0 + 1)) ++ tl) = wl) from Lib.hid (by simpa using hcu))
              clear hcu
              obtain ⟨fn, tmps, assign, body, hy, hRd⟩ := HY.out cur ((1, (i0 : Int)), s.V) _ _ (HC1.out) hJx
              unfold wayV at hy
              dsimp only at hy
              gi_wp2_with fail
              refine hRd.mono ?_
              clear hy hRd
              rintro e W2 (⟨rfl, hJW2, hkW2⟩ | ⟨rfl, hJxW2⟩)
              case inr =>
                have Hfin := Lib.hid (show ∀ v, R (.returned v) W2 from fun v => hR.out _ _ ⟨⟨_, rfl⟩, .inr ⟨_, _, (List.append_assoc _ _ _).trans (HC1.out), hJxW2⟩⟩)
                gi_wp2
                refine bodyPost_ret (results_none rfl _ _ _) rfl ?_
                exact Hfin.out _
              case inl =>
                have hk := hkx.trans hkW2
                obtain ⟨e1, e2, e3, e4⟩ := HX.out _ hkW2
                have q1 := (HMk.out W2 hk).cs
                have q2 := (HMk.out W2 hk).cw
                have q3 := (HMk.out W2 hk).ch
                gi_wp2_with fail
                refine ⟨⟨i0 + 1, (cur ++ [((1, (i0 : Int)), s.V)]), by omega, by go_num, HT.out, hJW2, hk⟩, by simp [intOf]; omega⟩
            · skip
              cases d1
              · skip
                have hsw : shW x y i0 s = [((1, (i0 : Int)), s.V)] ++ [] := by rw [shW_eq, HA1.out, HA2.out]; rfl
                have hcu := Hcur.out
                rw [show shWs x y i0 (ss.drop i0) = shW x y i0 s ++ shWs x y (i0 + 1) (ss.drop (i0 + 1)) by have := shWs_drop x y s ss 0 i0 Hs.out; simpa using this, hsw] at hcu
                clear hsw
                have HC1 := Lib.hid (show cur ++ ((1, (i0 : Int)), s.V) :: ([] ++ (shWs x y (i0 + 1) (ss.drop (i0 + 1)) ++ tl)) = wl by simpa using hcu)
                have HT := Lib.hid (show Hid ((cur ++ [((1, (i0 : Int)), s.V)]) ++ (shWs x y (i0 + 1) (ss.drop (i0 + 1)) ++ tl) = wl) from Lib.hid (by simpa using hcu))
                clear hcu
                obtain ⟨fn, tmps, assign, body, hy, hRd⟩ := HY.out cur ((1, (i0 : Int)), s.V) _ _ (HC1.out) hJx
                unfold wayV at hy
                dsimp only at hy
                gi_wp2_with fail
                refine hRd.mono ?_
                clear hy hRd
                rintro e W2 (⟨rfl, hJW2, hkW2⟩ | ⟨rfl, hJxW2⟩)
                case inr =>
                  have Hfin := Lib.hid (show ∀ v, R (.returned v) W2 from fun v => hR.out _ _ ⟨⟨_, rfl⟩, .inr ⟨_, _, (List.append_assoc _ _ _).trans (HC1.out), hJxW2⟩⟩)
                  gi_wp2
                  refine bodyPost_ret (results_none rfl _ _ _) rfl ?_
                  exact Hfin.out _
                case inl =>
                  have hk := hkx.trans hkW2
                  obtain ⟨e1, e2, e3, e4⟩ := HX.out _ hkW2
                  have q1 := (HMk.out W2 hk).cs
                  have q2 := (HMk.out W2 hk).cw
                  have q3 := (HMk.out W2 hk).ch
                  gi_wp2_with fail
                  refine ⟨⟨i0 + 1, (cur ++ [((1, (i0 : Int)), s.V)]), by omega, by go_num, HT.out, hJW2, hk⟩, by simp [intOf]; omega⟩
              · skip
                cases d2
                · skip
                  have hsw : shW x y i0 s = [((1, (i0 : Int)), s.V)] ++ [] := by rw [shW_eq, HA1.out, HA2.out]; rfl
                  have hcu := Hcur.out
                  rw [show shWs x y i0 (ss.drop i0) = shW x y i0 s ++ shWs x y (i0 + 1) (ss.drop (i0 + 1)) by have := shWs_drop x y s ss 0 i0 Hs.out; simpa using this, hsw] at hcu
                  clear hsw
                  have HC1 := Lib.hid (show cur ++ ((1, (i0 : Int)), s.V) :: ([] ++ (shWs x y (i0 + 1) (ss.drop (i0 + 1)) ++ tl)) = wl by simpa using hcu)
                  have HT := Lib.hid (show Hid ((cur ++ [((1, (i0 : Int)), s.V)]) ++ (shWs x y (i0 + 1) (ss.drop (i0 + 1)) ++ tl) = wl) from Lib.hid (by simpa using hcu))
                  clear hcu
                  obtain ⟨fn, tmps, assign, body, hy, hRd⟩ := HY.out cur ((1, (i0 : Int)), s.V) _ _ (HC1.out) hJx
                  unfold wayV at hy
                  dsimp only at hy
                  gi_wp2_with fail
                  refine hRd.mono ?_
                  clear hy hRd
                  rintro e W2 (⟨rfl, hJW2, hkW2⟩ | ⟨rfl, hJxW2⟩)
                  case inr =>
                    have Hfin := Lib.hid (show ∀ v, R (.returned v) W2 from fun v => hR.out _ _ ⟨⟨_, rfl⟩, .inr ⟨_, _, (List.append_assoc _ _ _).trans (HC1.out), hJxW2⟩⟩)
                    gi_wp2
                    refine bodyPost_ret (results_none rfl _ _ _) rfl ?_
                    exact Hfin.out _
                  case inl =>
                    have hk := hkx.trans hkW2
                    obtain ⟨e1, e2, e3, e4⟩ := HX.out _ hkW2
                    have q1 := (HMk.out W2 hk).cs
                    have q2 := (HMk.out W2 hk).cw
                    have q3 := (HMk.out W2 hk).ch
                    gi_wp2_with fail
                    refine ⟨⟨i0 + 1, (cur ++ [((1, (i0 : Int)), s.V)]), by omega, by go_num, HT.out, hJW2, hk⟩, by simp [intOf]; omega⟩
                · skip
                  have hsw : shW x y i0 s = [((1, (i0 : Int)), s.V)] ++ [((2, (i0 : Int)), s.V)] := by rw [shW_eq, HA1.out, HA2.out]; rfl
                  have hcu := Hcur.out
                  rw [show shWs x y i0 (ss.drop i0) = shW x y i0 s ++ shWs x y (i0 + 1) (ss.drop (i0 + 1)) by have := shWs_drop x y s ss 0 i0 Hs.out; simpa using this, hsw] at hcu
                  clear hsw
                  have HC1 := Lib.hid (show cur ++ ((1, (i0 : Int)), s.V) :: ([((2, (i0 : Int)), s.V)] ++ (shWs x y (i0 + 1) (ss.drop (i0 + 1)) ++ tl)) = wl by simpa using hcu)
                  have HC2 := Lib.hid (show (cur ++ [((1, (i0 : Int)), s.V)]) ++ ((2, (i0 : Int)), s.V) :: (shWs x y (i0 + 1) (ss.drop (i0 + 1)) ++ tl) = wl by simpa using hcu)
                  have HT := Lib.hid (show Hid ((cur ++ [((1, (i0 : Int)), s.V)] ++ [((2, (i0 : Int)), s.V)]) ++ (shWs x y (i0 + 1) (ss.drop (i0 + 1)) ++ tl) = wl) from Lib.hid (by simpa using hcu))
                  clear hcu
                  obtain ⟨fn, tmps, assign, body, hy, hRd⟩ := HY.out cur ((1, (i0 : Int)), s.V) _ _ (HC1.out) hJx
                  unfold wayV at hy
                  dsimp only at hy
                  gi_wp2_with fail
                  refine hRd.mono ?_
                  clear hy hRd
                  rintro e W2 (⟨rfl, hJW2, hkW2⟩ | ⟨rfl, hJxW2⟩)
                  case inr =>
                    have Hfin := Lib.hid (show ∀ v, R (.returned v) W2 from fun v => hR.out _ _ ⟨⟨_, rfl⟩, .inr ⟨_, _, (List.append_assoc _ _ _).trans (HC1.out), hJxW2⟩⟩)
                    gi_wp2
                    refine bodyPost_ret (results_none rfl _ _ _) rfl ?_
                    exact Hfin.out _
                  case inl =>
                    have hk := hkx.trans hkW2
                    obtain ⟨e1, e2, e3, e4⟩ := HX.out _ hkW2
                    have q1 := (HMk.out W2 hk).cs
                    have q2 := (HMk.out W2 hk).cw
                    have q3 := (HMk.out W2 hk).ch
                    obtain ⟨fn, tmps, assign, body, hy, hRd⟩ := HY.out (cur ++ [((1, (i0 : Int)), s.V)]) ((2, (i0 : Int)), s.V) _ _ (HC2.out) hJW2
                    unfold wayV at hy
                    dsimp only at hy
                    gi_wp2_with fail
                    refine hRd.mono ?_
                    clear hy hRd
                    rintro e W3 (⟨rfl, hJW3, hkW3⟩ | ⟨rfl, hJxW3⟩)
                    case inr =>
                      have Hfin := Lib.hid (show ∀ v, R (.returned v) W3 from fun v => hR.out _ _ ⟨⟨_, rfl⟩, .inr ⟨_, _, (List.append_assoc _ _ _).trans (HC2.out), hJxW3⟩⟩)
                      gi_wp2
                      refine bodyPost_ret (results_none rfl _ _ _) rfl ?_
                      exact Hfin.out _
                    case inl =>
                      have hk := hk.trans hkW3
                      gi_wp2_with fail
                      refine ⟨⟨i0 + 1, ((cur ++ [((1, (i0 : Int)), s.V)]) ++ [((2, (i0 : Int)), s.V)]), by omega, by go_num, HT.out, hJW3, hk⟩, by simp [intOf]; omega⟩
      · obtain rfl : i0 = m := by omega
        have HL : Hid (cur ++ ((acW (val k ss) k x y ((x : Int) - 1).toNat).drop 0 ++ dnW (val k ss) k x y ((y : Int) - 1).toNat) = wl) := Lib.hid (by
          have h := Hcur.out
          rw [List.drop_of_length_le (by rw [hm.out]; exact Nat.le_refl _), ← Htl.out] at h
          simpa [shWs] using h)
        gi_wp2_with fail
        gi_loopw [7] (fun i wr => ∃ (a : Nat) (cur : List Way), (a : Int) + 1 ≤ x ∧ i = .int .i64 (a + 1) ∧ Hid (cur ++ ((acW (val k ss) k x y ((x : Int) - 1).toNat).drop a ++ dnW (val k ss) k x y ((y : Int) - 1).toNat) = wl) ∧ J cur wr ∧ KC mo W wr) (fun i _ => (x - intOf i).toNat)
        case atStart => exact ⟨0, _, by omega, rfl, HL, hJ, hk⟩
        case round =>
          clear q1 q2 q3 hJ hk HL
          obtain ⟨a, cur, ha, rfl, Hcur, hJ, hk⟩ := hrel
          have q1 := (HMk.out wr hk).cs
          have q2 := (HMk.out wr hk).cw
          have q3 := (HMk.out wr hk).ch
          have q4 := (HMk.out wr hk).ck
          by_cases hlt : (a : Int) + 1 < x
          · obtain ⟨r, hr⟩ : ∃ r : Nat, r = ((x : Int) - ((a : Int) + 1) - k).toNat := ⟨_, rfl⟩
            have hrv : val k ss ((x : Int) - ((a : Int) + 1) - k) y = val k ss (r : Int) y := by
              by_cases h : (x : Int) - ((a : Int) + 1) - k < 1
              · rw [val_lt k ss _ _ (.inl (by omega)), val_lt k ss _ _ (.inl (by omega))]
              · rw [show (r : Int) = (x : Int) - ((a : Int) + 1) - k by omega]
            have t1 := (HMk.out wr hk).t1 (a + 1) (by omega)
            have t2 := (HMk.out wr hk).t1 r (by omega)
            have b1' := val_nonneg k ss
            have hs1 := val_small k ss hk0 hok
            obtain ⟨va, hva⟩ : ∃ va, val k ss ((a : Int) + 1) y = va := ⟨_, rfl⟩
            obtain ⟨vr, hvr⟩ : ∃ vr, val k ss (r : Int) y = vr := ⟨_, rfl⟩
            have hva0 : 0 ≤ va ∧ va ≤ 4096000000 := by rw [← hva]; exact ⟨b1' _ _, hs1 _ _ (by omega) (by omega)⟩
            have hvr0 : 0 ≤ vr ∧ vr ≤ 4096000000 := by rw [← hvr]; exact ⟨b1' _ _, hs1 _ _ (by omega) (by omega)⟩
            rw [Int.natCast_add, Int.natCast_one, hva] at t1
            rw [hvr] at t2
            clear b1' hs1
            have HE := Lib.hid (show (3, (a : Int) + 1, va + vr) = (3, (a : Int) + 1, val k ss ((a : Int) + 1) y + val k ss ((x : Int) - ((a : Int) + 1) - k) y) from by rw [hva, hrv, hvr])
            have Hnext := Lib.hid (show cur ++ ((3, (a : Int) + 1), va + vr) :: ((acW (val k ss) k x y ((x : Int) - 1).toNat).drop (a + 1) ++ dnW (val k ss) k x y ((y : Int) - 1).toNat) = wl from by
              rw [← Hcur.out, ← hva, ← hvr, ← hrv]
              have hd : (acW (val k ss) k x y ((x : Int) - 1).toNat).drop a = ((3, (a : Int) + 1), val k ss ((a : Int) + 1) y + val k ss ((x : Int) - ((a : Int) + 1) - k) y) :: (acW (val k ss) k x y ((x : Int) - 1).toNat).drop (a + 1) := by
                have hl : a < ((acW (val k ss) k x y ((x : Int) - 1).toNat)).length := by simp [acW]; omega
                rw [List.drop_eq_getElem_cons hl]
                congr 1
                simp [acW]
              rw [hd]
              try rfl)
            clear hva hvr hrv HE
            have s1 : 0 ≤ va := hva0.1
            have s2 : va ≤ 4096000000 := hva0.2
            have s3 : 0 ≤ vr := hvr0.1
            have s4 : vr ≤ 4096000000 := hvr0.2
            have w0 : IntKind.i64.wrap ((x : Int) - ((a : Int) + 1)) = (x : Int) - ((a : Int) + 1) := IntWalk.i64_in _ (by omega)
            obtain ⟨e0, he0⟩ : ∃ e0, (x : Int) - ((a : Int) + 1) - k = e0 := ⟨_, rfl⟩
            have w1 : IntKind.i64.wrap ((x : Int) - ((a : Int) + 1) - k) = e0 := by rw [IntWalk.i64_in _ (by omega), he0]
            have w2 : IntKind.i64.wrap (va + vr) = va + vr := IntWalk.i64_in _ (by omega)
            have i1 : (a : Int) + 1 < 65 := by omega
            have i2 : (x : Int) < 65 := by omega
            have i3 : (y : Int) < 65 := by omega
            have i4 : (r : Int) < 65 := by omega
            have i5 : a + 1 < 65 := by omega
            have i6 : x < 65 := by omega
            have i7 : y < 65 := by omega
            have i8 : r < 65 := by omega
            have i9 : (0 : Int) ≤ (a : Int) + 1 := by omega
            have i10 : ((a : Int) + 1).toNat = a + 1 := by omega
            gi_wp2_with fail
            refine wpIn_wide.2 ?_
            by_cases hpos : 0 < e0
            · obtain rfl : e0 = (r : Int) := by omega
              have hpos' : 0 < r := by omega
              clear he0 hr
              go_quiet (fail)
              clear w0 w1 w2 i1 i2 i3 i4 i5 i6 i7 i8 i9 i10
              obtain ⟨wz, hwz⟩ : ∃ wz, wr.drewN nq = wz := ⟨_, rfl⟩
              have hJz : J cur (wr.drewN nq) := HJa.out _ _ _ hJ (grown_drewN' wr nq)
              have hkz : KC mo W (wr.drewN nq) := hk.trans (KC.grown (grown_drewN' wr nq) (fun b h => by cases h))
              clear hwz
              obtain ⟨fn, tmps, assign, body, hy, hRd⟩ := HY.out cur ((3, (a : Int) + 1), va + vr) _ _ Hnext.out hJz
              unfold wayV at hy
              dsimp only at hy
              gi_wp2_with fail
              refine hRd.mono ?_
              clear hy hRd
              rintro e W2 (⟨rfl, hJ2, hk2⟩ | ⟨rfl, hJx2⟩)
              case inr =>
                have Hfin := Lib.hid (show ∀ v, R (.returned v) W2 from fun v => hR.out _ _ ⟨⟨_, rfl⟩, .inr ⟨_, _, (List.append_assoc _ _ _).trans Hnext.out, hJx2⟩⟩)
                gi_wp2
                refine bodyPost_ret (results_none rfl _ _ _) rfl ?_
                exact Hfin.out _
              case inl =>
                have HT := Lib.hid (show Hid ((cur ++ [((3, (a : Int) + 1), va + vr)]) ++ ((acW (val k ss) k x y ((x : Int) - 1).toNat).drop (a + 1) ++ dnW (val k ss) k x y ((y : Int) - 1).toNat) = wl) from Lib.hid ((List.append_assoc _ _ _).trans Hnext.out))
                gi_wp2_with fail
                refine ⟨⟨a + 1, _, by omega, by go_num, HT.out, hJ2, hkz.trans hk2⟩, by simp [intOf]; omega⟩
            · have hr0 : r = 0 := by omega
              clear he0 hr
              subst hr0
              simp only [Nat.zero_mul, Nat.add_zero] at t2
              go_quiet (fail)
              clear w0 w1 w2 i1 i2 i3 i4 i5 i6 i7 i8 i9 i10
              obtain ⟨wz, hwz⟩ : ∃ wz, wr.drewN nq = wz := ⟨_, rfl⟩
              have hJz : J cur (wr.drewN nq) := HJa.out _ _ _ hJ (grown_drewN' wr nq)
              have hkz : KC mo W (wr.drewN nq) := hk.trans (KC.grown (grown_drewN' wr nq) (fun b h => by cases h))
              clear hwz
              obtain ⟨fn, tmps, assign, body, hy, hRd⟩ := HY.out cur ((3, (a : Int) + 1), va + vr) _ _ Hnext.out hJz
              unfold wayV at hy
              dsimp only at hy
              gi_wp2_with fail
              refine hRd.mono ?_
              clear hy hRd
              rintro e W2 (⟨rfl, hJ2, hk2⟩ | ⟨rfl, hJx2⟩)
              case inr =>
                have Hfin := Lib.hid (show ∀ v, R (.returned v) W2 from fun v => hR.out _ _ ⟨⟨_, rfl⟩, .inr ⟨_, _, (List.append_assoc _ _ _).trans Hnext.out, hJx2⟩⟩)
                gi_wp2
                refine bodyPost_ret (results_none rfl _ _ _) rfl ?_
                exact Hfin.out _
              case inl =>
                have HT := Lib.hid (show Hid ((cur ++ [((3, (a : Int) + 1), va + vr)]) ++ ((acW (val k ss) k x y ((x : Int) - 1).toNat).drop (a + 1) ++ dnW (val k ss) k x y ((y : Int) - 1).toNat) = wl) from Lib.hid ((List.append_assoc _ _ _).trans Hnext.out))
                gi_wp2_with fail
                refine ⟨⟨a + 1, _, by omega, by go_num, HT.out, hJ2, hkz.trans hk2⟩, by simp [intOf]; omega⟩
          · have hax : (a : Int) + 1 = x := by omega
            have HL : Hid (cur ++ (dnW (val k ss) k x y ((y : Int) - 1).toNat).drop 0 = wl) := Lib.hid (by
              have h := Hcur.out
              rw [List.drop_of_length_le (by simp [acW]; omega)] at h
              simpa using h)
            have hge : ¬ (a : Int) + 1 < x := hlt
            clear Hcur hlt hax
            gi_wp2_with fail
            gi_loopw [9] (fun i wr => ∃ (a : Nat) (cur : List Way), (a : Int) + 1 ≤ y ∧ i = .int .i64 (a + 1) ∧ Hid (cur ++ ((dnW (val k ss) k x y ((y : Int) - 1).toNat).drop a) = wl) ∧ J cur wr ∧ KC mo W wr) (fun i _ => (y - intOf i).toNat)
            case atStart => exact ⟨0, _, by omega, rfl, HL, hJ, hk⟩
            case round =>
              clear q1 q2 q3 hJ hk HL
              obtain ⟨a, cur, ha, rfl, Hcur, hJ, hk⟩ := hrel
              have q1 := (HMk.out wr hk).cs
              have q2 := (HMk.out wr hk).cw
              have q3 := (HMk.out wr hk).ch
              have q4 := (HMk.out wr hk).ck
              by_cases hlt : (a : Int) + 1 < y
              · obtain ⟨r, hr⟩ : ∃ r : Nat, r = ((y : Int) - ((a : Int) + 1) - k).toNat := ⟨_, rfl⟩
                have hrv : val k ss x ((y : Int) - ((a : Int) + 1) - k) = val k ss x (r : Int) := by
                  by_cases h : (y : Int) - ((a : Int) + 1) - k < 1
                  · rw [val_lt k ss _ _ (.inr (by omega)), val_lt k ss _ _ (.inr (by omega))]
                  · rw [show (r : Int) = (y : Int) - ((a : Int) + 1) - k by omega]
                have t1 := (HMk.out wr hk).t2 (a + 1) (by omega)
                have t2 := (HMk.out wr hk).t2 r (by omega)
                have b1' := val_nonneg k ss
                have hs1 := val_small k ss hk0 hok
                obtain ⟨va, hva⟩ : ∃ va, val k ss x ((a : Int) + 1) = va := ⟨_, rfl⟩
                obtain ⟨vr, hvr⟩ : ∃ vr, val k ss x (r : Int) = vr := ⟨_, rfl⟩
                have hva0 : 0 ≤ va ∧ va ≤ 4096000000 := by rw [← hva]; exact ⟨b1' _ _, hs1 _ _ (by omega) (by omega)⟩
                have hvr0 : 0 ≤ vr ∧ vr ≤ 4096000000 := by rw [← hvr]; exact ⟨b1' _ _, hs1 _ _ (by omega) (by omega)⟩
                rw [Int.natCast_add, Int.natCast_one, hva] at t1
                rw [hvr] at t2
                clear b1' hs1
                have HE := Lib.hid (show (4, (a : Int) + 1, va + vr) = (4, (a : Int) + 1, val k ss x ((a : Int) + 1) + val k ss x ((y : Int) - ((a : Int) + 1) - k)) from by rw [hva, hrv, hvr])
                have Hnext := Lib.hid (show cur ++ ((4, (a : Int) + 1), va + vr) :: ((dnW (val k ss) k x y ((y : Int) - 1).toNat).drop (a + 1)) = wl from by
                  rw [← Hcur.out, ← hva, ← hvr, ← hrv]
                  have hd : (dnW (val k ss) k x y ((y : Int) - 1).toNat).drop a = ((4, (a : Int) + 1), val k ss x ((a : Int) + 1) + val k ss x ((y : Int) - ((a : Int) + 1) - k)) :: (dnW (val k ss) k x y ((y : Int) - 1).toNat).drop (a + 1) := by
                    have hl : a < ((dnW (val k ss) k x y ((y : Int) - 1).toNat)).length := by simp [dnW]; omega
                    rw [List.drop_eq_getElem_cons hl]
                    congr 1
                    simp [dnW]
                  rw [hd]
                  try rfl)
                clear hva hvr hrv HE
                have s1 : 0 ≤ va := hva0.1
                have s2 : va ≤ 4096000000 := hva0.2
                have s3 : 0 ≤ vr := hvr0.1
                have s4 : vr ≤ 4096000000 := hvr0.2
                have w0 : IntKind.i64.wrap ((y : Int) - ((a : Int) + 1)) = (y : Int) - ((a : Int) + 1) := IntWalk.i64_in _ (by omega)
                obtain ⟨e0, he0⟩ : ∃ e0, (y : Int) - ((a : Int) + 1) - k = e0 := ⟨_, rfl⟩
                have w1 : IntKind.i64.wrap ((y : Int) - ((a : Int) + 1) - k) = e0 := by rw [IntWalk.i64_in _ (by omega), he0]
                have w2 : IntKind.i64.wrap (va + vr) = va + vr := IntWalk.i64_in _ (by omega)
                have i1 : (a : Int) + 1 < 65 := by omega
                have i2 : (x : Int) < 65 := by omega
                have i3 : (y : Int) < 65 := by omega
                have i4 : (r : Int) < 65 := by omega
                have i5 : a + 1 < 65 := by omega
                have i6 : x < 65 := by omega
                have i7 : y < 65 := by omega
                have i8 : r < 65 := by omega
                have i9 : (0 : Int) ≤ (a : Int) + 1 := by omega
                have i10 : ((a : Int) + 1).toNat = a + 1 := by omega
                gi_wp2_with fail
                refine wpIn_wide.2 ?_
                by_cases hpos : 0 < e0
                · obtain rfl : e0 = (r : Int) := by omega
                  have hpos' : 0 < r := by omega
                  clear he0 hr
                  go_quiet (fail)
                  clear w0 w1 w2 i1 i2 i3 i4 i5 i6 i7 i8 i9 i10
                  obtain ⟨wz, hwz⟩ : ∃ wz, wr.drewN nq = wz := ⟨_, rfl⟩
                  have hJz : J cur (wr.drewN nq) := HJa.out _ _ _ hJ (grown_drewN' wr nq)
                  have hkz : KC mo W (wr.drewN nq) := hk.trans (KC.grown (grown_drewN' wr nq) (fun b h => by cases h))
                  clear hwz
                  obtain ⟨fn, tmps, assign, body, hy, hRd⟩ := HY.out cur ((4, (a : Int) + 1), va + vr) _ _ Hnext.out hJz
                  unfold wayV at hy
                  dsimp only at hy
                  gi_wp2_with fail
                  refine hRd.mono ?_
                  clear hy hRd
                  rintro e W2 (⟨rfl, hJ2, hk2⟩ | ⟨rfl, hJx2⟩)
                  case inr =>
                    have Hfin := Lib.hid (show ∀ v, R (.returned v) W2 from fun v => hR.out _ _ ⟨⟨_, rfl⟩, .inr ⟨_, _, (List.append_assoc _ _ _).trans Hnext.out, hJx2⟩⟩)
                    gi_wp2
                    refine bodyPost_ret (results_none rfl _ _ _) rfl ?_
                    exact Hfin.out _
                  case inl =>
                    have HT := Lib.hid (show Hid ((cur ++ [((4, (a : Int) + 1), va + vr)]) ++ ((dnW (val k ss) k x y ((y : Int) - 1).toNat).drop (a + 1)) = wl) from Lib.hid ((List.append_assoc _ _ _).trans Hnext.out))
                    gi_wp2_with fail
                    refine ⟨⟨a + 1, _, by omega, by go_num, HT.out, hJ2, hkz.trans hk2⟩, by simp [intOf]; omega⟩
                · have hr0 : r = 0 := by omega
                  clear he0 hr
                  subst hr0
                  simp only [Nat.add_zero] at t2
                  go_quiet (fail)
                  clear w0 w1 w2 i1 i2 i3 i4 i5 i6 i7 i8 i9 i10
                  obtain ⟨wz, hwz⟩ : ∃ wz, wr.drewN nq = wz := ⟨_, rfl⟩
                  have hJz : J cur (wr.drewN nq) := HJa.out _ _ _ hJ (grown_drewN' wr nq)
                  have hkz : KC mo W (wr.drewN nq) := hk.trans (KC.grown (grown_drewN' wr nq) (fun b h => by cases h))
                  clear hwz
                  obtain ⟨fn, tmps, assign, body, hy, hRd⟩ := HY.out cur ((4, (a : Int) + 1), va + vr) _ _ Hnext.out hJz
                  unfold wayV at hy
                  dsimp only at hy
                  gi_wp2_with fail
                  refine hRd.mono ?_
                  clear hy hRd
                  rintro e W2 (⟨rfl, hJ2, hk2⟩ | ⟨rfl, hJx2⟩)
                  case inr =>
                    have Hfin := Lib.hid (show ∀ v, R (.returned v) W2 from fun v => hR.out _ _ ⟨⟨_, rfl⟩, .inr ⟨_, _, (List.append_assoc _ _ _).trans Hnext.out, hJx2⟩⟩)
                    gi_wp2
                    refine bodyPost_ret (results_none rfl _ _ _) rfl ?_
                    exact Hfin.out _
                  case inl =>
                    have HT := Lib.hid (show Hid ((cur ++ [((4, (a : Int) + 1), va + vr)]) ++ ((dnW (val k ss) k x y ((y : Int) - 1).toNat).drop (a + 1)) = wl) from Lib.hid ((List.append_assoc _ _ _).trans Hnext.out))
                    gi_wp2_with fail
                    refine ⟨⟨a + 1, _, by omega, by go_num, HT.out, hJ2, hkz.trans hk2⟩, by simp [intOf]; omega⟩
              · have hax : (a : Int) + 1 = y := by omega
                have Hfin := Lib.hid (show ∀ v, R (.returned v) wr from fun v => hR.out _ _ ⟨⟨_, rfl⟩, .inl (by
                  have h := Hcur.out
                  rw [List.drop_of_length_le (by simp [dnW]; omega), List.append_nil] at h
                  rw [← h]; exact hJ)⟩)
                clear hax
                gi_wp2
                go_end0
                exact Hfin.out _
end Go.Proofs.YtndcijkgaadpgaaGreatDoor
