/-
  The contract of clavecinlaw08.PanelTurned: true at every input.
-/
import Derived.Test.YtfkpioibinpfhaaPTurn
import Derived.Test.YtfkpioibinpfhaaPBests
namespace Go.Proofs.Ytfkpioibinpfhaa
open Go.RowKit


/-- Two lists of shapes of the call's own: the panel's (its box at Bb, its row below it), and one that grows behind it. -/
structure TI (w wr : World) (B1 Bb : Nat) (X Y K : Int) (A1 : Option Addr) (c1 L : Nat) (cur : List Shp) (A2 : Option Addr) (c2 j : Nat) (l2 : List Shp) : Prop where
  own1 : wr.ownsRow B1 37 4 (.slice A1 L c1) L (cur.flatMap Shp.enc)
  lt1 : ∀ a, A1 = some a → a.block < Bb
  own2 : wr.ownsRow (Bb + 1) 37 4 (.slice A2 j c2) j (l2.flatMap Shp.enc)
  box : wr.heap[Bb]? = some (.cells #[.int .i64 X, .int .i64 Y, .int .i64 K, .slice A1 L c1] 24 (0, 0))
  bel : Below w.heap.size w wr
  hB1 : w.heap.size ≤ B1
  hBb : w.heap.size ≤ Bb
section
variable {w wr W1 W2 : World} {B1 Bb : Nat} {X Y K : Int} {A1 A2 A2' : Option Addr} {c1 L c2 c2' j : Nat} {cur l2 : List Shp}
theorem TI.below (t : TI w wr B1 Bb X Y K A1 c1 L cur A2 c2 j l2) (hb : Below wr.heap.size wr W1) : TI w W1 B1 Bb X Y K A1 c1 L cur A2 c2 j l2 :=
  ⟨t.own1.kept (row := none) ⟨hb.os, hb.tape, hb.output, hb.size, fun k hk _ => hb.block k hk⟩ (by cases (Value.slice A1 L c1).ownBlock <;> simp), t.lt1,
   t.own2.kept (row := none) ⟨hb.os, hb.tape, hb.output, hb.size, fun k hk _ => hb.block k hk⟩ (by cases (Value.slice A2 j c2).ownBlock <;> simp), (hb.block Bb (Array.getElem?_eq_some_iff.1 t.box).1).trans t.box, t.bel.trans (hb.mono t.bel.size), t.hB1, t.hBb⟩
theorem TI.push (t : TI w wr B1 Bb X Y K A1 c1 L cur A2 c2 j l2) {s : Shp} (ho : W2.ownsRow (Bb + 1) 37 4 (.slice A2' (j + 1) c2') (j + 1) (l2.flatMap Shp.enc ++ s.enc)) (hg : wr.grownBy W2 (Value.slice A2 j c2).ownBlock) :
    TI w W2 B1 Bb X Y K A1 c1 L cur A2' c2' (j + 1) (l2 ++ [s]) := by
  have hlt : ∀ k, (Value.slice A2 j c2).ownBlock = some k → Bb + 1 ≤ k := fun k hk => (t.own2.lt k hk).1
  have hbz : Bb < wr.heap.size := (Array.getElem?_eq_some_iff.1 t.box).1
  refine ⟨t.own1.kept hg ?_, t.lt1, by simpa using ho, (hg.block Bb hbz fun e => ?_).trans t.box, t.bel.grown hg t.bel.size (fun k hk => by have := hlt k hk; have := t.hBb; omega), t.hB1, t.hBb⟩
  · cases h1 : (Value.slice A1 L c1).ownBlock with
    | none => exact .inl rfl
    | some g =>
      refine .inr fun e => ?_
      have h2 := hlt g e.symm
      cases A1 with
      | none => simp [Value.ownBlock] at h1
      | some a =>
        have h3 := t.lt1 a rfl
        simp [Value.ownBlock] at h1
        omega
  · have := hlt Bb e.symm
    omega
theorem TI.store (t : TI w wr B1 Bb X Y K A1 c1 L cur A2 c2 j l2) {g i : Nat} (hA : A1 = some ⟨g, 0, none⟩) {s : Shp} (hs : cur[i]? = some s) :
    TI w (wr.setCell ⟨g, i * 4 + 3, none⟩ (.bool true)) B1 Bb X Y K A1 c1 L (cur.set i (freed s)) A2 c2 j l2 := by
  subst hA
  obtain ⟨h1, h2⟩ := t.own1.stored (i * 4 + 3) (.bool true)
  have hg := t.lt1 _ rfl
  have hgB := (t.own1.lt g (by simp [Value.ownBlock])).1
  rw [enc_freed cur i s hs] at h1
  refine ⟨h1, t.lt1, t.own2.kept h2 ?_, (Below.heap_setCell wr _ _ _ (by dsimp only at hg ⊢; omega)).trans t.box, t.bel.setCell (by dsimp only; have := t.hB1; omega) _, t.hB1, t.hBb⟩
  cases h3 : (Value.slice A2 j c2).ownBlock with
  | none => exact .inl rfl
  | some g' =>
    refine .inr fun e => ?_
    have := (t.own2.lt g' h3).1
    injection e with e
    dsimp only at hg
    omega
end
theorem map_take_succ {α β : Type} (f : α → β) (l : List α) (k : Nat) (x : α) (hx : l[k]? = some x) : (l.take (k + 1)).map f = (l.take k).map f ++ [f x] := by
  obtain ⟨h, rfl⟩ := List.getElem?_eq_some_iff.1 hx
  rw [List.take_succ_eq_append_getElem h, List.map_append]
  rfl
theorem own_at4 {W : World} {base L c k : Nat} {A : Option Addr} {l : List Shp} (h : W.ownsRow base 37 4 (.slice A L c) L (l.flatMap Shp.enc)) (hL : L = l.length) (hk : k < L) :
    ∃ g s, A = some ⟨g, 0, none⟩ ∧ base ≤ g ∧ g < W.heap.size ∧ l[k]? = some s ∧ W.cell? ⟨g, k * 4, none⟩ = some (.int .i64 s.W) ∧ W.cell? ⟨g, k * 4 + 1, none⟩ = some (.int .i64 s.H) ∧
      W.cell? ⟨g, k * 4 + 2, none⟩ = some (.int .i64 s.V) ∧ W.cell? ⟨g, k * 4 + 3, none⟩ = some (.bool s.T) ∧ ∀ j, W.frozen? ⟨g, j, none⟩ = false := by
  obtain ⟨g, cap, hv, h1, h2⟩ := h.form (by omega)
  have hA : A = some ⟨g, 0, none⟩ := by injection hv
  subst hA
  obtain ⟨b, o, s, hA, _, hs, e0, e1, e2, e3⟩ := (SlE.of_own h hL).at4 hk
  simp only [Option.some.injEq, Addr.mk.injEq, and_true] at hA
  obtain ⟨rfl, rfl⟩ := hA
  rw [Nat.zero_add] at e0 e1 e2 e3
  exact ⟨g, s, rfl, h1, h2, hs, e0, e1, e2, e3, fun j => h.frozenAt j⟩
set_option maxRecDepth 100000 in
set_option maxHeartbeats 4000000 in
theorem turned_any (W H K : Int) (fr : Bool) (A : Option Addr) (n c : Nat) (ss : List Shp) (w : World) (hS : SlE Shp.enc 4 w A n ss) (hnc : n ≤ c) (hc : c ≤ 9223372036854775807) :
    Calls Try.prog 4 #[.agg #[.int .i64 W, .int .i64 H, .int .i64 K, .slice A n c], .bool fr] w fun e w' => e = .returned (.bool true) ∧ Below w.heap.size w w' := by
  refine calls_cps ?_
  intro R hR
  obtain ⟨s1, es⟩ : ∃ s, ss.take 17 = s := ⟨_, rfl⟩
  obtain ⟨L, hL⟩ : ∃ L, s1.length = L := ⟨_, rfl⟩
  have hLm : L ≤ 17 := by rw [← hL, ← es, List.length_take]; omega
  obtain ⟨W1, eW⟩ : ∃ x, fewV W = x := ⟨_, rfl⟩
  obtain ⟨H1, eH⟩ : ∃ x, fewV H = x := ⟨_, rfl⟩
  have HL := Lib.hid hL
  have Hes := Lib.hid es
  have HW := Lib.hid eW
  have HH := Lib.hid eH
  clear hL es eW eH
  cases fr
  · go_enter Try.func4, Try.ntmps4
    go_wp2_with (go_at_call 15; refine (few_any _ _ _ _ _ _ ss _ (hS.alloc _) hnc hc).mono ?_; rw [Hes.out, HL.out, HW.out, HH.out]; rintro e w1 ⟨A1, c1, rfl, ho1, hb1⟩; have hf1 : Below w.heap.size w w1 := ((Below.refl w.heap.size w).alloc (Nat.le_refl _) _).trans (hb1.mono (by simp)); clear hb1)
    obtain ⟨B1, hB1⟩ : ∃ B1, w.heap.size + 1 = B1 := ⟨_, rfl⟩
    rw [World.size_alloc, hB1] at ho1
    have hB1' : w.heap.size ≤ B1 := by omega
    clear hB1
    have hlt1 : ∀ a, A1 = some a → a.block < w1.heap.size := fun a ha => by
      subst ha
      exact (ho1.lt a.block (by simp [Value.ownBlock])).2
    have hti : TI w ((w1.alloc (.cells #[.int .i64 W1, .int .i64 H1, .int .i64 K, .slice A1 L c1] 24)).alloc (.cells #[] 37)) B1 w1.heap.size W1 H1 K A1 c1 L s1 (some ⟨w1.heap.size + 1, 0, none⟩) 0 0 [] :=
      ⟨(ho1.alloc _).alloc _, hlt1, by
        have := own_new (w1.alloc (.cells #[.int .i64 W1, .int .i64 H1, .int .i64 K, .slice A1 L c1] 24)) #[] 37 4 0 (w1.heap.size + 1) rfl (by simp) (by unfold maxLen; omega)
        rw [World.size_alloc] at this
        exact this, (Below.heap_alloc _ _ _ (by simp)).trans (heap_alloc_new w1 _), (hf1.alloc hf1.size _).alloc (by have := hf1.size; simp; omega) _, hB1', hf1.size⟩
    go_loopw [6, 7, 8] (fun t i _ wr => ∃ (j : Nat) (A2 : Option Addr) (c2 : Nat), j ≤ L ∧ i = .int .i64 j ∧ t = .slice A2 j c2 ∧ TI w wr B1 w1.heap.size W1 H1 K A1 c1 L s1 A2 c2 j ((s1.take j).map flipped)) (fun _ i _ _ => L - (intOf i).toNat)
    case atStart => exact ⟨0, _, _, by omega, rfl, rfl, hti⟩
    case round =>
      obtain ⟨j, A2, c2, hj, rfl, rfl, ht⟩ := hrel
      obtain ⟨q0, q1, q2, q3, q4⟩ := cells4 ht.box
      by_cases hlt : j < L
      · obtain ⟨b, o, s, rfl, hbl, hs, e0, e1, e2, e3⟩ := (SlE.of_own ht.own1 HL.out.symm).at4 hlt
        have hblt := hlt1 _ rfl
        have HN := Lib.hid (map_take_succ flipped s1 j s hs)
        have Hs := Lib.hid hs
        clear hs hti hf1 ho1 hlt1
        dsimp only at hblt
        obtain ⟨wo, rfl⟩ : ∃ wo : World, wo = wr := ⟨_, rfl⟩
        obtain ⟨l2, hl2⟩ : ∃ l2, (s1.take j).map flipped = l2 := ⟨_, rfl⟩
        rw [hl2] at ht HN
        clear hl2
        have hBz : w1.heap.size < wo.heap.size := (Array.getElem?_eq_some_iff.1 ht.box).1
        go_wp2_with (at_builtin; refine wpList_app rfl (.tmp 44) (.tmp 54) _ rfl elemShp (w1.heap.size + 1) _ _ _ rfl ((ht.own2.alloc _).alloc _) _ _ _ _ rfl (Sl.newAt _ _ _ 4 1 rfl (by simp)) (by intro u hu; simp at hu; rcases hu with rfl | rfl | rfl | rfl <;> rfl) (by unfold maxLen; omega) (by omega) (by simp; omega) ?_; intro A3 c3 w3 ho3 hg3 _)
        have ht3 := (ht.below (below_two wo _ _)).push (s := flipped s) ho3 hg3
        rw [← HN.out] at ht3
        exact ⟨⟨j + 1, _, _, by omega, by go_num, rfl, ht3⟩, by simp [intOf]; omega⟩
      · obtain rfl : L = j := by omega
        have hfl : (s1.take L).map flipped = s1.map flipped := by rw [List.take_of_length_le (by rw [HL.out]; exact Nat.le_refl _)]
        rw [hfl] at ht
        have hT := best_flipped W1 H1 K s1
        obtain ⟨v, hv⟩ : ∃ v, bestV W1 H1 K s1 = v := ⟨_, rfl⟩
        obtain ⟨e, he⟩ : ∃ e, bestE W1 H1 K s1 = e := ⟨_, rfl⟩
        rw [hv, he] at hT
        have Hv := Lib.hid hv
        have He := Lib.hid he
        have HT1 := Lib.hid hT.1
        have HT2 := Lib.hid hT.2
        clear hfl hT hv he hti hf1 ho1 hlt1
        obtain ⟨wo, rfl⟩ : ∃ wo : World, wo = wr := ⟨_, rfl⟩
        have hbz := (Array.getElem?_eq_some_iff.1 ht.box).1
        have hS1 := SlE.of_own ht.own1 HL.out.symm
        have hS2 := SlE.of_own ht.own2 (by rw [List.length_map, HL.out])
        have hbel := ht.bel
        have hbox := ht.box
        clear ht
        go_wp2_with fail
        refine (best_sum W1 H1 K A1 L c1 s1 _ hS1 (by omega)).mono ?_
        rw [Hv.out, He.out]
        rintro e1 w2 ⟨v2, rfl, hb2⟩
        obtain ⟨q0, q1, q2, q3, q4⟩ := cells4 (below_cells hb2 hbz hbox)
        have hS3 := hS2.below hb2
        have hf2 := hbel.trans (hb2.mono hbel.size)
        clear hb2
        go_wp2_with fail
        refine (best_sum H1 W1 K A2 L c2 (s1.map flipped) _ hS3 (by omega)).mono ?_
        rw [HT1.out, HT2.out]
        rintro e1 w3 ⟨v3, rfl, hb3⟩
        have hf3 := hf2.trans (hb3.mono hf2.size)
        clear hb3
        go_wp2_with fail
        refine (lives_any _).mono ?_
        rintro e w6 ⟨rfl, hb6⟩
        have hf6 := hf3.trans (hb6.mono hf3.size)
        clear hb6
        go_wp2
        exact hR.out _ _ ⟨rfl, hf6⟩
  · go_enter Try.func4, Try.ntmps4
    go_wp2_with (go_at_call 15; refine (few_any _ _ _ _ _ _ ss _ (hS.alloc _) hnc hc).mono ?_; rw [Hes.out, HL.out, HW.out, HH.out]; rintro e w1 ⟨A1, c1, rfl, ho1, hb1⟩; have hf1 : Below w.heap.size w w1 := ((Below.refl w.heap.size w).alloc (Nat.le_refl _) _).trans (hb1.mono (by simp)); clear hb1)
    obtain ⟨B1, hB1⟩ : ∃ B1, w.heap.size + 1 = B1 := ⟨_, rfl⟩
    rw [World.size_alloc, hB1] at ho1
    have hB1' : w.heap.size ≤ B1 := by omega
    clear hB1
    have hlt1 : ∀ a, A1 = some a → a.block < w1.heap.size := fun a ha => by
      subst ha
      exact (ho1.lt a.block (by simp [Value.ownBlock])).2
    have hti : TI w ((w1.alloc (.cells #[.int .i64 W1, .int .i64 H1, .int .i64 K, .slice A1 L c1] 24)).alloc (.cells #[] 37)) B1 w1.heap.size W1 H1 K A1 c1 L s1 (some ⟨w1.heap.size + 1, 0, none⟩) 0 0 [] :=
      ⟨(ho1.alloc _).alloc _, hlt1, by
        have := own_new (w1.alloc (.cells #[.int .i64 W1, .int .i64 H1, .int .i64 K, .slice A1 L c1] 24)) #[] 37 4 0 (w1.heap.size + 1) rfl (by simp) (by unfold maxLen; omega)
        rw [World.size_alloc] at this
        exact this, (Below.heap_alloc _ _ _ (by simp)).trans (heap_alloc_new w1 _), (hf1.alloc hf1.size _).alloc (by have := hf1.size; simp; omega) _, hB1', hf1.size⟩
    go_loopw [6, 7, 8] (fun t i _ wr => ∃ (j : Nat) (A2 : Option Addr) (c2 : Nat), j ≤ L ∧ i = .int .i64 j ∧ t = .slice A2 j c2 ∧ TI w wr B1 w1.heap.size W1 H1 K A1 c1 L (part freed s1 j) A2 c2 j ((s1.take j).map freed)) (fun _ i _ _ => L - (intOf i).toNat)
    case atStart => exact ⟨0, _, _, by omega, rfl, rfl, by rw [part_zero]; exact hti⟩
    case round =>
      obtain ⟨j, A2, c2, hj, rfl, rfl, ht⟩ := hrel
      obtain ⟨q0, q1, q2, q3, q4⟩ := cells4 ht.box
      by_cases hlt : j < L
      · obtain ⟨g, s, rfl, _, hbl, hs, e0, e1, e2, e3, e4⟩ := own_at4 ht.own1 (by rw [part_len, HL.out]) hlt
        have hblt := hlt1 _ rfl
        rw [part_get] at hs
        have HN := Lib.hid (map_take_succ freed s1 j s hs)
        have HP := Lib.hid (part_set freed s1 j s hs)
        have HG := Lib.hid (show (part freed s1 j)[j]? = some s by rw [part_get]; exact hs)
        clear hs hti hf1 ho1 hlt1
        dsimp only at hblt
        obtain ⟨wo, rfl⟩ : ∃ wo : World, wo = wr := ⟨_, rfl⟩
        obtain ⟨l2, hl2⟩ : ∃ l2, (s1.take j).map freed = l2 := ⟨_, rfl⟩
        rw [hl2] at ht HN
        clear hl2
        have HT := Lib.hid (ht.store rfl HG.out)
        have hBz : w1.heap.size < wo.heap.size := (Array.getElem?_eq_some_iff.1 ht.box).1
        go_wp2_with (at_builtin; refine wpList_app rfl (.tmp 36) (.tmp 42) _ rfl elemShp (w1.heap.size + 1) _ _ _ rfl ((HT.out.own2.alloc _).alloc _) _ _ _ _ rfl (Sl.newAt _ _ _ 4 1 rfl (by simp)) (by intro u hu; simp at hu; rcases hu with rfl | rfl | rfl | rfl <;> rfl) (by unfold maxLen; omega) (by omega) (by simp; omega) ?_; intro A3 c3 w3 ho3 hg3 _)
        have ht3 := (HT.out.below (below_two _ _ _)).push (s := freed s) ho3 hg3
        rw [← HN.out, HP.out] at ht3
        exact ⟨⟨j + 1, _, _, by omega, by go_num, rfl, ht3⟩, by simp [intOf]; omega⟩
      · obtain rfl : L = j := by omega
        have hfl : (s1.take L).map freed = s1.map freed := by rw [List.take_of_length_le (by rw [HL.out]; exact Nat.le_refl _)]
        have hfp : part freed s1 L = s1.map freed := by rw [← HL.out, part_all]
        rw [hfl, hfp] at ht
        have hT := best_freed W1 H1 K s1
        obtain ⟨v, hv⟩ : ∃ v, bestV W1 H1 K (s1.map freed) = v := ⟨_, rfl⟩
        obtain ⟨e, he⟩ : ∃ e, bestE W1 H1 K (s1.map freed) = e := ⟨_, rfl⟩
        rw [hv, he] at hT
        have Hv := Lib.hid hv
        have He := Lib.hid he
        have HT1 := Lib.hid hT.1
        have HT2 := Lib.hid hT.2
        clear hfl hfp hT hv he hti hf1 ho1 hlt1
        obtain ⟨wo, rfl⟩ : ∃ wo : World, wo = wr := ⟨_, rfl⟩
        have hbz := (Array.getElem?_eq_some_iff.1 ht.box).1
        have hS1 := SlE.of_own ht.own1 (by rw [List.length_map, HL.out])
        have hS2 := SlE.of_own ht.own2 (by rw [List.length_map, HL.out])
        have hbel := ht.bel
        have hbox := ht.box
        clear ht
        go_wp2_with fail
        refine (best_sum W1 H1 K A1 L c1 (s1.map freed) _ hS1 (by omega)).mono ?_
        rw [Hv.out, He.out]
        rintro e1 w2 ⟨v2, rfl, hb2⟩
        obtain ⟨q0, q1, q2, q3, q4⟩ := cells4 (below_cells hb2 hbz hbox)
        have hS3 := hS2.below hb2
        have hf2 := hbel.trans (hb2.mono hbel.size)
        clear hb2
        go_wp2_with fail
        refine (best_sum H1 W1 K A2 L c2 (s1.map freed) _ hS3 (by omega)).mono ?_
        rw [HT1.out, HT2.out]
        rintro e1 w3 ⟨v3, rfl, hb3⟩
        have hf3 := hf2.trans (hb3.mono hf2.size)
        clear hb3
        go_wp2_with fail
        refine (lives_any _).mono ?_
        rintro e w6 ⟨rfl, hb6⟩
        have hf6 := hf3.trans (hb6.mono hf3.size)
        clear hb6
        go_wp2
        exact hR.out _ _ ⟨rfl, hf6⟩
end Go.Proofs.Ytfkpioibinpfhaa
