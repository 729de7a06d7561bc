/-
  The contract of temper.Best: the cheapest steps of a valid ring, of several the least ones, or the error that the document names.
-/
import Derived.Test.YtojbldoekalbnaaGreatTEach
namespace Go.Proofs.YtojbldoekalbnaaGreat
open Go.RowKit Go.Shelf
attribute [local go_sem] Oper.semAt_some
set_option maxHeartbeats 1000000 in
theorem best_bad (x : Rn) (A B : Option Addr) (n c m d : Nat) (fi th : List Int) (w : World) (hF : SlE intE 1 w A n fi) (hT : SlE intE 1 w B m th) (hn : n ≤ 9223372036854775807) (hm : m ≤ 9223372036854775807) (h : rgOk x fi th = false) :
    Calls Tryz.prog 25 #[.agg #[.int .i64 x.N, .int .i64 x.S, .int .i64 x.low, .int .i64 x.high, .int .i64 x.total, .int .i64 x.pure, .int .i64 x.worst, .slice A n c, .slice B m d]] w fun en w' => en = .returned (.tuple #[.slice none 0 0, .int .i64 0, .int .i64 1]) ∧ Below w.heap.size w w' := by
  refine calls_cps ?_
  intro R hR
  go_enter Tryz.func25, Tryz.ntmps25
  go_wp2_with fail
  (with_reducible refine (check_bad x A B n c m d fi th _ (hF.alloc _) (hT.alloc _) hn hm h).mono ?_)
  rintro en w1 ⟨rfl, hb1⟩
  have Hf := Lib.hid (hR.out _ _ ⟨rfl, below_box hb1⟩)
  clear hR hb1
  go_wp2
  go_ret3
  exact Hf.out
/-- What holds between two rounds over the beginnings: the box of the steps, that of their cost. -/
structure BesI (w W : World) (r : Rg) (A B : Option Addr) (n c m d bs g : Nat) (pre : List (List Int)) : Prop where
  below : Below w.heap.size w W
  box : W.heap[w.heap.size]? = some (.cells #[.int .i64 r.N, .int .i64 r.S, .int .i64 r.low, .int .i64 r.high, .int .i64 r.total, .int .i64 r.pure, .int .i64 r.worst, .slice A n c, .slice B m d] 50)
  steps : ∃ v, W.heap[bs]? = some (.cells #[v] 22 (0, 0)) ∧ (((pre.foldl r.stepB ([], -1)).2 < 0 ∧ v = .slice none 0 0) ∨ ∃ A' c', v = .slice A' r.N c' ∧ W.ownsRow w.heap.size 3 1 v r.N ((pre.foldl r.stepB ([], -1)).1.flatMap intE) ∧ ∀ a, A' = some a → g < a.block)
  least : W.heap[bs + 1]? = some (.cells #[.int .i64 (pre.foldl r.stepB ([], -1)).2] 3 (0, 0))
theorem BesI.grown {w W W' : World} {r : Rg} {A B : Option Addr} {n c m d bs g : Nat} {pre : List (List Int)} (h : BesI w W r A B n c m d bs g pre) {row : Option Nat} (hg : W.grownBy W' row) (hbs : w.heap.size < bs) (hr : ∀ k, row = some k → bs + 1 < k ∧ k ≤ g) : BesI w W' r A B n c m d bs g pre := by
  have hk : ∀ j o, W.heap[j]? = some o → j ≤ bs + 1 → W'.heap[j]? = some o := fun j o ho hj => (hg.block j (Array.getElem?_eq_some_iff.1 ho).1 (fun e => by have := hr j e.symm; omega)).trans ho
  obtain ⟨v, h1, h2⟩ := h.steps
  have hsz := (Array.getElem?_eq_some_iff.1 h1).1
  refine ⟨h.below.grown hg (by omega) (fun k e => by have := hr k e; omega), hk _ _ h.box (by omega), ⟨v, hk _ _ h1 (by omega), ?_⟩, hk _ _ h.least (Nat.le_refl _)⟩
  rcases h2 with h2 | ⟨A', c', e, ho, ha⟩
  · exact .inl h2
  · refine .inr ⟨A', c', e, ho.kept hg ?_, ha⟩
    subst e
    cases A' with
    | none => exact .inl rfl
    | some a =>
      refine .inr fun e => ?_
      obtain ⟨bl, o, hb', hh⟩ : ∃ bl o, a = ⟨bl, o, none⟩ ∧ True := by
        rcases ho.2 with ⟨e', _⟩ | ⟨g1, c1, cur1, e', _⟩
        · simp at e'
        · simp only [Value.slice.injEq, Option.some.injEq] at e'
          exact ⟨_, _, e'.1, trivial⟩
      have h3 := ha a rfl
      rw [hb'] at h3 e
      simp only [Value.ownBlock] at e
      have := hr _ e.symm
      dsimp only at h3
      omega
theorem costB_bd {r : Rg} (hr : r.Ok) {first : List Int} (hg : ∀ x ∈ first, r.low ≤ x ∧ x ≤ r.high) : 0 ≤ r.costB first ∧ r.costB first ≤ 675000 := by
  have h := totF_bd (f := fun i => r.fi.getD i 0 * first.getD i 0 * first.getD i 0) (M := 225000) (fun i => by
    have := (wss_bd (wt_1000 hr i).1 (getD_bd (st_15 hr hg) (by omega) i) (by omega)).2
    omega) (r.S - 1)
  have := hr.s2
  unfold Rg.costB
  omega
/-- Better steps are kept. -/
theorem BesI.store {w W : World} {r : Rg} {A B : Option Addr} {n c m d bs : Nat} {pre : List (List Int)} {first st : List Int} {cs : Int} {A' : Option Addr} {c' base : Nat} (h : BesI w W r A B n c m d bs (bs + 5) pre) (hbs : w.heap.size < bs)
    (hst : (pre ++ [first]).foldl r.stepB ([], -1) = (st, cs)) (ho : W.ownsRow base 3 1 (.slice A' r.N c') r.N (st.flatMap intE)) (hbase : bs + 5 < base) :
    BesI w ((W.setCell ⟨bs, 0, none⟩ (.slice A' r.N c')).setCell ⟨bs + 1, 0, none⟩ (.int .i64 cs)) r A B n c m d bs (bs + 5) (pre ++ [first]) ∧ Kx (fun j => j = bs ∨ j = bs + 1) W ((W.setCell ⟨bs, 0, none⟩ (.slice A' r.N c')).setCell ⟨bs + 1, 0, none⟩ (.int .i64 cs)) := by
  obtain ⟨v, h1, h2⟩ := h.steps
  have s1 := setCell_cells (i := 0) (v := .slice A' r.N c') h1
  have l1 := (Below.heap_setCell W ⟨bs, 0, none⟩ (.slice A' r.N c') (bs + 1) (by dsimp only; omega)).trans h.least
  have l2 := setCell_cells (i := 0) (v := .int .i64 cs) l1
  have s2 := (Below.heap_setCell (W.setCell ⟨bs, 0, none⟩ (.slice A' r.N c')) ⟨bs + 1, 0, none⟩ (.int .i64 cs) bs (by dsimp only; omega)).trans s1
  have x1 := (Below.heap_setCell W ⟨bs, 0, none⟩ (.slice A' r.N c') w.heap.size (by dsimp only; omega)).trans h.box
  have x2 := (Below.heap_setCell (W.setCell ⟨bs, 0, none⟩ (.slice A' r.N c')) ⟨bs + 1, 0, none⟩ (.int .i64 cs) w.heap.size (by dsimp only; omega)).trans x1
  have ha : ∀ a, A' = some a → base ≤ a.block ∧ (Value.slice A' r.N c').ownBlock = some a.block := fun a e => by
    rcases ho.2 with ⟨e', _⟩ | ⟨g1, c1, cur1, e', hb', _⟩
    · rw [e] at e'; simp at e'
    · simp only [Value.slice.injEq] at e'
      rw [e] at e'
      obtain ⟨e1, -⟩ := e'
      injection e1 with e1
      subst e1
      rw [e]
      exact ⟨hb', rfl⟩
  have hne : ∀ k, k ≤ bs + 5 → (Value.slice A' r.N c').ownBlock = none ∨ (Value.slice A' r.N c').ownBlock ≠ some k := fun k hk => by
    cases A' with
    | none => exact .inl rfl
    | some a =>
      obtain ⟨a1, a2⟩ := ha a rfl
      refine .inr fun e => ?_
      rw [a2] at e
      injection e with e
      omega
  refine ⟨⟨(h.below.setCell (p := ⟨bs, 0, none⟩) (by dsimp only; omega) _).setCell (p := ⟨bs + 1, 0, none⟩) (by dsimp only; omega) _, x2, ⟨_, s2, .inr ⟨A', c', rfl, ?_, fun a e => by have := (ha a e).1; omega⟩⟩, by rw [hst]; exact l2⟩, ?_⟩
  · rw [hst]
    exact own_base ((ho.kept (grown_set _ _ _ _) (hne bs (by omega))).kept (grown_set _ _ _ _) (hne (bs + 1) (by omega))) (by omega)
  · exact (kx_set (S := fun j => j = bs ∨ j = bs + 1) (b := bs + 1) (kx_set (S := fun j => j = bs ∨ j = bs + 1) (b := bs) (Kx.refl _ W) (.inl rfl) 0 _) (.inr rfl) 0 _)
theorem leave_one {F : Fence} {n : Nat} {P : Program} {fn : Func} {tmps : Array Value} {R : Ending → World → Prop} {D : Nat} {W : World} (h : W.heap[D]? = some (.deferred (some []))) {v : Value} (hv : (results fn tmps).run P (W.putObj D (.deferred none)) = .ok v (W.putObj D (.deferred none))) (hf : R (.returned v) (W.putObj D (.deferred none))) :
    LeavesInM F n P fn tmps R [{ target := .collected D, args := #[] }] .returning W := ⟨by simp, .inl ⟨_, _, rfl, run_takeDeferred h, v, hv, hf⟩⟩
theorem begs_best {r : Rg} (hr : r.Ok) {acc : List Int × Int} (h : r.begs.foldl r.stepB ([], -1) = acc) : (acc = ([], -1) ∧ ∀ st, ¬ r.Good st) ∨ (0 ≤ acc.2 ∧ r.Best acc.1 acc.2) := by
  have key : ∀ n, n ≤ r.begs.length → r.Amid (fun p => p ∈ r.begs.take n) ((r.begs.take n).foldl r.stepB ([], -1)) := by
    intro n
    induction n with
    | zero => intro _; exact .inl ⟨rfl, fun st _ hp => by simp at hp⟩
    | succ n ih =>
      intro hn
      have hlt : n < r.begs.length := by omega
      have hsp : r.begs.take n ++ r.begs[n] :: r.begs.drop (n + 1) = r.begs := by
        rw [← List.drop_eq_getElem_cons hlt, List.take_append_drop]
      obtain ⟨k1, k2⟩ := begs_lt hr hsp
      have := stepB_ok hr (ih (by omega)) k1.1 k1.2 k2
      rw [List.take_succ_eq_append_getElem hlt, List.foldl_append]
      refine cast ?_ this
      congr 1
      funext p
      rw [List.mem_append, List.mem_singleton]
  have hk := key r.begs.length (Nat.le_refl _)
  rw [List.take_length, h] at hk
  exact amid_best hk (fun st hst => begs_all hr ⟨by rw [List.length_take, hst.len]; have := hr.s3; omega, fun x hx => hst.rng x (List.mem_of_mem_take hx)⟩)
theorem Kx.ofBelow {S : Nat → Prop} {W W' : World} (h : Below W.heap.size W W') : Kx S W W' := (Kx.refl S W).below h
set_option maxRecDepth 100000 in
set_option maxHeartbeats 8000000 in
theorem best_ok (nf : Nat) (hnf : 6 ≤ nf) (r : Rg) (hr : r.Ok) (A B : Option Addr) (n c m d : Nat) (w : World) (hF : SlE intE 1 w A n r.fi) (hT : SlE intE 1 w B m r.th) :
    CallsIn Fence.wide nf Tryz.prog 25 #[.agg #[.int .i64 r.N, .int .i64 r.S, .int .i64 r.low, .int .i64 r.high, .int .i64 r.total, .int .i64 r.pure, .int .i64 r.worst, .slice A n c, .slice B m d]] w fun en w' => ((en = .returned (.tuple #[.slice none 0 0, .int .i64 0, .int .i64 6]) ∧ ∀ st, ¬ r.Good st) ∨
      ∃ (st : List Int) (cs : Int) (A' : Option Addr) (c' : Nat), en = .returned (.tuple #[.slice A' r.N c', .int .i64 cs, .int .i64 0]) ∧ r.Best st cs ∧ w'.ownsRow w.heap.size 3 1 (.slice A' r.N c') r.N (st.flatMap intE)) ∧ Below w.heap.size w w' := by
  refine callsIn_cps ?_
  intro R hR
  have Hok := Lib.hid hr
  have Hbox := Lib.hid (heap_alloc_new w (.cells #[.int .i64 r.N, .int .i64 r.S, .int .i64 r.low, .int .i64 r.high, .int .i64 r.total, .int .i64 r.pure, .int .i64 r.worst, .slice A n c, .slice B m d] 50))
  refine callsIn_of_wp_marks Tryz.func25 rfl trivial ?_ rfl
  simp only [Tryz.ntmps25, List.size_toArray, List.length_cons, List.length_nil, Nat.reduceAdd, Nat.reduceSub, Array.replicate_succ, Array.replicate_zero, List.push_toArray, List.append_toArray, List.nil_append, List.cons_append]
  refine wpIn_wide.2 ?_
  go_wp2_with fail
  (with_reducible refine (check_ok r hr A B n c m d _ (hF.alloc _) (hT.alloc _)).mono ?_)
  rintro en w1 ⟨rfl, hb1⟩
  have Hbox1 := Lib.hid (below_cells hb1 (b := w.heap.size) (by simp) Hbox.out)
  obtain ⟨c0, c1, c2, c3, c4, c5, c6, c7, c8, cf⟩ := ring9 Hbox1.out
  have Hb1 := Lib.hid (below_box hb1)
  have hl1 : w.heap.size < w1.heap.size := (Array.getElem?_eq_some_iff.1 Hbox1.out).1
  clear hb1
  go_wp2_with fail
  refine (beginnings_any r A B n c m d _).mono ?_
  rintro en w2 ⟨rfl, rfl⟩
  go_wp2_with fail
  obtain ⟨bs, hbs⟩ : ∃ bs, w1.heap.size = bs := ⟨_, rfl⟩
  rw [hbs] at hl1 ⊢
  have HI0 : ∀ g, BesI w (((w1.alloc (.cells #[.slice none 0 0] 22)).alloc (.cells #[.int .i64 (-1)] 3)).alloc (.cells #[.int .i64 r.N, .int .i64 r.S, .int .i64 r.low, .int .i64 r.high, .int .i64 r.total, .int .i64 r.pure, .int .i64 r.worst, .slice A n c, .slice B m d] 50)) r A B n c m d bs g [] ∧
      (((w1.alloc (.cells #[.slice none 0 0] 22)).alloc (.cells #[.int .i64 (-1)] 3)).alloc (.cells #[.int .i64 r.N, .int .i64 r.S, .int .i64 r.low, .int .i64 r.high, .int .i64 r.total, .int .i64 r.pure, .int .i64 r.worst, .slice A n c, .slice B m d] 50)).heap[bs + 1 + 1]? = some (.cells #[.int .i64 r.N, .int .i64 r.S, .int .i64 r.low, .int .i64 r.high, .int .i64 r.total, .int .i64 r.pure, .int .i64 r.worst, .slice A n c, .slice B m d] 50) ∧ (((w1.alloc (.cells #[.slice none 0 0] 22)).alloc (.cells #[.int .i64 (-1)] 3)).alloc (.cells #[.int .i64 r.N, .int .i64 r.S, .int .i64 r.low, .int .i64 r.high, .int .i64 r.total, .int .i64 r.pure, .int .i64 r.worst, .slice A n c, .slice B m d] 50)).heap.size = bs + 3 := fun g => by
    have h0 := heap_alloc_new w1 (.cells #[.slice none 0 0] 22)
    have h1 := heap_alloc_new (w1.alloc (.cells #[.slice none 0 0] 22)) (.cells #[.int .i64 (-1)] 3)
    have h2 := heap_alloc_new ((w1.alloc (.cells #[.slice none 0 0] 22)).alloc (.cells #[.int .i64 (-1)] 3)) (.cells #[.int .i64 r.N, .int .i64 r.S, .int .i64 r.low, .int .i64 r.high, .int .i64 r.total, .int .i64 r.pure, .int .i64 r.worst, .slice A n c, .slice B m d] 50)
    have b1 := below_new w1 (.cells #[.slice none 0 0] 22)
    have b2 := below_new (w1.alloc (.cells #[.slice none 0 0] 22)) (.cells #[.int .i64 (-1)] 3)
    have b3 := below_new ((w1.alloc (.cells #[.slice none 0 0] 22)).alloc (.cells #[.int .i64 (-1)] 3)) (.cells #[.int .i64 r.N, .int .i64 r.S, .int .i64 r.low, .int .i64 r.high, .int .i64 r.total, .int .i64 r.pure, .int .i64 r.worst, .slice A n c, .slice B m d] 50)
    simp only [World.size_alloc, hbs] at h0 h1 h2 b1 b2 b3
    refine ⟨⟨Hb1.out.trans ((b1.mono (by omega)).trans ((b2.mono (by omega)).trans (b3.mono (by omega)))), ?_, ⟨_, (b3.block _ (by omega)).trans ((b2.block _ (by omega)).trans h0), .inl ⟨by show (-1 : Int) < 0; decide, rfl⟩⟩, (b3.block _ (by omega)).trans h1⟩, h2, by simp [hbs]⟩
    exact (b3.block _ (by omega)).trans ((b2.block _ (by omega)).trans ((b1.block _ (by omega)).trans Hbox1.out))
  obtain ⟨W2, hW2⟩ : ∃ W2, ((w1.alloc (.cells #[.slice none 0 0] 22)).alloc (.cells #[.int .i64 (-1)] 3)).alloc (.cells #[.int .i64 r.N, .int .i64 r.S, .int .i64 r.low, .int .i64 r.high, .int .i64 r.total, .int .i64 r.pure, .int .i64 r.worst, .slice A n c, .slice B m d] 50) = W2 := ⟨_, rfl⟩
  rw [hW2] at HI0 ⊢
  have Hsz := Lib.hid (HI0 0).2.2
  have Hbx := Lib.hid (HI0 0).2.1
  have HI := Lib.hid (HI0 (bs + 5)).1
  clear HI0 hW2 hbs Hbox Hbox1 Hb1 c0 c1 c2 c3 c4 c5 c6 c7 c8 cf
  refine (wpIn_wide (n := nf)).1 ?_
  refine each_begs (by omega) r Hok.out A B n c m d (bs + 1 + 1) rfl (enters_of Tryz.func79 (by kernel_rfl) rfl) Hbx.out (fun j => j = bs ∨ j = bs + 1) (fun j hj => by have := Hsz.out; omega) (by omega)
    (fun pre W => BesI w W r A B n c m d bs (bs + 5) pre) (fun s X Y row h hg hr => h.grown hg (by omega) (fun k e => by have := hr k e; have := Hsz.out; omega)) HI.out ?Ac ?assign ?body ?done
  case assign =>
    intro l x e W K hK
    gi_wp2_with fail
    exact hK
  case body =>
    rintro l pre first rest x e W hp hI hsl hx hW
    obtain ⟨hvl, hlt⟩ := begs_lt Hok.out hp
    obtain ⟨c0, c1, c2, c3, c4, c5, c6, c7, c8, cf⟩ := ring9 hI.box
    have hs1 := Hok.out.s1
    have hs2 := Hok.out.s2
    have hs3 := Hok.out.s3
    have hn2 := Hok.out.n2
    have hF1 := hF.below hI.below
    have hT1 := hT.below hI.below
    have HI := Lib.hid hI
    have HW := Lib.hid hW
    clear hI hW
    obtain ⟨q, hq⟩ : ∃ q, r.S - 1 = q := ⟨_, rfl⟩
    have hqS : q + 1 = r.S := by omega
    rw [hq] at hsl ⊢
    gi_wp2_with fail
    refine ⟨trivial, ?_⟩
    refine ⟨fun _ => by omega, CallsIn.inRound l ((callsIn_wide.2 (begin_any r Hok.out A B (some x) n c m d q e first W hF1 hT1 hsl hqS hvl.2)).mono ?_)⟩
    rintro en w4 ⟨b, rb, gs, rfl, hR4, hbW, hb4⟩
    obtain ⟨L, hL⟩ : ∃ L, r.N + r.S = L := ⟨_, rfl⟩
    obtain ⟨K, hK⟩ : ∃ K, r.codes * r.sums = K := ⟨_, rfl⟩
    rw [hL, hK, hq] at hR4
    obtain ⟨z0, hz0⟩ : ∃ z, r.code0 first = z := ⟨_, rfl⟩
    obtain ⟨y0, hy0⟩ : ∃ z, r.sum0 first = z := ⟨_, rfl⟩
    have hzc := code0_lt Hok.out (by rw [hvl.1, hq]; exact hqS) hvl.2
    have hys := sum0_lt Hok.out (by rw [hvl.1]; omega) hvl.2
    rw [hz0] at hzc
    rw [hy0] at hys
    have hIdx := idx_lt hzc hys
    have hvalB := rowV_get (r := r) (first := first) (n := r.N) (t := q) hzc hys
    rw [show (r.lay first).val r.N q (z0, y0) = r.valB first by unfold Rg.valB; rw [hz0, hy0, hq]] at hvalB
    obtain ⟨Ix, hIx⟩ : ∃ I, z0 * r.sums + y0 = I := ⟨_, rfl⟩
    obtain ⟨V, hV⟩ : ∃ V, r.valB first = V := ⟨_, rfl⟩
    obtain ⟨Cb, hCb⟩ : ∃ C, r.costB first = C := ⟨_, rfl⟩
    obtain ⟨cb1, cb2⟩ := costB_bd Hok.out hvl.2
    obtain ⟨vb1, vb2⟩ := val_bd Hok.out (first := first) (by rw [hvl.1, hq]; exact hqS) hvl.2 r.N q (z0, y0) (by omega)
    rw [show (r.lay first).val r.N q (z0, y0) = r.valB first by unfold Rg.valB; rw [hz0, hy0, hq]] at vb1 vb2
    rw [hIx, hV] at hvalB
    rw [hIx, hK] at hIdx
    rw [hV] at vb1 vb2
    rw [hCb] at cb1 cb2
    rw [hz0, hCb]
    obtain ⟨ι, mk, hmk⟩ := cls_ex w4.heap.size w4
    have hd := hmk.drew
    have hne := hmk.ne
    have hboxW := (Array.getElem?_eq_some_iff.1 HI.out.box).1
    have hbox4 := (hb4.block _ hboxW).trans HI.out.box
    have hrow := fun y => (hR4.below (hmk.below y)).row (j := q) (Nat.le_refl _) (by omega)
    have hown := fun y => (hR4.below (hmk.below y)).own q (Nat.le_refl _) (by omega)
    rw [show L - 1 - q = r.N by omega] at hown
    have q0 := fun y => (hrow y).1
    have q1 := fun y => (hown y).cell hvalB
    have d11 := fun y => (circ13 (hR4.below (hmk.below y)).circ).2.2.2.2.2.2.2.2.2.2.2.1
    have d12 := fun y => (circ13 (hR4.below (hmk.below y)).circ).2.2.2.2.2.2.2.2.2.2.2.2.1
    have hringx := fun y => ring9 ((hmk.below y).block _ (Nat.lt_of_lt_of_le hboxW hb4.size) |>.trans hbox4)
    have e0 := fun y => (hringx y).1
    have e1 := fun y => (hringx y).2.1
    have e2 := fun y => (hringx y).2.2.1
    have e3 := fun y => (hringx y).2.2.2.1
    have e4 := fun y => (hringx y).2.2.2.2.1
    have e5 := fun y => (hringx y).2.2.2.2.2.1
    have e6 := fun y => (hringx y).2.2.2.2.2.2.1
    have e7 := fun y => (hringx y).2.2.2.2.2.2.2.1
    have e8 := fun y => (hringx y).2.2.2.2.2.2.2.2.1
    have HCa := Lib.hid (fun y => hmk.call (above_any r Hok.out A B (some x) n c m d q e first (mk y) ((hsl.below hb4).below (hmk.below y)) (by omega) hvl.2))
    rw [hy0] at HCa
    have hIxi : (z0 : Int) * (r.sums : Int) + (y0 : Int) = (Ix : Int) := by rw [← hIx]; simp
    have hcd := codes_64 Hok.out
    have hsm : r.sums ≤ 73 := by unfold Rg.sums; omega
    have hK2 : K ≤ 64 * 73 := by rw [← hK]; exact Nat.mul_le_mul hcd.2 hsm
    have hZs : (0 : Int) ≤ (z0 : Int) * (r.sums : Int) := Int.mul_nonneg (by omega) (by omega)
    have hu1 : IntKind.i64.wrap ((z0 : Int) * (r.sums : Int)) = (z0 : Int) * (r.sums : Int) := IntWalk.i64_in _ (by omega)
    have hu2 : IntKind.i64.wrap ((z0 : Int) * (r.sums : Int) + (y0 : Int)) = (Ix : Int) := by rw [hIxi]; exact IntWalk.i64_in _ (by omega)
    have hu4 : IntKind.i64.wrap (Ix : Int) = (Ix : Int) := IntWalk.i64_in _ (by omega)
    have hIk : (Ix : Int) < (K : Int) := by omega
    have hI0 : (0 : Int) ≤ (Ix : Int) := by omega
    have hqL : (q : Int) < (L : Int) := by omega
    have hq0 : (0 : Int) ≤ (q : Int) := by omega
    have HL := Lib.hid hL
    have HK := Lib.hid hK
    have Hq := Lib.hid hq
    have Hmk := Lib.hid hmk
    have HR4 := Lib.hid hR4
    have Hz0 := Lib.hid hz0
    have HV := Lib.hid hV
    have HCb := Lib.hid hCb
    have Hvl := Lib.hid hvl
    have Hb4 := Lib.hid hb4
    have Hsl := Lib.hid hsl
    have Hp := Lib.hid hp
    have HqS := Lib.hid hqS
    have HbW := Lib.hid hbW
    clear hL hK hq hmk hR4 hz0 hy0 hV hCb hvl hb4 hsl hp hlt c0 c1 c2 c3 c4 c5 c6 c7 c8 cf hringx hrow hown hvalB hIx hbox4 hqS hbW
    gi_wp2_with fail
    refine wpIn_region_cls (C := fun w' => ∃ x, w' = mk x) (by kernel_rfl) (by kernel_rfl) (by kernel_rfl) hd ?_
    repeat (go_big_quiet_step ((go_at_call 49; exact HCa.out _)))
    refine wpQuiet_nil ?_
    intro _ hw'
    obtain ⟨y, rfl⟩ := hw'
    obtain ⟨W5, hW5⟩ : ∃ W5, mk y = W5 := ⟨_, rfl⟩
    have hb5 := Hmk.out.below y
    rw [hW5] at hb5 ⊢
    have HR5 := Lib.hid (HR4.out.below hb5)
    have hb45 : Below W.heap.size W W5 := Hb4.out.trans (hb5.mono Hb4.out.size)
    have HI5 := Lib.hid (HI.out.grown (grown_below hb45) (by omega) (fun k e => by cases e))
    have Hkx5 := Lib.hid (show Kx (fun j => j = bs ∨ j = bs + 1) W W5 from Kx.ofBelow hb45)
    obtain ⟨acc, hacc⟩ : ∃ acc, pre.foldl r.stepB ([], -1) = acc := ⟨_, rfl⟩
    have HStep := Lib.hid (show (pre ++ [first]).foldl r.stepB ([], -1) = r.stepB acc first by rw [List.foldl_append, hacc]; rfl)
    have Hacc := Lib.hid hacc
    have hleast := HI5.out.least
    rw [hacc] at hleast
    have hbs5 : bs + 1 < W5.heap.size := (Array.getElem?_eq_some_iff.1 hleast).1
    have g0 : W5.cell? ⟨bs + 1, 0, none⟩ = some (.int .i64 acc.2) := by rw [cell_of_row _ _ 0 _ _ (0, 0) hleast]; rfl
    obtain ⟨lst, hlst⟩ : ∃ l, acc.2 = l := ⟨_, rfl⟩
    rw [hlst] at g0 hleast
    have Hleast := Lib.hid hleast
    have Hlst := Lib.hid hlst
    have Hsl5 := Lib.hid ((Hsl.out.below Hb4.out).below hb5)
    have HF5 := Lib.hid (hF.below HI5.out.below)
    have HT5 := Lib.hid (hT.below HI5.out.below)
    have Hno := Lib.hid (show ¬ (0 ≤ V ∧ (lst < 0 ∨ Cb + V < lst)) → BesI w W5 r A B n c m d bs (bs + 5) (pre ++ [first]) from fun h => by
      have e1 : r.stepB acc first = acc := by unfold Rg.stepB; rw [HV.out, HCb.out, hlst, if_neg h]
      have h5 := HI5.out
      refine ⟨h5.below, h5.box, ?_, ?_⟩
      · rw [HStep.out, e1, ← Hacc.out]; exact h5.steps
      · rw [HStep.out, e1, ← Hacc.out]; exact h5.least)
    clear hd hne q0 q1 d11 d12 e0 e1 e2 e3 e4 e5 e6 e7 e8 HCa hu1 hu2 hu4 hIxi hW5 hb5 hb45 hacc hleast hlst hF1 hT1 hcd
    by_cases hv0 : 0 ≤ V
    · by_cases hgo : lst < 0 ∨ Cb + V < lst
      · have Hgo := Lib.hid hgo
        have HFol := Lib.hid (show Calls Tryz.prog 50 #[.pointer (some ⟨b, 0, none⟩), .int .i64 (z0 : Nat)] W5 _ from by
          have h := HR5.out
          rw [← HL.out, ← HK.out] at h
          rw [← Hz0.out]
          exact follow_any r Hok.out A B (some x) n c m d q e first Hvl.out.2 b rb gs W5 (by rw [Hq.out]; exact h) HF5.out HT5.out Hsl5.out HqS.out (by rw [HV.out]; exact hv0))
        rcases hgo with hl0 | hl0
        · skip
          gi_wp2_with fail
          refine ⟨trivial, fun _ => by omega, CallsIn.inRound l ((callsIn_wide.2 HFol.out).mono ?_)⟩
          rintro en w6 ⟨A6, c6, rfl, ho6, hb6⟩
          have hI6 := HI5.out.grown (grown_below hb6) (by omega) (fun k e => by cases e)
          obtain ⟨hB7, hK7⟩ := hI6.store (first := first) (st := r.wayB first) (cs := Cb + V) (by omega) (by rw [HStep.out]; unfold Rg.stepB; rw [HV.out, HCb.out, Hlst.out, if_pos ⟨hv0, Hgo.out⟩]) ho6 (by have := HW.out; have := Hsz.out; have := Hkx5.out.size; omega)
          have HB7 := Lib.hid hB7
          have HK7 := Lib.hid ((Hkx5.out.below hb6).trans hK7 (fun j _ h => h))
          obtain ⟨v6, s6, -⟩ := hI6.steps
          have l6 := hI6.least
          have t0 : w6.cell? ⟨bs, 0, none⟩ = some v6 := by rw [cell_of_row _ _ 0 _ _ (0, 0) s6]; rfl
          have t1 : w6.frozen? ⟨bs, 0, none⟩ = false := by simp [World.frozen?, s6]
          have t2 : w6.cell? ⟨bs + 1, 0, none⟩ = some (.int .i64 (pre.foldl r.stepB ([], -1)).2) := by rw [cell_of_row _ _ 0 _ _ (0, 0) l6]; rfl
          have t3 : w6.frozen? ⟨bs + 1, 0, none⟩ = false := by simp [World.frozen?, l6]
          have t4 : bs ≠ bs + 1 := by omega
          clear hI6 s6 l6 ho6 hb6 hB7 hK7
          gi_wp2_with fail
          exact ⟨HB7.out, HK7.out⟩
        · by_cases hl1 : lst < 0
          · exact absurd hl1 (by omega)
          · skip
            gi_wp2_with fail
            refine ⟨trivial, fun _ => by omega, CallsIn.inRound l ((callsIn_wide.2 HFol.out).mono ?_)⟩
            rintro en w6 ⟨A6, c6, rfl, ho6, hb6⟩
            have hI6 := HI5.out.grown (grown_below hb6) (by omega) (fun k e => by cases e)
            obtain ⟨hB7, hK7⟩ := hI6.store (first := first) (st := r.wayB first) (cs := Cb + V) (by omega) (by rw [HStep.out]; unfold Rg.stepB; rw [HV.out, HCb.out, Hlst.out, if_pos ⟨hv0, Hgo.out⟩]) ho6 (by have := HW.out; have := Hsz.out; have := Hkx5.out.size; omega)
            have HB7 := Lib.hid hB7
            have HK7 := Lib.hid ((Hkx5.out.below hb6).trans hK7 (fun j _ h => h))
            obtain ⟨v6, s6, -⟩ := hI6.steps
            have l6 := hI6.least
            have t0 : w6.cell? ⟨bs, 0, none⟩ = some v6 := by rw [cell_of_row _ _ 0 _ _ (0, 0) s6]; rfl
            have t1 : w6.frozen? ⟨bs, 0, none⟩ = false := by simp [World.frozen?, s6]
            have t2 : w6.cell? ⟨bs + 1, 0, none⟩ = some (.int .i64 (pre.foldl r.stepB ([], -1)).2) := by rw [cell_of_row _ _ 0 _ _ (0, 0) l6]; rfl
            have t3 : w6.frozen? ⟨bs + 1, 0, none⟩ = false := by simp [World.frozen?, l6]
            have t4 : bs ≠ bs + 1 := by omega
            clear hI6 s6 l6 ho6 hb6 hB7 hK7
            gi_wp2_with fail
            exact ⟨HB7.out, HK7.out⟩
      · have hl0 : ¬ lst < 0 := fun h => hgo (.inl h)
        have hl1 : ¬ Cb + V < lst := fun h => hgo (.inr h)
        have Hf := Lib.hid (Hno.out (fun h => hgo h.2))
        clear hgo
        gi_wp2_with fail
        exact ⟨Hf.out, Hkx5.out⟩
    · have Hf := Lib.hid (Hno.out (fun h => hv0 h.1))
      gi_wp2_with fail
      exact ⟨Hf.out, Hkx5.out⟩
  case done =>
    intro D W hD hD1 hD2 hD3 hI
    obtain ⟨acc, hacc⟩ : ∃ acc, r.begs.foldl r.stepB ([], -1) = acc := ⟨_, rfl⟩
    have Hacc := Lib.hid hacc
    obtain ⟨v, s1, s2⟩ := hI.steps
    have l1 := hI.least
    rw [hacc] at s2 l1
    have g0 : W.cell? ⟨bs, 0, none⟩ = some v := by rw [cell_of_row _ _ 0 _ _ (0, 0) s1]; rfl
    have g1 : W.cell? ⟨bs + 1, 0, none⟩ = some (.int .i64 acc.2) := by rw [cell_of_row _ _ 0 _ _ (0, 0) l1]; rfl
    have HI := Lib.hid hI
    have Hs1 := Lib.hid s1
    have HD := Lib.hid hD
    clear hI hacc s1 s2 l1 hD
    have HBest := Lib.hid (begs_best Hok.out (acc := acc) Hacc.out)
    have Hsz1 := Hsz.out
    have Hend := Lib.hid (show ∀ q, BesI w ((W.drewN q).putObj D (.deferred none)) r A B n c m d bs (bs + 5) r.begs from fun q =>
      (HI.out.grown (grown_below (below_drewN (Below.refl _ _) q)) (by omega) (fun k e => by cases e)).grown (grownBy_putObj' (W.drewN q) D _) (by omega) (fun k e => by injection e with e; omega))
    by_cases hl : acc.2 < 0
    · have Hf := Lib.hid (hR.out (.returned (.tuple #[.slice none 0 0, .int .i64 0, .int .i64 6])) ((W.drewN 0).putObj D (.deferred none)) ⟨.inl ⟨rfl, by
        rcases HBest.out with h | ⟨h, _⟩
        · exact h.2
        · omega⟩, (Hend.out 0).below⟩)
      clear hR
      go_wp2_with fail
      exact leave_one HD.out (v := .tuple #[.slice none 0 0, .int .i64 0, .int .i64 6]) (by simp [results, Tryz.results25, go_sem]) Hf.out
    · have Hf := Lib.hid (show ∀ q, R (.returned (.tuple #[v, .int .i64 acc.2, .int .i64 0])) ((W.drewN q).putObj D (.deferred none)) from fun q => by
        rcases HBest.out with ⟨h, _⟩ | ⟨h, h2⟩
        · rw [h] at hl; exact absurd (show (-1 : Int) < 0 by decide) hl
        · obtain ⟨v', e1, e2⟩ := (Hend.out q).steps
          have e3 := HI.out.steps
          obtain ⟨v2, f1, f2⟩ := e3
          rw [Hacc.out] at e2
          have hv : v' = v := by
            have hW : W.heap[bs]? = some (.cells #[v] 22 (0, 0)) := Hs1.out
            have : ((W.drewN q).putObj D (.deferred none)).heap[bs]? = W.heap[bs]? := (grownBy_putObj' (W.drewN q) D (.deferred none)).block bs (by exact (Array.getElem?_eq_some_iff.1 hW).1) (by simp; omega)
            rw [this, hW] at e1
            simp at e1
            exact e1.symm
          subst hv
          rcases e2 with ⟨e2, _⟩ | ⟨A', c', rfl, e4, _⟩
          · omega
          · exact hR.out _ _ ⟨.inr ⟨acc.1, acc.2, A', c', rfl, h2, e4⟩, (Hend.out q).below⟩)
      clear hR
      go_wp2_with fail
      go_quiet (fail)
      go_wp2_with fail
      refine leave_one (by exact HD.out) (v := .tuple #[v, .int .i64 acc.2, .int .i64 0]) (by simp [results, Tryz.results25, go_sem]) (Hf.out _)
end Go.Proofs.YtojbldoekalbnaaGreat
