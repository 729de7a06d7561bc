/-
  A book as its cells, on its disk; Broken, Would, Count, Entry, Balance, slices.Clone of moves; no condition but that the cells hold a book. slices.Clone of moves, Book.Post; no condition but that the cells hold a book on its disk.
-/
import Derived.Test.YtndcijkgaadpgaaGreatDoorUd
import Derived.Deep.RegionLaw
import Derived.Deep.RegionHeld3
import Derived.StillTailTactics
import Derived.Lib.SliceRun
namespace Go.Proofs.YtndcijkgaadpgaaGreatDoor
section
section
open Go.RowKit Go.Maps
/-- The cells of a book; v: its entries' slice. -/
def bkC (dk mb : Nat) (v : Value) (b : Bk) : Array Value := #[.pointer (some ⟨dk, 0, none⟩), v, .map (some mb), .bool b.br]
/-- A slice of entries: an owned row of owned rows. -/
def Ent (W : World) (F : Nat → Prop) (v : Value) (E : List (List Mv)) : Prop :=
  ∃ outer, W.ownsRow 0 116 1 v E.length outer ∧ (∀ g, v.ownBlock = some g → F g) ∧
    ∀ (i : Nat) (e : List Mv), E[i]? = some e → ∃ Ai ci, outer[i]? = some (.slice Ai e.length ci) ∧ W.ownsRow 0 142 4 (.slice Ai e.length ci) e.length (e.flatMap mvE) ∧ ∀ g, (Value.slice Ai e.length ci).ownBlock = some g → F g
/-- Block a is a book b on the disk dk. -/
def Bok (W : World) (F : Nat → Prop) (a dk : Nat) (b : Bk) : Prop :=
  F a ∧ ∃ A c mb n, W.heap[a]? = some (.cells (bkC dk mb (.slice A b.E.length c) b) 115 (0, 0)) ∧ Ent W F (.slice A b.E.length c) b.E ∧ F mb ∧ n ≤ 64 * b.E.length ∧ BalZ W mb n (balE b.E)
/-- What holds of every book on its disk. -/
structure Inv (d : Dk) (b : Bk) : Prop where
  ok : d.Ok
  jour : Jour b.E
  ent : ∀ e ∈ b.E, enOk e = true
  fit : ∃ t, d.B = b.E.flatMap encE ++ t ∧ (b.br = false → t = [] ∧ d.down = false ∧ d.safe = d.B.length) ∧ (b.br = true → d.down = true ∧ d.safe = (b.E.flatMap encE).length ∧ ∃ l, t = encE l ∧ enOk l = true ∧ refE (balE b.E) l = 0)
theorem enc_pos (e : List Mv) : 7 ≤ (encE e).length := by rw [encE_len]; omega
theorem enc_many : ∀ (E : List (List Mv)), 7 * E.length ≤ (E.flatMap encE).length
  | [] => by simp
  | e :: E => by
    have := enc_many E
    have := enc_pos e
    rw [List.flatMap_cons, List.length_append, List.length_cons]
    omega
theorem Inv.few {d : Dk} {b : Bk} (h : Inv d b) : b.E.length ≤ 9362 := by
  obtain ⟨t, ht, _⟩ := h.fit
  have h1 := enc_many b.E
  have h2 := h.ok.1
  rw [ht, List.length_append] at h2
  omega
theorem Inv.bal {d : Dk} {b : Bk} (h : Inv d b) : BalB (balE b.E) := fun q => by
  obtain ⟨h1, h2, _⟩ := h.jour.now q
  unfold mxQ at h1 h2
  omega
section
variable {W w : World} {F S : Nat → Prop} {a dk : Nat} {b : Bk} {v : Value} {E : List (List Mv)}
theorem Ent.keep (h : Ent W F v E) (hk : ∀ j, F j → ∀ C ty, W.heap[j]? = some (.cells C ty (0, 0)) → (ty = 116 ∨ ty = 142) → w.heap[j]? = W.heap[j]?) : Ent w F v E := by
  obtain ⟨o, h1, h2, h3⟩ := h
  refine ⟨o, own_heap h1 fun g hg => ?_, h2, fun i e he => ?_⟩
  · obtain ⟨C, hC⟩ := own_blk h1 hg
    exact hk g (h2 g hg) C _ hC (.inl rfl)
  · obtain ⟨Ai, ci, e1, e2, e3⟩ := h3 i e he
    refine ⟨Ai, ci, e1, own_heap e2 fun g hg => ?_, e3⟩
    obtain ⟨C, hC⟩ := own_blk e2 hg
    exact hk g (e3 g hg) C _ hC (.inr rfl)
theorem Bok.keep (h : Bok W F a dk b) (h1 : ∀ j, F j → ∀ C ty, W.heap[j]? = some (.cells C ty (0, 0)) → (ty = 116 ∨ ty = 142 ∨ ty = 115) → w.heap[j]? = W.heap[j]?) (h2 : ∀ j, F j → (∃ es clock, W.heap[j]? = some (.map es clock)) → w.heap[j]? = W.heap[j]?) : Bok w F a dk b := by
  obtain ⟨q0, A, c, mb, n, q1, q2, q3, q4, q5⟩ := h
  refine ⟨q0, A, c, mb, n, (h1 a q0 _ _ q1 (.inr (.inr rfl))).trans q1, q2.keep fun j hj C ty hC ht => h1 j hj C ty hC (ht.imp id .inl), q3, q4, q5.keep (h2 mb q3 ?_)⟩
  obtain ⟨D, ⟨⟨es, clock, hb, _⟩, _⟩, _⟩ := q5
  exact ⟨es, clock, hb⟩
theorem Bok.below (h : Bok W F a dk b) (k : Below W.heap.size W w) : Bok w F a dk b :=
  h.keep (fun j _ _C _ty hC _ => k.block j (Array.getElem?_eq_some_iff.1 hC).1) (fun j _ ⟨_, _, hC⟩ => k.block j (Array.getElem?_eq_some_iff.1 hC).1)
theorem Bok.kx (h : Bok W F a dk b) (k : Kx S W w) (hs : ∀ j, F j → j < W.heap.size → ¬ S j) : Bok w F a dk b :=
  h.keep (fun j hj _C _ty hC _ => k.block j (Array.getElem?_eq_some_iff.1 hC).1 (hs j hj (Array.getElem?_eq_some_iff.1 hC).1)) (fun j hj ⟨_, _, hC⟩ => k.block j (Array.getElem?_eq_some_iff.1 hC).1 (hs j hj (Array.getElem?_eq_some_iff.1 hC).1))
/-- A book stays where its disk is written. -/
theorem Bok.disk {d : Dk} (h : Bok W F a dk b) (hd : Dsk W F dk d) (k : Kx (DkS W F dk) W w) : Bok w F a dk b := by
  have hdk : ∃ C, W.heap[dk]? = some (.cells C 109 (0, 0)) := by
    obtain ⟨_, _, A, c, h2, _, _⟩ := hd
    exact ⟨_, h2⟩
  obtain ⟨C0, hC0⟩ := hdk
  refine h.keep (fun j hj C ty hC ht => k.block j (Array.getElem?_eq_some_iff.1 hC).1 ?_) (fun j hj ⟨es, cl, hC⟩ => k.block j (Array.getElem?_eq_some_iff.1 hC).1 ?_)
  · rintro (rfl | ⟨_, C2, h2⟩)
    · rw [hC0] at hC
      simp only [Option.some.injEq, Obj.cells.injEq] at hC
      rcases ht with rfl | rfl | rfl <;> exact absurd hC.2.1 (by decide)
    · rw [h2] at hC
      simp only [Option.some.injEq, Obj.cells.injEq] at hC
      rcases ht with rfl | rfl | rfl <;> exact absurd hC.2.1 (by decide)
  · rintro (rfl | ⟨_, C2, h2⟩)
    · rw [hC0] at hC
      simp at hC
    · rw [h2] at hC
      simp at hC
theorem Bok.lt (h : Bok W F a dk b) : a < W.heap.size := by
  obtain ⟨q0, A, c, mb, n, q1, _⟩ := h
  exact (Array.getElem?_eq_some_iff.1 q1).1
theorem Bok.cells (h : Bok W F a dk b) : ∃ A c mb n, W.cell? ⟨a, 0, none⟩ = some (.pointer (some ⟨dk, 0, none⟩)) ∧ W.cell? ⟨a, 1, none⟩ = some (.slice A b.E.length c) ∧ W.cell? ⟨a, 2, none⟩ = some (.map (some mb)) ∧ W.cell? ⟨a, 3, none⟩ = some (.bool b.br) ∧
    Hid (∀ j, W.frozen? ⟨a, j, none⟩ = false) ∧ Hid (Ent W F (.slice A b.E.length c) b.E) ∧ Hid (n ≤ 64 * b.E.length) ∧ Hid (BalZ W mb n (balE b.E)) ∧ Hid (F mb) ∧ Hid (W.heap[a]? = some (.cells (bkC dk mb (.slice A b.E.length c) b) 115 (0, 0))) := by
  obtain ⟨q0, A, c, mb, n, q1, q2, q3, q4, q5⟩ := h
  have q1' := q1
  unfold bkC at q1'
  obtain ⟨c0, c1, c2, c3, f0⟩ := cells4 q1'
  exact ⟨A, c, mb, n, c0, c1, c2, c3, Lib.hid f0, Lib.hid q2, Lib.hid q4, Lib.hid q5, Lib.hid q3, Lib.hid q1⟩
end
set_option maxRecDepth 8000 in
set_option maxHeartbeats 2000000 in
theorem broken_any (w : World) (F : Nat → Prop) (a dk : Nat) (b : Bk) (h : Bok w F a dk b) : Calls Tryz.prog 244 #[.pointer (some ⟨a, 0, none⟩)] w fun e w' => e = .returned (.bool b.br) ∧ w = w' := by
  refine calls_cps ?_
  intro R hR
  have HF := Lib.hid (hR.out (.returned (.bool b.br)) w ⟨rfl, rfl⟩)
  obtain ⟨A, c, mb, n, c0, c1, c2, c3, -⟩ := h.cells
  clear hR h
  cases hb : b.br
  all_goals
    rw [hb] at c3 HF
    go_enter Tryz.func244, Tryz.ntmps244
    go_wp2
    exact HF.out
set_option maxRecDepth 8000 in
set_option maxHeartbeats 2000000 in
theorem count_any (w : World) (F : Nat → Prop) (a dk : Nat) (b : Bk) (h : Bok w F a dk b) : Calls Tryz.prog 54 #[.pointer (some ⟨a, 0, none⟩)] w fun e w' => e = .returned (.int .i64 (b.E.length : Int)) ∧ w = w' := by
  refine calls_cps ?_
  intro R hR
  have HF := Lib.hid (hR.out (.returned (.int .i64 (b.E.length : Int))) w ⟨rfl, rfl⟩)
  obtain ⟨A, c, mb, n, c0, c1, c2, c3, -⟩ := h.cells
  clear hR h
  go_enter Tryz.func54, Tryz.ntmps54
  go_wp2
  exact HF.out
set_option maxRecDepth 8000 in
set_option maxHeartbeats 2000000 in
theorem balance_any (w : World) (F : Nat → Prop) (a dk : Nat) (b : Bk) (x i : ByteArray) (h : Bok w F a dk b) (hp : PlZ (x, i)) : Calls Tryz.prog 175 #[.pointer (some ⟨a, 0, none⟩), .string x, .string i] w fun e w' => e = .returned (.int .i64 (balE b.E (x, i))) ∧ w = w' := by
  refine calls_cps ?_
  intro R hR
  have HF := Lib.hid (hR.out (.returned (.int .i64 (balE b.E (x, i)))) w ⟨rfl, rfl⟩)
  obtain ⟨A, c, mb, n, c0, c1, c2, c3, _, _, _, HB, _⟩ := h.cells
  obtain ⟨D, hD, _⟩ := HB.out
  have hl : (Instr.lookup 112 (.map (some mb)) (.agg #[.string x, .string i]) false).run Tryz.prog w = .ok (.int .i64 (balE b.E (x, i))) w := hD.look plT1 hp
  clear hR h hD
  go_enter Tryz.func175, Tryz.ntmps175
  go_wp2
  exact HF.out
set_option maxRecDepth 8000 in
set_option maxHeartbeats 2000000 in
theorem would_any (w : World) (F : Nat → Prop) (a dk : Nat) (d : Dk) (b : Bk) (A : Option Addr) (n c : Nat) (l : List Mv) (h : Bok w F a dk b) (hi : Inv d b) (hX : SlE mvE 4 w A n l) (hs : mvS l) (hn : n ≤ 9223372036854775807) :
    Calls Tryz.prog 246 #[.pointer (some ⟨a, 0, none⟩), .slice A n c] w fun e w' => e = .returned (.int .i64 (b.would l)) ∧ Below w.heap.size w w' := by
  refine calls_cps ?_
  intro R hR
  have Hr := Lib.hid (show ∀ v w', v = b.would l → Below w.heap.size w w' → R (.returned (.int .i64 v)) w' from fun v w' hv hb => hR.out _ _ ⟨by rw [hv], hb⟩)
  have HK := Lib.hid (broken_any w F a dk b h)
  have HE := Lib.hid (entry_any A n c l w hX hs hn)
  have HX := Lib.hid hX
  have HM := Lib.hid h
  have HI := Lib.hid hi
  clear hR h hi hX hs
  cases hb : b.br
  · rw [hb] at HK
    cases he : enOk l
    · rw [he] at HE
      have hf := fun w' => Hr.out 1 w' (by unfold Bk.would; rw [hb, he]; rfl)
      have HF := Lib.hid hf
      clear Hr hf hb he
      go_enter Tryz.func246, Tryz.ntmps246
      go_wp2_with (first
        | (go_at_call 244; (with_reducible refine HK.out.mono ?_); rintro e w' ⟨rfl, rfl⟩)
        | (go_at_call 68; (with_reducible refine HE.out.mono ?_); rintro e w' ⟨rfl, hb⟩))
      exact HF.out _ hb
    · rw [he] at HE
      have hf := fun w' => Hr.out (refE (balE b.E) l) w' (by unfold Bk.would; rw [hb, he]; rfl)
      have HF := Lib.hid hf
      have HZ := Lib.hid (mvZ_of he)
      clear Hr hf hb he
      go_enter Tryz.func246, Tryz.ntmps246
      go_wp2_with (go_at_call 244; (with_reducible refine HK.out.mono ?_); rintro e w' ⟨rfl, rfl⟩)
      refine HE.out.mono ?_
      rintro e w1 ⟨rfl, hb1⟩
      obtain ⟨A1, c1, mb, n1, d0, d1, d2, d3, _, _, HN, HB, _⟩ := (HM.out.below hb1).cells
      have HB1 := Lib.hid hb1
      clear hb1
      go_wp2_with fail
      refine (refused_any w1 mb n1 _ A n c l HB.out HI.out.bal (HX.out.below HB1.out) HZ.out).mono ?_
      rintro e w2 ⟨rfl, hb2⟩
      go_wp2
      exact HF.out _ (HB1.out.trans (hb2.mono HB1.out.size))
  · rw [hb] at HK
    have hf := Hr.out 8 w (by unfold Bk.would; rw [hb]; rfl) (Below.refl _ _)
    have HF := Lib.hid hf
    clear Hr hf hb HE
    go_enter Tryz.func246, Tryz.ntmps246
    go_wp2_with (go_at_call 244; (with_reducible refine HK.out.mono ?_); rintro e w' ⟨rfl, rfl⟩)
    exact HF.out
end
end
section
section
open Go.RowKit Go.Maps
theorem infoMv : (Tryz.prog.info? 142).map (fun i => (i.zero, i.size, i.bytes)) = some (some (.agg #[.string ByteArray.empty, .string ByteArray.empty, .string ByteArray.empty, .int .i64 0]), 4, 56) := by kernel_rfl
theorem elemMv : ElemOk Tryz.prog 116 142 4 56 := ElemOk.of (z := .agg #[.string ByteArray.empty, .string ByteArray.empty, .string ByteArray.empty, .int .i64 0]) Tryz.underlying116 infoMv rfl (by omega)
theorem infoEn : (Tryz.prog.info? 116).map (fun i => (i.zero, i.size, i.bytes)) = some (some (.slice none 0 0), 1, 24) := by kernel_rfl
theorem elemEn : ElemOk Tryz.prog 113 116 1 24 := ElemOk.of (z := .slice none 0 0) Tryz.underlying113 infoEn rfl (by omega)
set_option maxRecDepth 8000 in
set_option maxHeartbeats 2000000 in
theorem clonem_any (w : World) (A : Option Addr) (n c : Nat) (l : List Mv) (hX : SlE mvE 4 w A n l) (h1 : 1 ≤ n) (hn : n ≤ 1000) :
    Calls Tryz.prog 63 #[.slice A n c] w fun e w' => ∃ A' c', e = .returned (.slice A' n c') ∧ w'.ownsRow w.heap.size 142 4 (.slice A' n c') n (l.flatMap mvE) ∧ Below w.heap.size w w' := by
  refine calls_cps ?_
  intro R hR
  have Hr := Lib.hid hR.out
  have HX := Lib.hid hX
  obtain ⟨b, o, m, rfl, -⟩ := hX.mv_at (k := 0) (by omega)
  have HO := Lib.hid (own_newAt w #[] 142 4 0 w.heap.size rfl (Nat.le_refl _) (by unfold maxLen; omega) rfl)
  have HS := Lib.hid (hX.alloc (.cells #[] 142))
  have hnil := fun (W : World) => Lib.run_eql_slice_nil (P := Tryz.prog) W 116 142 (some ⟨b, o, none⟩) n c 0 0 Tryz.underlying116
  clear hR hX
  go_enter Tryz.func63, Tryz.ntmps63
  go_wp2_with (at_builtin; refine wpList_app rfl (.tmp 5) (.tmp 6) _ rfl elemMv w.heap.size _ _ _ rfl HO.out _ _ _ _ rfl HS.out.2 (mv_one _) (by unfold maxLen; omega) (by omega) (by simp) ?_; intro A2 c2 w2 ho2 hg2 hl2; have HO2 := Lib.hid ho2; have HG2 := Lib.hid hg2; clear ho2 hg2 hl2)
  have h2 := HO2.out
  rw [Nat.zero_add] at h2
  exact Hr.out _ _ ⟨A2, c2, rfl, by simpa using h2, below_own (below_new w _) HO.out (Nat.le_refl _) (by simp) HG2.out⟩
/-- What Append says. -/
theorem app_cases (d : Dk) (x : List UInt8) : (d.app x).2 = 0 ∨ (d.app x).2 = 9 ∧ (d.app x).1 = d ∨ (d.app x).2 = 11 := by
  unfold Dk.app
  split
  · exact .inr (.inr rfl)
  · split
    · exact .inr (.inl ⟨rfl, rfl⟩)
    · dsimp only
      split
      · exact .inr (.inr rfl)
      · exact .inl rfl
theorem sync_cases (d : Dk) : d.sync.2 = 0 ∨ d.sync.2 = 11 := by
  unfold Dk.sync
  split
  · exact .inr rfl
  · split
    · exact .inr rfl
    · exact .inl rfl
theorem would_bd (b : Bk) (l : List Mv) : b.would l = 0 ∨ b.would l = 1 ∨ b.would l = 5 ∨ b.would l = 8 ∨ b.would l = 10 := by
  unfold Bk.would
  split
  · exact .inr (.inr (.inr (.inl rfl)))
  · split
    · rcases refW_cases (balE b.E) l (plcs l) 0 with h | h | h
      · exact .inr (.inr (.inl h))
      · exact .inr (.inr (.inr (.inr h)))
      · exact .inl h
    · exact .inr (.inl rfl)
/-- The book and its disk. -/
structure Bd (W : World) (F : Nat → Prop) (a dk : Nat) (d : Dk) (b : Bk) : Prop where
  disk : Dsk W F dk d
  book : Bok W F a dk b
theorem Bd.below {W w : World} {F : Nat → Prop} {a dk : Nat} {d : Dk} {b : Bk} (h : Bd W F a dk d b) (k : Below W.heap.size W w) : Bd w F a dk d b := ⟨h.disk.below k, h.book.below k⟩
/-- A row of moves that is owned stays where a disk is written. -/
theorem mv_disk {W w : World} {F : Nat → Prop} {dk n : Nat} {d : Dk} {v : Value} {xs : List Value} (h : W.ownsRow 0 142 4 v n xs) (hd : Dsk W F dk d) (k : Kx (DkS W F dk) W w) : w.ownsRow 0 142 4 v n xs :=
  own_heap h fun g hg => by
    obtain ⟨C, hC⟩ := own_blk h hg
    refine k.block g (Array.getElem?_eq_some_iff.1 hC).1 ?_
    rintro (rfl | ⟨_, C2, h2⟩)
    · obtain ⟨_, _, A, c, h2, _, _⟩ := hd
      rw [h2] at hC
      simp only [Option.some.injEq, Obj.cells.injEq] at hC
      exact absurd hC.2.1 (by decide)
    · rw [h2] at hC
      simp only [Option.some.injEq, Obj.cells.injEq] at hC
      exact absurd hC.2.1 (by decide)
theorem kx_dks {W w : World} {F : Nat → Prop} {dk : Nat} {d : Dk} (hd : Dsk W F dk d) (k : Kx (DkS W F dk) W w) : Kx F W w := k.mono fun j h => by
  rcases h with rfl | h
  · exact hd.2.1
  · exact h.1
theorem own_mono {w : World} {B B' e sz n : Nat} {v : Value} {xs : List Value} (h : w.ownsRow B e sz v n xs) (hB : B' ≤ B) : w.ownsRow B' e sz v n xs := by
  refine ⟨h.1, ?_⟩
  rcases h.2 with h0 | ⟨g, c, cur, hv, h1, h2⟩
  · exact .inl h0
  · exact .inr ⟨g, c, cur, hv, Nat.le_trans hB h1, h2⟩
theorem hb5ent {W w : World} {F : Nat → Prop} {a dk : Nat} {b : Bk} {v : Value} (_ : Bok W F a dk b) (h : Ent W F v b.E) (k : Below W.heap.size W w) : Ent w F v b.E :=
  h.keep fun j _ _ _ hC _ => k.block j (Array.getElem?_eq_some_iff.1 hC).1
theorem run_callF {P : Program} {a : Act} {w : World} {o : Oper} {f : FuncId} {fn : Func} {args : Array Operand} {ats : Array TypeId} (hop : o.op = .call { callee := .value (.func f), args, argTypes := ats })
    (hf : P.funcs[f]? = some fn) (hname : (fn.name == "runtime.NumGoroutine") = false) (hb : fn.body.isNone = false) : (execOp a.eval o).run P w = .ok (.enter f (args.map a.eval)) w := by
  have h1 : ¬ fn.name = "runtime.NumGoroutine" := by simpa using hname
  have h2 : ¬ fn.body = none := by cases hx : fn.body <;> simp_all
  unfold execOp
  simp [hop, resolve, Deferred.ofValue, invoke, callFunc, hf, h1, h2, Act.eval]
/-- A call of a function of one argument, as a step of a region that draws its order. -/
theorem step_call {P : Program} {ops : Array Oper} {o : Oper} {a : Act} {w : World} {K : Act → World → Prop} {Q : Exit → Act → World → Prop} {E : Prop} (hg : o.guard = none) (f : FuncId) (x : Operand) (ts : Array TypeId)
    (hop : o.op = .call { callee := .value (.func f), args := #[x], argTypes := ts }) {fn : Func} (hf : P.funcs[f]? = some fn) (hname : (fn.name == "runtime.NumGoroutine") = false) (hb : fn.body.isNone = false)
    (v : Value) (hx : a.eval x = v) (R : Ending → World → Prop) (hc : Calls P f #[v] w R) (hret : ∀ e w', R e w' → ∃ r, e = .returned r)
    (hK : ∀ r w', R (.returned r) w' → K (a.put o.dst r) w') : if Region.wanted o (yielded ops a.tmps) = true then Oper.wp P o a w K Q else E := by
  have hw : Region.wanted o (yielded ops a.tmps) = true := by simp [Region.wanted, hg]
  rw [if_pos hw]
  unfold Oper.wp
  rw [run_callF hop hf hname hb, Oper.upon_enter]
  have ha : (#[x].map a.eval) = #[v] := by simp [hx]
  rw [ha]
  refine hc.mono fun e w' hr => ?_
  obtain ⟨r, rfl⟩ := hret e w' hr
  exact hK r w' hr
/-- Behind the clone of an entry's moves. -/
structure Sn (w4 w5 : World) (F : Nat → Prop) (A4 A5 : Option Addr) (c4 c5 n : Nat) (E : List (List Mv)) (l : List Mv) (outer : List Value) : Prop where
  bel : Below w4.heap.size w4 w5
  row : w5.ownsRow 0 142 4 (.slice A5 n c5) n (l.flatMap mvE)
  rowF : ∀ g, (Value.slice A5 n c5).ownBlock = some g → F g
  out : w5.ownsRow 0 116 1 (.slice A4 E.length c4) E.length outer
  outF : ∀ g, (Value.slice A4 E.length c4).ownBlock = some g → F g
  inn : ∀ (i : Nat) (e : List Mv), E[i]? = some e → ∃ Ai ci, outer[i]? = some (.slice Ai e.length ci) ∧ w5.ownsRow 0 142 4 (.slice Ai e.length ci) e.length (e.flatMap mvE) ∧ ∀ g, (Value.slice Ai e.length ci).ownBlock = some g → F g
/-- An entry more. -/
theorem ent_snoc {w5 w6 : World} {o : Obj} {F : Nat → Prop} {A4 A5 A6 : Option Addr} {c4 c5 c6 n : Nat} {E : List (List Mv)} {l : List Mv} {outer : List Value} (hu : Up w5 F) (o1 : w5.ownsRow 0 116 1 (.slice A4 E.length c4) E.length outer)
    (o2 : ∀ g, (Value.slice A4 E.length c4).ownBlock = some g → F g) (o3 : ∀ (i : Nat) (e : List Mv), E[i]? = some e → ∃ Ai ci, outer[i]? = some (.slice Ai e.length ci) ∧ w5.ownsRow 0 142 4 (.slice Ai e.length ci) e.length (e.flatMap mvE) ∧ ∀ g, (Value.slice Ai e.length ci).ownBlock = some g → F g)
    (e0 : w5.ownsRow 0 142 4 (.slice A5 n c5) n (l.flatMap mvE)) (eF : ∀ g, (Value.slice A5 n c5).ownBlock = some g → F g) (hn : n = l.length)
    (ho6 : w6.ownsRow 0 116 1 (.slice A6 (E.length + 1) c6) (E.length + 1) (outer ++ [.slice A5 n c5])) (hg6 : (w5.alloc o).grownBy w6 (Value.slice A4 E.length c4).ownBlock)
    (hl6 : (Value.slice A6 (E.length + 1) c6).ownBlock = (Value.slice A4 E.length c4).ownBlock ∨ (Value.slice A6 (E.length + 1) c6).ownBlock = some (w5.alloc o).heap.size) : Ent w6 F (.slice A6 (E ++ [l]).length c6) (E ++ [l]) := by
  subst hn
  have hlen : (E ++ [l]).length = E.length + 1 := by simp
  rw [hlen]
  have hol : outer.length = E.length := by simpa using o1.1
  have hkeep : ∀ {v : Value} {n : Nat} {xs : List Value}, w5.ownsRow 0 142 4 v n xs → w6.ownsRow 0 142 4 v n xs := fun h => (h.alloc o).kept hg6 (own_ne (h.alloc o) (o1.alloc o) (by decide))
  refine ⟨outer ++ [.slice A5 l.length c5], by rw [hlen]; exact ho6, fun g hg => ?_, fun i e he => ?_⟩
  · rcases hl6 with h | h
    · exact o2 g (h ▸ hg)
    · rw [h] at hg
      cases hg
      exact hu _ (by simp)
  · rcases Nat.lt_or_ge i E.length with h | h
    · rw [List.getElem?_append_left h] at he
      obtain ⟨Ai, ci, e1, e2, e3⟩ := o3 i e he
      exact ⟨Ai, ci, by rw [List.getElem?_append_left (by omega)]; exact e1, hkeep e2, e3⟩
    · have hi : i = E.length := by
        have := (List.getElem?_eq_some_iff.1 he).1
        simp at this
        omega
      subst hi
      simp at he
      subst he
      exact ⟨A5, c5, by rw [List.getElem?_append_right (by omega), hol]; simp, hkeep e0, eF⟩
theorem BalZ.set {W : World} {m n : Nat} {f : Pl → Int} (h : BalZ W m n f) {x : Addr} (hx : m ≠ x.block) (u : Value) : BalZ (W.setCell x u) m n f := h.keep (Below.heap_setCell W x u m hx)
theorem Ent.set {W : World} {F : Nat → Prop} {a i : Nat} {v u : Value} {E : List (List Mv)} {C : Array Value} (h : Ent W F v E) (ha : W.heap[a]? = some (.cells C 115 (0, 0))) : Ent (W.setCell ⟨a, i, none⟩ u) F v E :=
  h.keep fun j _ C2 ty hC ht => hset_ne fun e => by
    subst e
    rw [ha] at hC
    simp only [Option.some.injEq, Obj.cells.injEq] at hC
    rcases ht with rfl | rfl <;> exact absurd hC.2.1 (by decide)
theorem Bok.breaks {w : World} {F : Nat → Prop} {a dk : Nat} {b : Bk} (h : Bok w F a dk b) : Bok (w.setCell ⟨a, 3, none⟩ (.bool true)) F a dk ⟨b.E, true⟩ := by
  obtain ⟨q0, A, c, mb, n, q1, q2, q3, q4, q5⟩ := h
  refine ⟨q0, A, c, mb, n, ?_, q2.set q1, q3, q4, q5.set (fun e => ?_) _⟩
  · rw [hset q1]
    rfl
  · obtain ⟨D, ⟨⟨es, clock, hb, _⟩, _⟩, _⟩ := q5
    have e' : mb = a := e
    subst e'
    rw [q1] at hb
    simp at hb
theorem Dsk.book_set {w : World} {F : Nat → Prop} {a dk i : Nat} {d : Dk} {C : Array Value} {u : Value} (h : Dsk w F dk d) (ha : w.heap[a]? = some (.cells C 115 (0, 0))) : Dsk (w.setCell ⟨a, i, none⟩ u) F dk d :=
  h.kx_ty (kx_put w a i u) (fun C2 h2 e => by
    subst e
    rw [ha] at h2
    simp only [Option.some.injEq, Obj.cells.injEq] at h2
    exact absurd h2.2.1 (by decide)) (fun j C2 h2 e => by
    subst e
    rw [ha] at h2
    simp only [Option.some.injEq, Obj.cells.injEq] at h2
    exact absurd h2.2.1 (by decide))
theorem Dsk.breaks {w : World} {F : Nat → Prop} {a dk : Nat} {d : Dk} {b : Bk} {u : Value} (h : Dsk w F dk d) (hb : Bok w F a dk b) : Dsk (w.setCell ⟨a, 3, none⟩ u) F dk d := by
  obtain ⟨q0, A, c, mb, n, q1, _⟩ := hb
  exact h.book_set q1
/-- The blocks of F that are rows of one type. -/
def TyS (W : World) (F : Nat → Prop) (t : TypeId) : Nat → Prop := fun j => F j ∧ ∃ C, W.heap[j]? = some (.cells C t (0, 0))
theorem Dsk.tyS {W w : World} {F : Nat → Prop} {t : TypeId} {dk : Nat} {d : Dk} (h : Dsk W F dk d) (k : Kx (TyS W F t) W w) (h1 : t ≠ 109) (h2 : t ≠ 5) : Dsk w F dk d :=
  h.kx_ty k (fun C hC hs => by
    obtain ⟨_, C2, h3⟩ := hs
    rw [h3] at hC
    simp only [Option.some.injEq, Obj.cells.injEq] at hC
    exact h1 hC.2.1) (fun j C hC hs => by
    obtain ⟨_, C2, h3⟩ := hs
    rw [h3] at hC
    simp only [Option.some.injEq, Obj.cells.injEq] at hC
    exact h2 hC.2.1)
theorem BalZ.map {W : World} {m n : Nat} {f : Pl → Int} (h : BalZ W m n f) : ∃ es clock, W.heap[m]? = some (.map es clock) := by
  obtain ⟨D, ⟨⟨es, clock, hb, _⟩, _⟩, _⟩ := h
  exact ⟨es, clock, hb⟩
theorem BalZ.tyS {W w : World} {F : Nat → Prop} {t : TypeId} {m n : Nat} {f : Pl → Int} (h : BalZ W m n f) (k : Kx (TyS W F t) W w) : BalZ w m n f :=
  h.keep (k.block m h.lt fun hs => by
    obtain ⟨_, C2, h3⟩ := hs
    obtain ⟨es, cl, hm⟩ := h.map
    rw [h3] at hm
    simp at hm)
theorem own_tyS {W w : World} {F : Nat → Prop} {t e : TypeId} {B sz n : Nat} {v : Value} {xs : List Value} (h : W.ownsRow B e sz v n xs) (k : Kx (TyS W F t) W w) (hne : t ≠ e) : w.ownsRow B e sz v n xs :=
  own_heap h fun g hg => by
    obtain ⟨C, hC⟩ := own_blk h hg
    refine k.block g (Array.getElem?_eq_some_iff.1 hC).1 ?_
    rintro ⟨_, C2, h3⟩
    rw [h3] at hC
    simp only [Option.some.injEq, Obj.cells.injEq] at hC
    exact hne hC.2.1
theorem own_setH {W : World} {a i : Nat} {t e : TypeId} {B sz n : Nat} {v u : Value} {xs : List Value} {C : Array Value} (h : W.ownsRow B e sz v n xs) (ha : W.heap[a]? = some (.cells C t (0, 0))) (hne : e ≠ t) : (W.setCell ⟨a, i, none⟩ u).ownsRow B e sz v n xs :=
  own_heap h fun g hg => hset_ne (own_nea ha h hne g hg)
/-- Behind the entries' new slice: what the last part of Post wants. -/
structure Pe (w4 W7 : World) (F : Nat → Prop) (a dk mb n4 : Nat) (A : Option Addr) (n c : Nat) (d : Dk) (b : Bk) (l : List Mv) : Prop where
  bal : BalZ W7 mb n4 (balE b.E)
  row : W7.ownsRow 0 142 4 (.slice A n c) n (l.flatMap mvE)
  last : ∀ {w8 : World}, BalZ w8 mb (n4 + 2 * n) (fun q => balE b.E q + enA l q) → Kx (fun j => j = mb) W7 w8 → n ≤ 32 → Bd w8 F a dk d ⟨b.E ++ [l], b.br⟩ ∧ Kx F w4 w8
theorem post_end {w4 w5 w6 : World} {F : Nat → Prop} {a dk mb n4 n : Nat} {A A4 A5 A6 : Option Addr} {c c4 c5 c6 : Nat} {d : Dk} {b : Bk} {l : List Mv} {outer : List Value}
    (hB : Bok w4 F a dk b) (hD : Dsk w4 F dk d) (hX : w4.ownsRow 0 142 4 (.slice A n c) n (l.flatMap mvE)) (hu : Up w4 F) (_ : w4.cell? ⟨a, 1, none⟩ = some (.slice A4 b.E.length c4)) (hE : Ent w4 F (.slice A4 b.E.length c4) b.E) (hn4 : n4 ≤ 64 * b.E.length) (hbal : BalZ w4 mb n4 (balE b.E)) (hF : F mb)
    (_ : w4.heap[a]? = some (.cells (bkC dk mb (.slice A4 b.E.length c4) b) 115 (0, 0))) (hsn : Sn w4 w5 F A4 A5 c4 c5 n b.E l outer) (hl : n = l.length) (ho6 : w6.ownsRow 0 116 1 (.slice A6 (b.E.length + 1) c6) (b.E.length + 1) (outer ++ [.slice A5 n c5]))
    (hg6 : (w5.alloc (.cells #[.slice A5 n c5] 116)).grownBy w6 (Value.slice A4 b.E.length c4).ownBlock) (hl6 : (Value.slice A6 (b.E.length + 1) c6).ownBlock = (Value.slice A4 b.E.length c4).ownBlock ∨ (Value.slice A6 (b.E.length + 1) c6).ownBlock = some (w5.alloc (.cells #[.slice A5 n c5] 116)).heap.size)
    (hk6 : w6.heap[a]? = some (.cells #[.pointer (some ⟨dk, 0, none⟩), .slice A4 b.E.length c4, .map (some mb), .bool b.br] 115 (0, 0))) : Pe w4 (w6.setCell ⟨a, 1, none⟩ (.slice A6 (b.E.length + 1) c6)) F a dk mb n4 A n c d b l := by
  obtain ⟨o4, o41, o42, _⟩ := hE
  have hk : Kx (TyS w4 F 116) w4 w6 := ((kx_of_below hsn.bel).below (below_new w5 _)).grown hg6 fun j hj => .inl ⟨o42 j hj, own_blk o41 hj⟩
  have hEnt := ent_snoc (hu.below hsn.bel) hsn.out hsn.outF hsn.inn hsn.row hsn.rowF hl ho6 hg6 hl6
  have hbal6 := hbal.tyS hk
  have hne : mb ≠ a := fun e => by
    obtain ⟨es, cl, hm⟩ := hbal6.map
    rw [e, hk6] at hm
    simp at hm
  have hlen : (b.E ++ [l]).length = b.E.length + 1 := by simp
  refine ⟨hbal6.set hne _, own_setH (own_tyS hX hk (by decide)) hk6 (by decide), fun {w8} h8 k8 hn => ⟨⟨?_, ?_⟩, ?_⟩⟩
  · have h7 : Dsk (w6.setCell ⟨a, 1, none⟩ (.slice A6 (b.E.length + 1) c6)) F dk d := (hD.tyS hk (by decide) (by decide)).book_set hk6
    refine h7.kx_ty k8 (fun C hC e => ?_) (fun j C hC e => ?_)
    · obtain ⟨es, cl, hm⟩ := (hbal6.set hne (.slice A6 (b.E.length + 1) c6) (x := ⟨a, 1, none⟩)).map
      rw [← e, hC] at hm
      simp at hm
    · obtain ⟨es, cl, hm⟩ := (hbal6.set hne (.slice A6 (b.E.length + 1) c6) (x := ⟨a, 1, none⟩)).map
      rw [← e, hC] at hm
      simp at hm
  · have ha7 := hset (i := 1) (v := .slice A6 (b.E.length + 1) c6) hk6
    have ha8 := (k8.block a (Array.getElem?_eq_some_iff.1 ha7).1 (fun e => hne e.symm)).trans ha7
    refine ⟨hB.1, A6, c6, mb, n4 + 2 * n, ?_, ?_, hF, by rw [hlen]; omega, ?_⟩
    · rw [ha8]
      show _ = some (Obj.cells (bkC dk mb (.slice A6 (b.E ++ [l]).length c6) ⟨b.E ++ [l], b.br⟩) _ _)
      rw [hlen]
      rfl
    · refine (hEnt.set hk6).keep fun j hj C ty hC _ => k8.block j (Array.getElem?_eq_some_iff.1 hC).1 fun e => ?_
      obtain ⟨es, cl, hm⟩ := (hbal6.set hne (.slice A6 (b.E.length + 1) c6) (x := ⟨a, 1, none⟩)).map
      rw [← e, hC] at hm
      simp at hm
    · have e : balE (b.E ++ [l]) = fun q => balE b.E q + enA l q := funext fun q => balE_snoc b.E l q
      show BalZ w8 mb (n4 + 2 * n) (balE (b.E ++ [l]))
      rw [e]
      exact h8
  · exact ((hk.mono (fun j h => h.1)).trans (kx_put w6 a 1 _) (fun j _ e => e ▸ hB.1)).trans k8 (fun j _ e => e ▸ hF)
set_option maxRecDepth 8000 in
set_option maxHeartbeats 8000000 in
theorem post_bad (w : World) (F : Nat → Prop) (a dk : Nat) (d : Dk) (b : Bk) (A : Option Addr) (n c : Nat) (l : List Mv) (h : Bd w F a dk d b) (hi : Inv d b) (hX : w.ownsRow 0 142 4 (.slice A n c) n (l.flatMap mvE)) (hl : n = l.length) (hs : mvS l) (hn : n ≤ 9223372036854775807) (hw : b.would l ≠ 0) :
    Calls Tryz.prog 217 #[.pointer (some ⟨a, 0, none⟩), .slice A n c] w fun e w' => e = .returned (.int .i64 (b.would l)) ∧ Below w.heap.size w w' := by
  refine calls_cps ?_
  intro R hR
  have HW := Lib.hid (would_any w F a dk d b A n c l h.book hi (SlE.of_own hX hl) hs hn)
  have Hr := Lib.hid (fun w' hb => hR.out (.returned (.int .i64 (b.would l))) w' ⟨rfl, hb⟩)
  obtain ⟨v, hv⟩ : ∃ v, b.would l = v := ⟨_, rfl⟩
  rw [hv] at HW Hr hw
  have e1 : (v != 0) = true := by rw [bne_iff_ne]; exact hw
  clear hR hX h hw hv hl hi
  go_enter Tryz.func217, Tryz.ntmps217
  go_wp2_with fail
  refine HW.out.mono ?_
  rintro e w' ⟨rfl, hb⟩
  have HB := Lib.hid hb
  clear hb
  go_wp2
  exact Hr.out _ HB.out
set_option maxRecDepth 8000 in
set_option maxHeartbeats 8000000 in
theorem post_ok (w : World) (F : Nat → Prop) (a dk : Nat) (d : Dk) (b : Bk) (A : Option Addr) (n c : Nat) (l : List Mv) (h : Bd w F a dk d b) (hi : Inv d b) (hu : Up w F) (hX : w.ownsRow 0 142 4 (.slice A n c) n (l.flatMap mvE)) (hl : n = l.length) (hw : b.would l = 0) :
    Calls Tryz.prog 217 #[.pointer (some ⟨a, 0, none⟩), .slice A n c] w fun e w' => e = .returned (.int .i64 (postB d b l).2.2) ∧ Bd w' F a dk (postB d b l).1 (postB d b l).2.1 ∧ Kx F w w' := by
  refine calls_cps ?_
  intro R hR
  have hz : enOk l = true := by
    unfold Bk.would at hw
    split at hw
    · cases hw
    · split at hw
      · assumption
      · cases hw
  have hZ := mvZ_of hz
  have hs : mvS l := fun m hm => by have := hZ.2 m hm; omega
  have hn : n ≤ 32 := by rw [hl]; exact hZ.1
  have hn1 : 1 ≤ n := by
    unfold enOk at hz
    simp only [Bool.and_eq_true, decide_eq_true_eq] at hz
    omega
  have HW := Lib.hid (would_any w F a dk d b A n c l h.book hi (SlE.of_own hX hl) hs (by omega))
  rw [hw] at HW
  have hpost : postB d b l = if (d.app (encE l)).2 = 9 then (d, b, 9) else
    if (d.app (encE l)).2 ≠ 0 then ((d.app (encE l)).1, ⟨b.E, true⟩, (d.app (encE l)).2) else
    if ((d.app (encE l)).1.sync).2 ≠ 0 then ((d.app (encE l)).1.sync.1, ⟨b.E, true⟩, (d.app (encE l)).1.sync.2) else
    ((d.app (encE l)).1.sync.1, ⟨b.E ++ [l], b.br⟩, 0) := by
    unfold postB
    rw [if_neg (by rw [hw]; decide)]
  have HH := Lib.hid h
  have HX := Lib.hid hX
  have HL := Lib.hid hl
  have HU := Lib.hid hu
  have HZ := Lib.hid hZ
  have HI := Lib.hid hi
  have HP := Lib.hid hpost
  clear h hX hl hu hZ hi hz hw hs hpost
  go_enter Tryz.func217, Tryz.ntmps217
  go_wp2_with (go_at_call 246; (with_reducible refine HW.out.mono ?_); rintro e w1 ⟨rfl, hb1⟩; have HB1 := Lib.hid hb1; clear hb1)
  have hh := HH.out.below HB1.out
  obtain ⟨A0, c0, mb, n0, d0, d1, d2, d3, _, _, HN, HBal, HFm, HHp⟩ := hh.book.cells
  have HX1 := Lib.hid (ownsRow_below HX.out HB1.out)
  have HE : Hid (Calls Tryz.prog 295 #[.slice A n c] w1.drew fun e w' => ∃ A' m c', e = .returned (.slice A' m c') ∧ SlE byE 1 w' A' m (encE l) ∧ m ≤ 1400 ∧ Below w1.heap.size w1 w') :=
    Lib.hid ((encode_any A n c l w1.drew (SlE.of_own HX1.out HL.out) HZ.out).mono fun e w' ⟨A', m, c', e1, e2, e3, hb⟩ => ⟨A', m, c', e1, e2, e3, ⟨hb.os, hb.tape, hb.output, hb.size, hb.block⟩⟩)
  have HH1 := Lib.hid hh
  clear hh
  have hx1 : w1.drew.cell? ⟨a, 0, none⟩ = some (.pointer (some ⟨dk, 0, none⟩)) := d0
  go_upto_region 4 with fail
  rcases app_cases d (encE l) with ha | ⟨ha, ha'⟩ | ha
  · have HA := Lib.hid ha
    clear ha
    go_region_held3 (fun w' => w'.cell? ⟨a, 0, none⟩ = some (.pointer (some ⟨dk, 0, none⟩)))
      (first
      | exact hx1
      | exact hx2
      | exact hx3
      | go_keep)
      (first
      | (go_at_call 295; (with_reducible refine HE.out.mono ?_); rintro e w2 ⟨A2, m2, c2, rfl, hxx2, hm2, hb2⟩; have HBw2 := Lib.hid hb2; have HX2 := Lib.hid hxx2; have HM2 := Lib.hid (show m2 ≤ 1000000 by omega); have HU2 := Lib.hid ((HU.out.below HB1.out).below hb2); have HH2 := Lib.hid (HH1.out.below hb2); obtain ⟨_, _, _, _, hx2, -⟩ := (HH1.out.below hb2).book.cells; clear hxx2 hm2 hb2)
      | (go_at_call 294; (with_reducible refine (dapp_any w2 F dk d HH2.out.disk HU2.out A2 m2 c2 (encE l) HX2.out HM2.out).mono ?_); rw [HA.out]; rintro e w3 ⟨rfl, hd3, hk3⟩; obtain ⟨_, _, _, _, hx3, -⟩ := (HH2.out.book.disk HH2.out.disk hk3).cells; have HD3 := Lib.hid hd3; have HK3 := Lib.hid hk3; clear hd3 hk3))
    have HB3 := Lib.hid (HH2.out.book.disk HH2.out.disk HK3.out)
    have HX3 := Lib.hid (mv_disk (ownsRow_below HX1.out HBw2.out) HH2.out.disk HK3.out)
    have HKF := Lib.hid (((kx_of_below HB1.out).trans (kx_of_below (S := F) HBw2.out) (fun _ _ h => h)).trans (kx_dks HH2.out.disk HK3.out) (fun _ _ h => h))
    clear HE
    rcases sync_cases (d.app (encE l)).1 with hs | hs
    · have HS := Lib.hid hs
      have HY := Lib.hid (dsync_any w3 F dk _ HD3.out)
      clear hs
      go_wp2_with (go_at_call 44; (with_reducible refine HY.out.mono ?_); rw [HS.out]; rintro e w4 ⟨rfl, hd4, hk4⟩; have HD4 := Lib.hid hd4; have HK4 := Lib.hid (hk4.mono (T := DkS w3 F dk) fun j e => .inl e); clear hd4 hk4)
      have hb4 := HB3.out.disk HD3.out HK4.out
      have HB4 := Lib.hid hb4
      have HX4 := Lib.hid (mv_disk HX3.out HD3.out HK4.out)
      have HKF4 := Lib.hid (HKF.out.trans (kx_dks HD3.out HK4.out) (fun _ _ h => h))
      have HU4 := Lib.hid (HU.out.kx HKF4.out)
      obtain ⟨A4, c4, mb4, n4, g0, g1, g2, g3, gf, HE4, HN4, HBal4, HF4, HHp4⟩ := hb4.cells
      have halt := hb4.lt
      have HCl : Hid (Calls Tryz.prog 63 #[.slice A n c] w4.drew fun e w' => ∃ A' c' outer, e = .returned (.slice A' n c') ∧ w'.cell? ⟨a, 1, none⟩ = some (.slice A4 b.E.length c4) ∧ (w'.alloc (.cells #[.slice A' n c'] 116)).cell? ⟨a, 1, none⟩ = some (.slice A4 b.E.length c4) ∧
          Hid (Sn w4 w' F A4 A' c4 c' n b.E l outer) ∧ Hid ((w'.alloc (.cells #[.slice A' n c'] 116)).ownsRow 0 116 1 (.slice A4 b.E.length c4) b.E.length outer) ∧ Hid (Sl (w'.alloc (.cells #[.slice A' n c'] 116)) 1 (some ⟨w'.heap.size, 0, none⟩) 1 [.slice A' n c']) ∧ Hid ((w'.alloc (.cells #[.slice A' n c'] 116)).heap[a]? = some (.cells #[.pointer (some ⟨dk, 0, none⟩), .slice A4 b.E.length c4, .map (some mb4), .bool b.br] 115 (0, 0)))) :=
        Lib.hid ((clonem_any w4.drew A n c l (SlE.of_own HX4.out HL.out) hn1 (by omega)).mono fun e w' ⟨A', c', e1, e2, hb⟩ => by
          have hb5 : Below w4.heap.size w4 w' := ⟨hb.os, hb.tape, hb.output, hb.size, hb.block⟩
          obtain ⟨outer, o1, o2, o3⟩ := hb5ent HB4.out HE4.out hb5
          have q1 := (hb5.cell (p := ⟨a, 1, none⟩) halt).trans g1
          refine ⟨A', c', outer, e1, q1, (World.cell?_alloc_lt w' _ ⟨a, 1, none⟩ (Nat.lt_of_lt_of_le halt hb5.size)).trans q1, Lib.hid ⟨hb5, own_mono e2 (Nat.zero_le _), fun g hg => HU4.out g (e2.lt g hg).1, o1, o2, o3⟩, Lib.hid (o1.alloc _), Lib.hid (Sl.new w' _ _ 1 1 rfl), Lib.hid ((heap_alloc_old w' _ (Nat.lt_of_lt_of_le halt hb5.size)).trans ((hb5.block a halt).trans HHp4.out))⟩)
      have HRt := Lib.hid (show ∀ (e : Ending) (w' : World), (∃ A' c' outer, e = .returned (.slice A' n c') ∧ w'.cell? ⟨a, 1, none⟩ = some (.slice A4 b.E.length c4) ∧ (w'.alloc (.cells #[.slice A' n c'] 116)).cell? ⟨a, 1, none⟩ = some (.slice A4 b.E.length c4) ∧
          Hid (Sn w4 w' F A4 A' c4 c' n b.E l outer) ∧ Hid ((w'.alloc (.cells #[.slice A' n c'] 116)).ownsRow 0 116 1 (.slice A4 b.E.length c4) b.E.length outer) ∧ Hid (Sl (w'.alloc (.cells #[.slice A' n c'] 116)) 1 (some ⟨w'.heap.size, 0, none⟩) 1 [.slice A' n c']) ∧ Hid ((w'.alloc (.cells #[.slice A' n c'] 116)).heap[a]? = some (.cells #[.pointer (some ⟨dk, 0, none⟩), .slice A4 b.E.length c4, .map (some mb4), .bool b.br] 115 (0, 0)))) → ∃ r, e = .returned r from fun e w' ⟨A', c', outer, he, _⟩ => ⟨_, he⟩)
      have hN := HI.out.few
      have p1 : w4.drew.cell? ⟨a, 1, none⟩ = some (.slice A4 b.E.length c4) := g1
      clear hb4 HY HW
      go_upto_region 12 with fail
      go_region_law (first
        | (refine step_call rfl 63 (.tmp 41) _ rfl Tryz.func63 (by kernel_rfl) (by kernel_rfl) (.slice A n c) ?_ _ HCl.out HRt.out ?_; (· (simp [Act.eval, Act.put])); rintro r w5 ⟨A5, c5, outer, her, q1, r1, HSn, HO1, HSl, HW5⟩; cases her)
        | (refine step_app rfl (.tmp 40) (.tmp 43) 113 rfl elemEn 0 (.slice A4 b.E.length c4) b.E.length outer ?_ HO1.out (some ⟨w5.heap.size, 0, none⟩) 1 1 [.slice A5 n c5] ?_ HSl.out (by simp [Value.oneCell']) (by unfold maxLen; omega) (by omega) (Nat.zero_le _) ?_; (· (simp [Act.eval])); (· (simp [Act.eval])); intro A6 c6 w6 ho6 hg6 hl6; have hk6 := kept_box HW5.out HO1.out (by decide) hg6; obtain ⟨t0, s1, t2, t3, tf⟩ := cells4 hk6; have tf1 := tf 1; have HK6 := Lib.hid hk6; clear tf hk6; have HO6 := Lib.hid ho6; have HG6 := Lib.hid hg6; have HL6 := Lib.hid hl6; clear ho6 hg6 hl6)
        | fail)
      all_goals
        have HF6 := Lib.hid (post_end HB4.out HD4.out HX4.out HU4.out g1 HE4.out HN4.out HBal4.out HF4.out HHp4.out HSn.out HL.out HO6.out HG6.out HL6.out HK6.out)
        clear p1 q1 r1
        go_wp2_with fail
        refine (do_any _ mb4 n4 (balE b.E) A n c l HF6.out.bal (by have := HN4.out; omega) HI.out.bal (SlE.of_own HF6.out.row HL.out) HZ.out).mono ?_
        rintro e w8 ⟨rfl, hb8, hk8⟩
        have HE8 := Lib.hid (HF6.out.last hb8 hk8 hn)
        clear hb8 hk8
        go_wp2
        have hp := HP.out
        rw [if_neg (by rw [HA.out]; decide), if_neg (by rw [HA.out]; decide), if_neg (by rw [HS.out]; decide)] at hp
        refine hR.out _ _ ?_
        rw [hp]
        exact ⟨rfl, HE8.out.1, HKF4.out.trans HE8.out.2 (fun _ _ h => h)⟩
    · have HS := Lib.hid hs
      have HY := Lib.hid (dsync_any w3 F dk _ HD3.out)
      clear hs
      go_wp2_with (go_at_call 44; (with_reducible refine HY.out.mono ?_); rw [HS.out]; rintro e w4 ⟨rfl, hd4, hk4⟩; have HD4 := Lib.hid hd4; have HK4 := Lib.hid (hk4.mono (T := DkS w3 F dk) fun j e => .inl e); obtain ⟨_, _, _, _, g0, g1, g2, g3, gf, -⟩ := (HB3.out.disk HD3.out HK4.out).cells; have gf' := gf.out 3; clear hd4 hk4 gf)
      have hp := HP.out
      rw [if_neg (by rw [HA.out]; decide), if_neg (by rw [HA.out]; decide), if_pos (by rw [HS.out]; decide), HS.out] at hp
      refine hR.out _ _ ?_
      rw [hp]
      exact ⟨rfl, ⟨Dsk.breaks HD4.out (HB3.out.disk HD3.out HK4.out), (HB3.out.disk HD3.out HK4.out).breaks⟩, (HKF.out.trans (kx_dks HD3.out HK4.out) (fun _ _ h => h)).trans (kx_put _ a 3 _) (fun j _ e => e ▸ HB3.out.1)⟩
  · have HA := Lib.hid ha
    have HA' := Lib.hid ha'
    clear ha ha'
    go_region_held3 (fun w' => w'.cell? ⟨a, 0, none⟩ = some (.pointer (some ⟨dk, 0, none⟩)))
      (first
      | exact hx1
      | exact hx2
      | exact hx3
      | go_keep)
      (first
      | (go_at_call 295; (with_reducible refine HE.out.mono ?_); rintro e w2 ⟨A2, m2, c2, rfl, hxx2, hm2, hb2⟩; have HBw2 := Lib.hid hb2; have HX2 := Lib.hid hxx2; have HM2 := Lib.hid (show m2 ≤ 1000000 by omega); have HU2 := Lib.hid ((HU.out.below HB1.out).below hb2); have HH2 := Lib.hid (HH1.out.below hb2); obtain ⟨_, _, _, _, hx2, -⟩ := (HH1.out.below hb2).book.cells; clear hxx2 hm2 hb2)
      | (go_at_call 294; (with_reducible refine (dapp_any w2 F dk d HH2.out.disk HU2.out A2 m2 c2 (encE l) HX2.out HM2.out).mono ?_); rw [HA.out]; rintro e w3 ⟨rfl, hd3, hk3⟩; obtain ⟨_, _, _, _, hx3, -⟩ := (HH2.out.book.disk HH2.out.disk hk3).cells; have HD3 := Lib.hid hd3; have HK3 := Lib.hid hk3; clear hd3 hk3))
    have hp := HP.out
    rw [if_pos HA.out] at hp
    go_wp2
    refine hR.out _ _ ?_
    rw [hp]
    have hd := HD3.out
    rw [HA'.out] at hd
    exact ⟨rfl, ⟨hd, HH2.out.book.disk HH2.out.disk HK3.out⟩, ((kx_of_below HB1.out).trans (kx_of_below (S := F) HBw2.out) (fun _ _ h => h)).trans (kx_dks HH2.out.disk HK3.out) (fun _ _ h => h)⟩
  · have HA := Lib.hid ha
    clear ha
    go_region_held3 (fun w' => w'.cell? ⟨a, 0, none⟩ = some (.pointer (some ⟨dk, 0, none⟩)))
      (first
      | exact hx1
      | exact hx2
      | exact hx3
      | go_keep)
      (first
      | (go_at_call 295; (with_reducible refine HE.out.mono ?_); rintro e w2 ⟨A2, m2, c2, rfl, hxx2, hm2, hb2⟩; have HBw2 := Lib.hid hb2; have HX2 := Lib.hid hxx2; have HM2 := Lib.hid (show m2 ≤ 1000000 by omega); have HU2 := Lib.hid ((HU.out.below HB1.out).below hb2); have HH2 := Lib.hid (HH1.out.below hb2); obtain ⟨_, _, _, _, hx2, -⟩ := (HH1.out.below hb2).book.cells; clear hxx2 hm2 hb2)
      | (go_at_call 294; (with_reducible refine (dapp_any w2 F dk d HH2.out.disk HU2.out A2 m2 c2 (encE l) HX2.out HM2.out).mono ?_); rw [HA.out]; rintro e w3 ⟨rfl, hd3, hk3⟩; obtain ⟨_, _, _, _, hx3, -⟩ := (HH2.out.book.disk HH2.out.disk hk3).cells; have HD3 := Lib.hid hd3; have HK3 := Lib.hid hk3; clear hd3 hk3))
    have HB3 := Lib.hid (HH2.out.book.disk HH2.out.disk HK3.out)
    obtain ⟨_, _, _, _, g0, g1, g2, g3, gf, -⟩ := HB3.out.cells
    have gf' := gf.out 3
    have hp := Lib.hid HP.out
    clear gf
    go_wp2
    have hp := HP.out
    rw [if_neg (by rw [HA.out]; decide), if_pos (by rw [HA.out]; decide), HA.out] at hp
    refine hR.out _ _ ?_
    rw [hp]
    exact ⟨rfl, ⟨Dsk.breaks HD3.out HB3.out, HB3.out.breaks⟩, (((kx_of_below HB1.out).trans (kx_of_below (S := F) HBw2.out) (fun _ _ h => h)).trans (kx_dks HH2.out.disk HK3.out) (fun _ _ h => h)).trans (kx_put _ a 3 _) (fun j _ e => e ▸ HB3.out.1)⟩
end
end
end Go.Proofs.YtndcijkgaadpgaaGreatDoor
