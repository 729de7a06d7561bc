/-
  row, the texts of refusals and of lines, either; conditions: the tables lie below a block, and the sizes that each theorem states. read's closure: the words that are left, what has been taken; conditions: the cells hold that, no word is longer than 2^20 bytes. read's closure at a choice of words; conditions: the cells hold what is left and what was taken, no word is longer than 2^20 bytes. read's form in plain Lean; read's closure at any kind; conditions: sizes.
-/
import Derived.Test.YtndcijkgaadpgaaGreatDoorUj
import Derived.Lib.ItoaLen
namespace Go.Proofs.YtndcijkgaadpgaaGreatDoor
section
section
open Go.RowKit Go.Shelf
/-- A line of a word and some numbers. -/
def rowL (wd : List UInt8) (l : List Int) : List UInt8 := wd ++ l.flatMap fun x => 32 :: Lib.itoa x
theorem ba_app (a b : ByteArray) : (a ++ b).data.toList = a.data.toList ++ b.data.toList := by
  simp [ByteArray.data_append]
theorem ba_of {s : ByteArray} {l : List UInt8} (h : s.data.toList = l) : s = ⟨l.toArray⟩ := by
  subst h
  rfl
theorem rowL_take {wd : List UInt8} {l : List Int} {k : Nat} {x : Int} (h : l[k]? = some x) : rowL wd (l.take (k + 1)) = rowL wd (l.take k) ++ (32 :: Lib.itoa x) := by
  unfold rowL
  rw [List.take_add_one, h, List.flatMap_append, ← List.append_assoc]
  simp
theorem ba_size (s : ByteArray) : s.size = s.data.toList.length := by
  rw [Array.length_toList]
  rfl
theorem row_size (s : ByteArray) (x : Int) : (s ++ (⟨#[32]⟩ ++ (⟨(Lib.itoa x).toArray⟩ : ByteArray))).size = s.size + (1 + (Lib.itoa x).length) := by
  rw [ba_size, ba_app, ba_app, List.length_append, List.length_append, ba_size s]
  rfl
set_option maxRecDepth 8000 in
set_option maxHeartbeats 4000000 in
theorem row_any (wd : ByteArray) (A : Option Addr) (n c : Nat) (l : List Int) (w : World) (h : SlE intE 1 w A n l) (hn : n ≤ 1000) (hw : wd.size ≤ 1000000) (hl : ∀ x ∈ l, i64B x) (b : Nat) (hg : Gl b w) (hb : b ≤ w.heap.size) :
    Calls Tryz.prog 56 #[.string wd, .slice A n c] w fun e w' => e = .returned (.string ⟨(rowL wd.data.toList l).toArray⟩) ∧ Below w.heap.size w w' := by
  refine calls_cps ?_
  intro R hR
  have HX := Lib.hid h
  have HL := Lib.hid hl
  have HG := Lib.hid hg
  have Hr := Lib.hid (fun (s : ByteArray) w' (hs : s.data.toList = rowL wd.data.toList l) hb => hR.out (.returned (.string s)) w' ⟨by rw [ba_of hs], hb⟩)
  have Hn := Lib.hid h.1
  clear hR h hl hg
  go_enter Tryz.func56, Tryz.ntmps56
  go_wp2_with fail
  go_loopw [0, 9] (fun s0 s9 wr => ∃ (k : Nat) (s : ByteArray), k ≤ n ∧ s9 = .int .i64 (k : Int) ∧ s0 = .string s ∧ s.size ≤ wd.size + 22 * k ∧ Hid (s.data.toList = rowL wd.data.toList (l.take k)) ∧ Hid (Below w.heap.size w wr)) (fun _ s9 _ => n - (intOf s9).toNat)
  case atStart => exact ⟨0, wd, Nat.zero_le _, rfl, rfl, by omega, Lib.hid (by simp [rowL]), Lib.hid (Below.refl _ _)⟩
  case round =>
    obtain ⟨k, s, hk, rfl, rfl, hsz, Hs, Hb⟩ := hrel
    by_cases hlt : k < n
    · obtain ⟨b0, o, x, rfl, hb0, hx, q0⟩ := (HX.out.below Hb.out).at1 hlt
      obtain ⟨x1, x2⟩ := HL.out x (List.mem_of_getElem? hx)
      have i1 : (k : Int) < (n : Int) := by omega
      have Hx := Lib.hid hx
      have hil := Lib.itoa_length_le x x1 x2
      have z1 : ¬ 9223372036854775807 < 1 + (Lib.itoa x).length := by omega
      have z2 : ¬ 9223372036854775807 < s.size + (1 + (Lib.itoa x).length) := by omega
      have HF := Lib.hid (fmt_any x wr x1 x2 b (HG.out.on (Hb.out.mono hb)))
      clear hx
      go_wp2_with (go_at_call 118; (with_reducible refine HF.out.mono ?_); rintro e w2 ⟨rfl, hb2⟩; have HB2 := Lib.hid hb2; clear hb2)
      refine ⟨⟨k + 1, _, hlt, by go_num, rfl, by rw [row_size]; omega, Lib.hid ?_, Lib.hid (Hb.out.trans (HB2.out.mono Hb.out.size))⟩, by simp [intOf] <;> omega⟩
      rw [rowL_take Hx.out, ← Hs.out, ba_app, ba_app]
      rfl
    · have hkn : k = n := by omega
      subst hkn
      have i1 : ¬ (k : Int) < (k : Int) := by omega
      have hf := Hr.out s wr (by rw [Hs.out, List.take_of_length_le (by rw [← Hn.out]; exact Nat.le_refl _)]) Hb.out
      have HF := Lib.hid hf
      clear Hr hf Hs Hb
      go_wp2
      exact HF.out
/-- The text of a refusal. -/
def bangL (e : Int) : List UInt8 := 33 :: 32 :: (Lib.itoa e ++ [10])
set_option maxRecDepth 8000 in
set_option maxHeartbeats 2000000 in
theorem rtext_any (e : Int) (w : World) (he : i64B e) (b : Nat) (hg : Gl b w) : Calls Tryz.prog 20 #[.int .i64 e] w fun en w' => en = .returned (.string ⟨(bangL e).toArray⟩) ∧ Below w.heap.size w w' := by
  refine calls_cps ?_
  intro R hR
  have HI := Lib.hid (itoa_any e w he.1 he.2 b hg)
  have hil := Lib.itoa_length_le e he.1 he.2
  have z1 : ¬ 9223372036854775807 < 2 + (Lib.itoa e).length := by omega
  have z2 : ¬ 9223372036854775807 < 2 + (Lib.itoa e).length + 1 := by omega
  clear hg
  go_enter Tryz.func20, Tryz.ntmps20
  go_wp2_with (go_at_call 45; (with_reducible refine HI.out.mono ?_); rintro en w2 ⟨rfl, hb2⟩; have HB2 := Lib.hid hb2; clear hb2)
  refine hR.out _ _ ⟨?_, HB2.out⟩
  congr 2
/-- The text of lines. -/
def linesL (L : List (List UInt8)) : List UInt8 := L.flatMap fun l => l ++ [10]
theorem join_lines : ∀ (L : List (List UInt8)), L ≠ [] → Lib.join L [10] ++ [10] = linesL L
  | [], h => absurd rfl h
  | [a], _ => by simp [Lib.join, linesL]
  | a :: b :: r, _ => by
    have ih := join_lines (b :: r) (by simp)
    unfold linesL at ih ⊢
    rw [List.flatMap_cons, ← ih]
    simp [Lib.join]
set_option maxRecDepth 8000 in
set_option maxHeartbeats 2000000 in
theorem ltext_any (A : Option Addr) (n c : Nat) (L : List ByteArray) (w : World) (h : SlE strE 1 w A n L) (hn : n ≤ 1000000) (hc : n ≤ c) (hl : (linesL (L.map (·.data.toList))).length ≤ 140737488355328) :
    Calls Tryz.prog 450 #[.slice A n c] w fun en w' => en = .returned (.string ⟨(linesL (L.map (·.data.toList))).toArray⟩) ∧ Below w.heap.size w w' := by
  refine calls_cps ?_
  intro R hR
  by_cases h0 : n = 0
  · have hL : L = [] := List.eq_nil_of_length_eq_zero (by rw [← h.1]; exact h0)
    subst hL
    subst h0
    have HF := Lib.hid (hR.out (.returned (.string ⟨#[]⟩)) w ⟨rfl, Below.refl _ _⟩)
    clear hR h
    go_enter Tryz.func450, Tryz.ntmps450
    go_wp2
    exact HF.out
  · have hne : L.map (·.data.toList) ≠ [] := by
      intro e
      have : L = [] := List.map_eq_nil_iff.1 e
      rw [this] at h
      exact h0 h.1
    have hj := join_lines _ hne
    have HJ := Lib.hid (join_any A n c L ⟨#[10]⟩ w h (by omega) hc (by
      have := congrArg List.length hj
      rw [List.length_append, List.length_singleton] at this
      show (Lib.join (L.map (·.data.toList)) [10]).length ≤ _
      omega))
    have Hj := Lib.hid hj
    have z1 : ¬ 9223372036854775807 < (Lib.join (L.map (·.data.toList)) [10]).length + 1 := by
      have := congrArg List.length hj
      rw [List.length_append, List.length_singleton] at this
      omega
    have i1 : ((n : Int) == 0) = false := by rw [beq_eq_false_iff_ne]; omega
    clear h hj hne
    go_enter Tryz.func450, Tryz.ntmps450
    go_wp2_with (go_at_call 267; (with_reducible refine HJ.out.mono ?_); rintro en w2 ⟨rfl, hb2⟩; have HB2 := Lib.hid hb2; clear hb2)
    exact hR.out _ _ ⟨congrArg (fun s => Ending.returned (.string s)) (ba_of (by rw [ba_app, ← Hj.out])), HB2.out⟩
set_option maxRecDepth 8000 in
set_option maxHeartbeats 2000000 in
theorem either_any (e : Int) (A : Option Addr) (n c : Nat) (w : World) : Calls Tryz.prog 138 #[.int .i64 e, .slice A n c] w fun en w' => en = .returned (if e ≠ 0 then .iface 61 (.int .i64 e) else .iface 137 (.slice A n c)) ∧ w = w' := by
  refine calls_cps ?_
  intro R hR
  by_cases h0 : e = 0
  · subst h0
    have HF := Lib.hid (hR.out (.returned (.iface 137 (.slice A n c))) w ⟨rfl, rfl⟩)
    clear hR
    go_enter Tryz.func138, Tryz.ntmps138
    go_wp2
    exact HF.out
  · have HF := Lib.hid (hR.out (.returned (.iface 61 (.int .i64 e))) w ⟨by rw [if_pos h0], rfl⟩)
    have i1 : (e != 0) = true := by rw [bne_iff_ne]; exact h0
    clear hR h0
    go_enter Tryz.func138, Tryz.ntmps138
    go_wp2
    exact HF.out
end
end
section
section
open Go.RowKit Go.Shelf
/-- What is left, and what was taken. -/
structure Ta where
  rest : List (List UInt8)
  ws : List (List UInt8)
  ns : List Int
/-- Whether a word is of a kind that is no number. -/
def ofK (kind w : List UInt8) : Bool := decide (kind = [119]) || (Lib.split kind [124]).contains w
/-- A word is taken. -/
def takeP (kind : List UInt8) (s : Ta) : Ta × Bool :=
  match s.rest with
  | [] => (s, false)
  | w :: r => if kind = [110] then (⟨r, s.ws, s.ns ++ [(numL w).getD 0]⟩, (numL w).isSome) else (⟨r, s.ws ++ [w], s.ns⟩, ofK kind w)
/-- The cells of it; Pr: blocks that are not touched. -/
structure RSt (W : World) (Pr : Nat → Prop) (pw pa : Nat) (s : Ta) : Prop where
  npw : ¬ Pr pw
  npa : ¬ Pr pa
  ne : pw ≠ pa
  lt : ∀ j, Pr j → j < W.heap.size
  left : ∃ A c, W.heap[pw]? = some (.cells #[.slice A s.rest.length c] 22 (0, 0)) ∧ SlE strE 1 W A s.rest.length (strL s.rest) ∧ s.rest.length ≤ c ∧ ∀ a, 0 < s.rest.length → A = some a → Pr a.block ∧ a.block < pw
  got : ∃ A1 c1 A2 c2, W.heap[pa]? = some (.cells #[.slice A1 s.ws.length c1, .slice A2 s.ns.length c2] 76 (0, 0)) ∧
    W.ownsRow 0 9 1 (.slice A1 s.ws.length c1) s.ws.length ((strL s.ws).flatMap strE) ∧ (∀ g, (Value.slice A1 s.ws.length c1).ownBlock = some g → ¬ Pr g) ∧
    W.ownsRow 0 3 1 (.slice A2 s.ns.length c2) s.ns.length (s.ns.flatMap intE) ∧ (∀ g, (Value.slice A2 s.ns.length c2).ownBlock = some g → ¬ Pr g)
section
variable {W w : World} {Pr Qr : Nat → Prop} {pw pa : Nat} {s : Ta}
theorem SlE.low {α : Type} {enc : α → List Value} {sz : Nat} {w w' : World} {A : Option Addr} {n : Nat} {l : List α} (h : SlE enc sz w A n l) (hk : ∀ a, 0 < n → A = some a → w'.heap[a.block]? = w.heap[a.block]?) (hs : w.heap.size ≤ w'.heap.size) : SlE enc sz w' A n l :=
  ⟨h.1, h.2.1, fun hn => by
    obtain ⟨b, o, e, hb, hc⟩ := h.2.2 hn
    exact ⟨b, o, e, by omega, fun j u hu => (World.cell?_of_block (w := w) (show w'.heap[b]? = w.heap[b]? from hk _ hn e)).trans (hc j u hu)⟩⟩
theorem RSt.below (h : RSt W Pr pw pa s) (k : Below W.heap.size W w) : RSt w Pr pw pa s := by
  obtain ⟨A, c, q1, q2, q3, q4⟩ := h.left
  obtain ⟨A1, c1, A2, c2, r1, r2, r3, r4, r5⟩ := h.got
  exact ⟨h.npw, h.npa, h.ne, fun j hj => Nat.lt_of_lt_of_le (h.lt j hj) k.size, ⟨A, c, (k.block _ (Array.getElem?_eq_some_iff.1 q1).1).trans q1, q2.below k, q3, q4⟩,
    A1, c1, A2, c2, (k.block _ (Array.getElem?_eq_some_iff.1 r1).1).trans r1, own_heap r2 (fun g hg => by obtain ⟨C, hC⟩ := own_blk r2 hg; exact k.block g (Array.getElem?_eq_some_iff.1 hC).1), r3, own_heap r4 (fun g hg => by obtain ⟨C, hC⟩ := own_blk r4 hg; exact k.block g (Array.getElem?_eq_some_iff.1 hC).1), r5⟩
end
theorem strs_tail {W : World} {b o n : Nat} {x : ByteArray} {L : List ByteArray} (h : SlE strE 1 W (some ⟨b, o, none⟩) (n + 1) (x :: L)) : SlE strE 1 W (some ⟨b, o + 1, none⟩) n L := by
  refine ⟨by have := h.1; simp at this; exact this, by rw [flat_length strE_len]; have := h.1; simp at this; rw [this], fun hn => ?_⟩
  obtain ⟨b', o', e', hb, hc⟩ := h.2.2 (by omega)
  cases e'
  refine ⟨b, o + 1, rfl, hb, fun j u hu => ?_⟩
  have := hc (j + 1) u (by simpa [strE] using hu)
  rw [show o + 1 + j = o + (j + 1) by omega]
  exact this
set_option maxRecDepth 8000 in
set_option maxHeartbeats 4000000 in
theorem take_none (kind : ByteArray) (W : World) (Pr : Nat → Prop) (pw pa : Nat) (s : Ta) (h : RSt W Pr pw pa s) (h0 : s.rest = []) :
    Calls Tryz.prog 115 #[.string kind, .pointer (some ⟨pw, 0, none⟩), .pointer (some ⟨pa, 0, none⟩)] W fun e w' => e = .returned (.bool false) ∧ W = w' := by
  refine calls_cps ?_
  intro R hR
  have HF := Lib.hid (hR.out (.returned (.bool false)) W ⟨rfl, rfl⟩)
  obtain ⟨A, c, q1, -⟩ := h.left
  rw [h0, List.length_nil] at q1
  have q0 : W.cell? ⟨pw, 0, none⟩ = some (.slice A 0 c) := by rw [cell_of_row _ _ 0 _ _ (0, 0) q1]; rfl
  clear hR h q1 h0
  go_enter Tryz.func115, Tryz.ntmps115
  go_wp2
  exact HF.out
theorem infoInt0 : (Tryz.prog.info? 3).map (fun i => (i.zero, i.size, i.bytes)) = some (some (.int .i64 0), 1, 8) := by kernel_rfl
theorem elemInt0 : ElemOk Tryz.prog 35 3 1 8 := ElemOk.of (z := .int .i64 0) Tryz.underlying35 infoInt0 rfl (by omega)
theorem elemStr0 : ElemOk Tryz.prog 22 9 1 16 := ElemOk.of (z := .string ByteArray.empty) Tryz.underlying22 infoStr rfl (by omega)
/-- One word less. -/
theorem RSt.pop {W : World} {Pr : Nat → Prop} {pw pa b o c : Nat} {s : Ta} {x : List UInt8} {r : List (List UInt8)} {A' : Option Addr} (h : RSt W Pr pw pa s) (hr : s.rest = x :: r) (q1 : W.heap[pw]? = some (.cells #[.slice (some ⟨b, o, none⟩) s.rest.length c] 22 (0, 0)))
    (q2 : SlE strE 1 W (some ⟨b, o, none⟩) s.rest.length (strL s.rest)) (q3 : s.rest.length ≤ c) (q4 : Pr b ∧ b < pw) (hA : r = [] ∨ A' = some ⟨b, o + 1, none⟩) :
    RSt (W.setCell ⟨pw, 0, none⟩ (.slice A' r.length (c - 1))) Pr pw pa ⟨r, s.ws, s.ns⟩ := by
  have hsz : (W.setCell ⟨pw, 0, none⟩ (.slice A' r.length (c - 1))).heap.size = W.heap.size := by simp [World.setCell]
  have hpb : b ≠ pw := fun e => h.npw (e ▸ q4.1)
  obtain ⟨A1, c1, A2, c2, r1, r2, r3, r4, r5⟩ := h.got
  rw [hr] at q2 q3
  have q2' : SlE strE 1 W (some ⟨b, o, none⟩) (r.length + 1) (⟨x.toArray⟩ :: strL r) := q2
  refine ⟨h.npw, h.npa, h.ne, fun j hj => by rw [hsz]; exact h.lt j hj, ⟨A', c - 1, ?_, ?_, by simp at q3; dsimp only; omega, fun a hn ha => ?_⟩, A1, c1, A2, c2, (hset_ne (fun e => h.ne e.symm)).trans r1, own_setH r2 q1 (by decide), r3, own_setH r4 q1 (by decide), r5⟩
  · rw [hset q1]
    rfl
  · rcases hA with rfl | rfl
    · exact SlE.nil _ _
    · exact (strs_tail q2').low (fun a _ ha => by cases ha; exact hset_ne hpb) (by rw [hsz]; exact Nat.le_refl _)
  · rcases hA with rfl | rfl
    · exact absurd hn (by simp)
    · cases ha
      exact q4
theorem RSt.pushN {W w3 : World} {Pr : Nat → Prop} {pw pa c1 c2 c3 : Nat} {A1 A2 A3 : Option Addr} {s : Ta} {v : Int} {o : Obj} (h : RSt W Pr pw pa s) (r1 : W.heap[pa]? = some (.cells #[.slice A1 s.ws.length c1, .slice A2 s.ns.length c2] 76 (0, 0)))
    (r2 : W.ownsRow 0 9 1 (.slice A1 s.ws.length c1) s.ws.length ((strL s.ws).flatMap strE)) (r3 : ∀ g, (Value.slice A1 s.ws.length c1).ownBlock = some g → ¬ Pr g)
    (r4 : W.ownsRow 0 3 1 (.slice A2 s.ns.length c2) s.ns.length (s.ns.flatMap intE)) (r5 : ∀ g, (Value.slice A2 s.ns.length c2).ownBlock = some g → ¬ Pr g)
    (ho : w3.ownsRow 0 3 1 (.slice A3 (s.ns.length + 1) c3) (s.ns.length + 1) (s.ns.flatMap intE ++ intE v)) (hg : (W.alloc o).grownBy w3 (Value.slice A2 s.ns.length c2).ownBlock)
    (hp : (Value.slice A3 (s.ns.length + 1) c3).ownBlock = (Value.slice A2 s.ns.length c2).ownBlock ∨ (Value.slice A3 (s.ns.length + 1) c3).ownBlock = some (W.alloc o).heap.size) :
    RSt (w3.setCell ⟨pa, 1, none⟩ (.slice A3 (s.ns.length + 1) c3)) Pr pw pa ⟨s.rest, s.ws, s.ns ++ [v]⟩ ∧ Kx (fun j => ¬ Pr j) W (w3.setCell ⟨pa, 1, none⟩ (.slice A3 (s.ns.length + 1) c3)) ∧ w3.heap[pa]? = some (.cells #[.slice A1 s.ws.length c1, .slice A2 s.ns.length c2] 76 (0, 0)) := by
  have hk : Kx (fun j => ¬ Pr j) W w3 := ((Kx.refl _ W).below (below_new W o)).grown hg fun j hj => .inl (r5 j hj)
  have hk2 := hk.trans (kx_put w3 pa 1 (.slice A3 (s.ns.length + 1) c3)) (T := fun j => j = pa) (fun j _ e => e ▸ h.npa)
  have hpa : w3.heap[pa]? = some (.cells #[.slice A1 s.ws.length c1, .slice A2 s.ns.length c2] 76 (0, 0)) :=
    (hg.block pa (by have := (Array.getElem?_eq_some_iff.1 r1).1; simp; omega) (fun e => own_nea r1 r4 (by decide) pa e.symm rfl)).trans ((heap_alloc_old W o (Array.getElem?_eq_some_iff.1 r1).1).trans r1)
  have hpw : ∀ x, W.heap[pw]? = some (.cells x 22 (0, 0)) → w3.heap[pw]? = some (.cells x 22 (0, 0)) := fun x hx =>
    (hg.block pw (by have := (Array.getElem?_eq_some_iff.1 hx).1; simp; omega) (fun e => own_nea hx r4 (by decide) pw e.symm rfl)).trans ((heap_alloc_old W o (Array.getElem?_eq_some_iff.1 hx).1).trans hx)
  obtain ⟨A, c, q1, q2, q3, q4⟩ := h.left
  have hoth := (r2.alloc o).kept hg (own_ne (r2.alloc o) (r4.alloc o) (by decide))
  have hlen : (s.ns ++ [v]).length = s.ns.length + 1 := by simp
  have hnp : ∀ g, (Value.slice A3 (s.ns.length + 1) c3).ownBlock = some g → ¬ Pr g := fun g hgg => by
    rcases hp with e | e
    · exact r5 g (e ▸ hgg)
    · rw [e] at hgg
      cases hgg
      intro hpr
      have := h.lt _ hpr
      simp at this
      omega
  refine ⟨⟨h.npw, h.npa, h.ne, fun j hj => Nat.lt_of_lt_of_le (h.lt j hj) hk2.size, ⟨A, c, (hset_ne h.ne).trans (hpw _ q1), q2.low (fun a hn ha => hk2.block _ ?_ (fun hn2 => hn2 (q4 a hn ha).1)) hk2.size, q3, q4⟩, ?_⟩, hk2, hpa⟩
  · obtain ⟨b', o', e', hb, _⟩ := q2.2.2 hn
    rw [ha] at e'
    cases e'
    exact hb
  · refine ⟨A1, c1, A3, c3, ?_, own_setH hoth hpa (by decide), r3, ?_, ?_⟩
    · rw [hset hpa, hlen]
      rfl
    · rw [hlen, List.flatMap_append]
      have := own_setH (a := pa) (i := 1) (u := .slice A3 (s.ns.length + 1) c3) ho hpa (by decide)
      simpa using this
    · rw [hlen]
      exact hnp
theorem RSt.pushW {W w3 : World} {Pr : Nat → Prop} {pw pa c1 c2 c3 : Nat} {A1 A2 A3 : Option Addr} {s : Ta} {v : List UInt8} {o : Obj} (h : RSt W Pr pw pa s) (r1 : W.heap[pa]? = some (.cells #[.slice A1 s.ws.length c1, .slice A2 s.ns.length c2] 76 (0, 0)))
    (r2 : W.ownsRow 0 9 1 (.slice A1 s.ws.length c1) s.ws.length ((strL s.ws).flatMap strE)) (r3 : ∀ g, (Value.slice A1 s.ws.length c1).ownBlock = some g → ¬ Pr g)
    (r4 : W.ownsRow 0 3 1 (.slice A2 s.ns.length c2) s.ns.length (s.ns.flatMap intE)) (r5 : ∀ g, (Value.slice A2 s.ns.length c2).ownBlock = some g → ¬ Pr g)
    (ho : w3.ownsRow 0 9 1 (.slice A3 (s.ws.length + 1) c3) (s.ws.length + 1) ((strL s.ws).flatMap strE ++ strE ⟨v.toArray⟩)) (hg : (W.alloc o).grownBy w3 (Value.slice A1 s.ws.length c1).ownBlock)
    (hp : (Value.slice A3 (s.ws.length + 1) c3).ownBlock = (Value.slice A1 s.ws.length c1).ownBlock ∨ (Value.slice A3 (s.ws.length + 1) c3).ownBlock = some (W.alloc o).heap.size) :
    RSt (w3.setCell ⟨pa, 0, none⟩ (.slice A3 (s.ws.length + 1) c3)) Pr pw pa ⟨s.rest, s.ws ++ [v], s.ns⟩ ∧ Kx (fun j => ¬ Pr j) W (w3.setCell ⟨pa, 0, none⟩ (.slice A3 (s.ws.length + 1) c3)) ∧ w3.heap[pa]? = some (.cells #[.slice A1 s.ws.length c1, .slice A2 s.ns.length c2] 76 (0, 0)) := by
  have hk : Kx (fun j => ¬ Pr j) W w3 := ((Kx.refl _ W).below (below_new W o)).grown hg fun j hj => .inl (r3 j hj)
  have hk2 := hk.trans (kx_put w3 pa 0 (.slice A3 (s.ws.length + 1) c3)) (T := fun j => j = pa) (fun j _ e => e ▸ h.npa)
  have hpa : w3.heap[pa]? = some (.cells #[.slice A1 s.ws.length c1, .slice A2 s.ns.length c2] 76 (0, 0)) :=
    (hg.block pa (by have := (Array.getElem?_eq_some_iff.1 r1).1; simp; omega) (fun e => own_nea r1 r2 (by decide) pa e.symm rfl)).trans ((heap_alloc_old W o (Array.getElem?_eq_some_iff.1 r1).1).trans r1)
  have hpw : ∀ x, W.heap[pw]? = some (.cells x 22 (0, 0)) → w3.heap[pw]? = some (.cells x 22 (0, 0)) := fun x hx =>
    (hg.block pw (by have := (Array.getElem?_eq_some_iff.1 hx).1; simp; omega) (fun e => own_nea hx r2 (by decide) pw e.symm rfl)).trans ((heap_alloc_old W o (Array.getElem?_eq_some_iff.1 hx).1).trans hx)
  obtain ⟨A, c, q1, q2, q3, q4⟩ := h.left
  have hoth := (r4.alloc o).kept hg (own_ne (r4.alloc o) (r2.alloc o) (by decide))
  have hlen : (s.ws ++ [v]).length = s.ws.length + 1 := by simp
  have hnp : ∀ g, (Value.slice A3 (s.ws.length + 1) c3).ownBlock = some g → ¬ Pr g := fun g hgg => by
    rcases hp with e | e
    · exact r3 g (e ▸ hgg)
    · rw [e] at hgg
      cases hgg
      intro hpr
      have := h.lt _ hpr
      simp at this
      omega
  refine ⟨⟨h.npw, h.npa, h.ne, fun j hj => Nat.lt_of_lt_of_le (h.lt j hj) hk2.size, ⟨A, c, (hset_ne h.ne).trans (hpw _ q1), q2.low (fun a hn ha => hk2.block _ ?_ (fun hn2 => hn2 (q4 a hn ha).1)) hk2.size, q3, q4⟩, ?_⟩, hk2, hpa⟩
  · obtain ⟨b', o', e', hb, _⟩ := q2.2.2 hn
    rw [ha] at e'
    cases e'
    exact hb
  · refine ⟨A3, c3, A2, c2, ?_, ?_, ?_, own_setH hoth hpa (by decide), r5⟩
    · rw [hset hpa, hlen]
      rfl
    · have e : strL (s.ws ++ [v]) = strL s.ws ++ [⟨v.toArray⟩] := by unfold strL; rw [List.map_append]; rfl
      rw [hlen, e, List.flatMap_append]
      have := own_setH (a := pa) (i := 0) (u := .slice A3 (s.ws.length + 1) c3) ho hpa (by decide)
      simpa using this
    · rw [hlen]
      exact hnp
set_option maxRecDepth 8000 in
set_option maxHeartbeats 4000000 in
theorem take_num (kind : ByteArray) (W : World) (Pr : Nat → Prop) (pw pa : Nat) (s : Ta) (x : List UInt8) (r : List (List UInt8)) (h : RSt W Pr pw pa s) (hr : s.rest = x :: r) (hx : x.length ≤ 1000000) (hlr : s.rest.length ≤ 1000000) (hns : s.ns.length ≤ 1000000) (hk : kind.data.toList = [110]) :
    Calls Tryz.prog 115 #[.string kind, .pointer (some ⟨pw, 0, none⟩), .pointer (some ⟨pa, 0, none⟩)] W fun e w' => e = .returned (.bool (numL x).isSome) ∧ RSt w' Pr pw pa ⟨r, s.ws, s.ns ++ [(numL x).getD 0]⟩ ∧ Kx (fun j => ¬ Pr j) W w' := by
  refine calls_cps ?_
  intro R hR
  have HH := Lib.hid h
  obtain ⟨A, c, q1, q2, q3, q4⟩ := h.left
  rw [hr] at q1 q2 q3
  obtain ⟨b, o, y, rfl, hb, hy, hc⟩ := strs_at q2 (k := 0) (by simp)
  have hy2 : y = ⟨x.toArray⟩ := by
    have : (strL (x :: r))[0]? = some ⟨x.toArray⟩ := rfl
    rw [this] at hy
    exact (Option.some.inj hy).symm
  subst hy2
  rw [Nat.add_zero] at hc
  rw [List.length_cons] at q1 q2 q3
  have hpb : b ≠ pw := fun e => h.npw (e ▸ (q4 _ (by rw [hr]; simp) rfl).1)
  have q0 : W.cell? ⟨pw, 0, none⟩ = some (.slice (some ⟨b, o, none⟩) (r.length + 1) c) := by rw [cell_of_row _ _ 0 _ _ (0, 0) q1]; rfl
  have qf : W.frozen? ⟨pw, 0, none⟩ = false := by simp [World.frozen?, q1]
  obtain ⟨A', hA'⟩ : ∃ A' : Option Addr, (if c = 1 then some ⟨b, o, none⟩ else some ⟨b, o + 1, none⟩) = A' := ⟨_, rfl⟩
  have HP := Lib.hid (h.pop (A' := A') hr (by rw [hr]; exact q1) (by rw [hr]; exact q2) (by rw [hr]; exact q3) (q4 _ (by rw [hr]; simp) rfl) (by
    by_cases hc1 : c = 1
    · exact .inl (List.eq_nil_of_length_eq_zero (by omega))
    · rw [if_neg hc1] at hA'
      exact .inr hA'.symm))
  have HK := Lib.hid (show Kx (fun j => ¬ Pr j) W (W.setCell ⟨pw, 0, none⟩ (.slice A' r.length (c - 1))) from kx_set (Kx.refl _ W) h.npw 0 _)
  rw [hr, List.length_cons] at hlr
  have i1 : (1 : Int) ≤ ((r.length + 1 : Nat) : Int) := by omega
  have i2 : r.length + 1 ≤ c := q3
  clear h q1 q2 q3 q4 hr hy
  have k1 : (kind.toList == [110]) = true := by rw [Lib.toList_data, hk]; rfl
  have HN := Lib.hid (fun W => number_any ⟨x.toArray⟩ W (by rw [ba_size]; exact hx))
  clear hk
  have hnr : s.ns.length ≤ 1000000 := hns
  by_cases hc1 : c = 1
  · rw [if_pos hc1] at hA'
    have hr0 : r = [] := List.eq_nil_of_length_eq_zero (by omega)
    subst hr0
    subst hc1
    subst hA'
    simp only [List.length_nil, Nat.sub_self, Nat.zero_add] at HP HK q0 i1 i2
    go_enter Tryz.func115, Tryz.ntmps115
    go_wp2_with (first
      | (go_at_call 116; go_loud (refine (HN.out _).mono ?_; rintro e w2 ⟨rfl, hb2⟩; have HB2 := Lib.hid hb2; have h2 := HP.out.below hb2; have H2 := Lib.hid h2; obtain ⟨A1, c1, A2, c2, r1, r2, r3, r4, r5⟩ := h2.got; have hcl := cells2 r1; obtain ⟨p0, p1, pf⟩ := hcl; have pf1 := pf 1; have R1 := Lib.hid r1; have R2 := Lib.hid r2; have R3 := Lib.hid r3; have R4 := Lib.hid r4; have R5 := Lib.hid r5; clear hb2 h2 r1 r2 r3 r4 r5 pf))
      | (at_builtin; go_loud (refine wpList_app rfl (.tmp 24) (.tmp 26) _ rfl elemInt0 0 _ _ _ rfl (R4.out.alloc _) _ _ _ _ rfl (Sl.newAt _ _ _ 1 1 rfl rfl) (int_one [(numL x).getD 0]) (by unfold maxLen; omega) (by omega) (Nat.zero_le _) ?_; intro A3 c3 w3 ho3 hg3 hp3; obtain ⟨k1, k2, k3⟩ := H2.out.pushN (v := (numL x).getD 0) R1.out R2.out R3.out R4.out R5.out ho3 hg3 hp3; have hcl3 := cells2 k3; obtain ⟨p3, p4, pf3⟩ := hcl3; have pf4 := pf3 1; have K1 := Lib.hid k1; have K2 := Lib.hid k2; clear k1 k2 k3 ho3 hg3 hp3 pf3)))
    exact hR.out _ _ ⟨rfl, K1.out, (HK.out.below HB2.out).trans K2.out (fun _ _ h => h)⟩
  · rw [if_neg hc1] at hA'
    subst hA'
    go_enter Tryz.func115, Tryz.ntmps115
    go_wp2_with (first
      | (go_at_call 116; go_loud (refine (HN.out _).mono ?_; rintro e w2 ⟨rfl, hb2⟩; have HB2 := Lib.hid hb2; have h2 := HP.out.below hb2; have H2 := Lib.hid h2; obtain ⟨A1, c1, A2, c2, r1, r2, r3, r4, r5⟩ := h2.got; have hcl := cells2 r1; obtain ⟨p0, p1, pf⟩ := hcl; have pf1 := pf 1; have R1 := Lib.hid r1; have R2 := Lib.hid r2; have R3 := Lib.hid r3; have R4 := Lib.hid r4; have R5 := Lib.hid r5; clear hb2 h2 r1 r2 r3 r4 r5 pf))
      | (at_builtin; go_loud (refine wpList_app rfl (.tmp 24) (.tmp 26) _ rfl elemInt0 0 _ _ _ rfl (R4.out.alloc _) _ _ _ _ rfl (Sl.newAt _ _ _ 1 1 rfl rfl) (int_one [(numL x).getD 0]) (by unfold maxLen; omega) (by omega) (Nat.zero_le _) ?_; intro A3 c3 w3 ho3 hg3 hp3; obtain ⟨k1, k2, k3⟩ := H2.out.pushN (v := (numL x).getD 0) R1.out R2.out R3.out R4.out R5.out ho3 hg3 hp3; have hcl3 := cells2 k3; obtain ⟨p3, p4, pf3⟩ := hcl3; have pf4 := pf3 1; have K1 := Lib.hid k1; have K2 := Lib.hid k2; clear k1 k2 k3 ho3 hg3 hp3 pf3)))
    exact hR.out _ _ ⟨rfl, K1.out, (HK.out.below HB2.out).trans K2.out (fun _ _ h => h)⟩
theorem containsS_L (L : List (List UInt8)) (x : List UInt8) : Lib.containsS (strL L) ⟨x.toArray⟩ = L.contains x := by
  rw [Bool.eq_iff_iff, Lib.containsS_iff, List.contains_iff_mem]
  unfold strL
  rw [List.mem_map]
  constructor
  · rintro ⟨y, hy, e⟩
    have : y = x := by simpa using congrArg (fun s : ByteArray => s.data.toList) e
    exact this ▸ hy
  · intro h
    exact ⟨x, h, rfl⟩
set_option maxRecDepth 8000 in
set_option maxHeartbeats 4000000 in
theorem take_w (kind : ByteArray) (W : World) (Pr : Nat → Prop) (pw pa : Nat) (s : Ta) (x : List UInt8) (r : List (List UInt8)) (h : RSt W Pr pw pa s) (hr : s.rest = x :: r) (_hx : x.length ≤ 1000000) (hlr : s.rest.length ≤ 1000000) (hns : s.ws.length ≤ 1000000) (hk : kind.data.toList = [119]) :
    Calls Tryz.prog 115 #[.string kind, .pointer (some ⟨pw, 0, none⟩), .pointer (some ⟨pa, 0, none⟩)] W fun e w' => e = .returned (.bool true) ∧ RSt w' Pr pw pa ⟨r, s.ws ++ [x], s.ns⟩ ∧ Kx (fun j => ¬ Pr j) W w' := by
  refine calls_cps ?_
  intro R hR
  have HH := Lib.hid h
  obtain ⟨A, c, q1, q2, q3, q4⟩ := h.left
  rw [hr] at q1 q2 q3
  obtain ⟨b, o, y, rfl, hb, hy, hc⟩ := strs_at q2 (k := 0) (by simp)
  have hy2 : y = ⟨x.toArray⟩ := by
    have : (strL (x :: r))[0]? = some ⟨x.toArray⟩ := rfl
    rw [this] at hy
    exact (Option.some.inj hy).symm
  subst hy2
  rw [Nat.add_zero] at hc
  rw [List.length_cons] at q1 q2 q3
  have hpb : b ≠ pw := fun e => h.npw (e ▸ (q4 _ (by rw [hr]; simp) rfl).1)
  have q0 : W.cell? ⟨pw, 0, none⟩ = some (.slice (some ⟨b, o, none⟩) (r.length + 1) c) := by rw [cell_of_row _ _ 0 _ _ (0, 0) q1]; rfl
  have qf : W.frozen? ⟨pw, 0, none⟩ = false := by simp [World.frozen?, q1]
  obtain ⟨A', hA'⟩ : ∃ A' : Option Addr, (if c = 1 then some ⟨b, o, none⟩ else some ⟨b, o + 1, none⟩) = A' := ⟨_, rfl⟩
  have HP := Lib.hid (h.pop (A' := A') hr (by rw [hr]; exact q1) (by rw [hr]; exact q2) (by rw [hr]; exact q3) (q4 _ (by rw [hr]; simp) rfl) (by
    by_cases hc1 : c = 1
    · exact .inl (List.eq_nil_of_length_eq_zero (by omega))
    · rw [if_neg hc1] at hA'
      exact .inr hA'.symm))
  have HK := Lib.hid (show Kx (fun j => ¬ Pr j) W (W.setCell ⟨pw, 0, none⟩ (.slice A' r.length (c - 1))) from kx_set (Kx.refl _ W) h.npw 0 _)
  rw [hr, List.length_cons] at hlr
  have i1 : (1 : Int) ≤ ((r.length + 1 : Nat) : Int) := by omega
  have i2 : r.length + 1 ≤ c := q3
  clear h q1 q2 q3 q4 hr hy
  have k1 : (kind.toList == [110]) = false := by rw [Lib.toList_data, hk]; decide
  have k2 : (kind.toList == [119]) = true := by rw [Lib.toList_data, hk]; rfl
  clear hk
  have hnr : s.ws.length ≤ 1000000 := hns
  by_cases hc1 : c = 1
  · rw [if_pos hc1] at hA'
    have hr0 : r = [] := List.eq_nil_of_length_eq_zero (by omega)
    subst hr0
    subst hc1
    subst hA'
    simp only [List.length_nil, Nat.sub_self, Nat.zero_add] at HP HK q0 i1 i2
    have h2 := HP.out
    obtain ⟨A1, c1, A2, c2, r1, r2, r3, r4, r5⟩ := h2.got
    have H2 := Lib.hid h2
    dsimp only at r1 r2 r3 r4 r5
    have hcl := cells2 r1
    obtain ⟨p0, p1, pf⟩ := hcl
    have pf0 := pf 0
    have R1 := Lib.hid r1
    have R2 := Lib.hid r2
    have R3 := Lib.hid r3
    have R4 := Lib.hid r4
    have R5 := Lib.hid r5
    clear h2 r1 r2 r3 r4 r5 pf
    go_enter Tryz.func115, Tryz.ntmps115
    go_wp2_with (at_builtin; go_loud (refine wpList_app rfl (.tmp 31) (.tmp 33) _ rfl elemStr0 0 _ _ _ rfl (R2.out.alloc _) _ _ _ _ rfl (Sl.newAt _ _ _ 1 1 rfl (by simp [World.setCell])) (str_one [⟨x.toArray⟩]) (by unfold maxLen; omega) (by omega) (Nat.zero_le _) ?_; intro A3 c3 w3 ho3 hg3 hp3; obtain ⟨k1, k2, k3⟩ := H2.out.pushW (v := x) R1.out R2.out R3.out R4.out R5.out ho3 hg3 hp3; have hcl3 := cells2 k3; obtain ⟨p3, p4, pf3⟩ := hcl3; have pf4 := pf3 0; have K1 := Lib.hid k1; have K2 := Lib.hid k2; clear k1 k2 k3 ho3 hg3 hp3 pf3))
    exact hR.out _ _ ⟨rfl, K1.out, HK.out.trans K2.out (fun _ _ h => h)⟩
  · rw [if_neg hc1] at hA'
    subst hA'
    have h2 := HP.out
    obtain ⟨A1, c1, A2, c2, r1, r2, r3, r4, r5⟩ := h2.got
    have H2 := Lib.hid h2
    dsimp only at r1 r2 r3 r4 r5
    have hcl := cells2 r1
    obtain ⟨p0, p1, pf⟩ := hcl
    have pf0 := pf 0
    have R1 := Lib.hid r1
    have R2 := Lib.hid r2
    have R3 := Lib.hid r3
    have R4 := Lib.hid r4
    have R5 := Lib.hid r5
    clear h2 r1 r2 r3 r4 r5 pf
    go_enter Tryz.func115, Tryz.ntmps115
    go_wp2_with (at_builtin; go_loud (refine wpList_app rfl (.tmp 31) (.tmp 33) _ rfl elemStr0 0 _ _ _ rfl (R2.out.alloc _) _ _ _ _ rfl (Sl.newAt _ _ _ 1 1 rfl (by simp [World.setCell])) (str_one [⟨x.toArray⟩]) (by unfold maxLen; omega) (by omega) (Nat.zero_le _) ?_; intro A3 c3 w3 ho3 hg3 hp3; obtain ⟨k1, k2, k3⟩ := H2.out.pushW (v := x) R1.out R2.out R3.out R4.out R5.out ho3 hg3 hp3; have hcl3 := cells2 k3; obtain ⟨p3, p4, pf3⟩ := hcl3; have pf4 := pf3 0; have K1 := Lib.hid k1; have K2 := Lib.hid k2; clear k1 k2 k3 ho3 hg3 hp3 pf3))
    exact hR.out _ _ ⟨rfl, K1.out, HK.out.trans K2.out (fun _ _ h => h)⟩
end
end
section
section
open Go.RowKit Go.Shelf
set_option maxRecDepth 8000 in
set_option maxHeartbeats 4000000 in
theorem take_of (kind : ByteArray) (W : World) (Pr : Nat → Prop) (pw pa : Nat) (s : Ta) (x : List UInt8) (r : List (List UInt8)) (h : RSt W Pr pw pa s) (hr : s.rest = x :: r) (_hx : x.length ≤ 1000000) (hlr : s.rest.length ≤ 1000000) (hns : s.ws.length ≤ 1000000) (hk1 : kind.data.toList ≠ [110]) (hk2 : kind.data.toList ≠ [119]) (hks : kind.size ≤ 1000000) (bg : Nat) (hg : Gl bg W) (hbg : ∀ j, j < bg → Pr j) :
    Calls Tryz.prog 115 #[.string kind, .pointer (some ⟨pw, 0, none⟩), .pointer (some ⟨pa, 0, none⟩)] W fun e w' => e = .returned (.bool ((Lib.split kind.data.toList [124]).contains x)) ∧ RSt w' Pr pw pa ⟨r, s.ws ++ [x], s.ns⟩ ∧ Kx (fun j => ¬ Pr j) W w' := by
  refine calls_cps ?_
  intro R hR
  have HH := Lib.hid h
  obtain ⟨A, c, q1, q2, q3, q4⟩ := h.left
  rw [hr] at q1 q2 q3
  obtain ⟨b, o, y, rfl, hb, hy, hc⟩ := strs_at q2 (k := 0) (by simp)
  have hy2 : y = ⟨x.toArray⟩ := by
    have : (strL (x :: r))[0]? = some ⟨x.toArray⟩ := rfl
    rw [this] at hy
    exact (Option.some.inj hy).symm
  subst hy2
  rw [Nat.add_zero] at hc
  rw [List.length_cons] at q1 q2 q3
  have hpb : b ≠ pw := fun e => h.npw (e ▸ (q4 _ (by rw [hr]; simp) rfl).1)
  have q0 : W.cell? ⟨pw, 0, none⟩ = some (.slice (some ⟨b, o, none⟩) (r.length + 1) c) := by rw [cell_of_row _ _ 0 _ _ (0, 0) q1]; rfl
  have qf : W.frozen? ⟨pw, 0, none⟩ = false := by simp [World.frozen?, q1]
  obtain ⟨A', hA'⟩ : ∃ A' : Option Addr, (if c = 1 then some ⟨b, o, none⟩ else some ⟨b, o + 1, none⟩) = A' := ⟨_, rfl⟩
  have HP := Lib.hid (h.pop (A' := A') hr (by rw [hr]; exact q1) (by rw [hr]; exact q2) (by rw [hr]; exact q3) (q4 _ (by rw [hr]; simp) rfl) (by
    by_cases hc1 : c = 1
    · exact .inl (List.eq_nil_of_length_eq_zero (by omega))
    · rw [if_neg hc1] at hA'
      exact .inr hA'.symm))
  have HK := Lib.hid (show Kx (fun j => ¬ Pr j) W (W.setCell ⟨pw, 0, none⟩ (.slice A' r.length (c - 1))) from kx_set (Kx.refl _ W) h.npw 0 _)
  rw [hr, List.length_cons] at hlr
  have i1 : (1 : Int) ≤ ((r.length + 1 : Nat) : Int) := by omega
  have i2 : r.length + 1 ≤ c := q3
  clear h q1 q2 q3 q4 hr hy
  have k1 : (kind.toList == [110]) = false := by rw [Lib.toList_data, beq_eq_false_iff_ne]; exact hk1
  have k2 : (kind.toList == [119]) = false := by rw [Lib.toList_data, beq_eq_false_iff_ne]; exact hk2
  have HG := Lib.hid hg
  have hbW : bg ≤ W.heap.size := Nat.le_of_not_lt fun hl => by have := HH.out.lt _ (hbg _ hl); omega
  have HbW := Lib.hid hbW
  have Hbg := Lib.hid hbg
  clear hk1 hk2 hg hbW hbg
  have hnr : s.ws.length ≤ 1000000 := hns
  by_cases hc1 : c = 1
  · rw [if_pos hc1] at hA'
    have hr0 : r = [] := List.eq_nil_of_length_eq_zero (by omega)
    subst hr0
    subst hc1
    subst hA'
    simp only [List.length_nil, Nat.sub_self, Nat.zero_add] at HP HK q0 i1 i2
    have h2 := HP.out
    obtain ⟨A1, c1, A2, c2, r1, r2, r3, r4, r5⟩ := h2.got
    have H2 := Lib.hid h2
    dsimp only at r1 r2 r3 r4 r5
    have hcl := cells2 r1
    obtain ⟨p0, p1, pf⟩ := hcl
    have pf0 := pf 0
    have R1 := Lib.hid r1
    have R2 := Lib.hid r2
    have R3 := Lib.hid r3
    have R4 := Lib.hid r4
    have R5 := Lib.hid r5
    clear h2 r1 r2 r3 r4 r5 pf
    go_enter Tryz.func115, Tryz.ntmps115
    go_wp2_with (at_builtin; go_loud (refine wpList_app rfl (.tmp 31) (.tmp 33) _ rfl elemStr0 0 _ _ _ rfl (R2.out.alloc _) _ _ _ _ rfl (Sl.newAt _ _ _ 1 1 rfl (by simp [World.setCell])) (str_one [⟨x.toArray⟩]) (by unfold maxLen; omega) (by omega) (Nat.zero_le _) ?_; intro A3 c3 w3 ho3 hg3 hp3; obtain ⟨k1, k2, k3⟩ := H2.out.pushW (v := x) R1.out R2.out R3.out R4.out R5.out ho3 hg3 hp3; have hcl3 := cells2 k3; obtain ⟨p3, p4, pf3⟩ := hcl3; have pf4 := pf3 0; have K1 := Lib.hid k1; have K2 := Lib.hid k2; clear k1 k2 k3 ho3 hg3 hp3 pf3))
    refine (split_any kind ⟨#[124]⟩ _ bg (HG.out.kx (HK.out.trans K2.out (fun _ _ h => h)) (fun j hj => Nat.le_of_not_lt (fun hl => hj (Hbg.out j hl))) HbW.out) (by omega) (by decide)).mono ?_
    rintro e w4 ⟨n4, c4, rfl, hx4, hn4, hb4⟩
    rw [show (w3.setCell ⟨pa, 0, none⟩ (.slice A3 (s.ws.length + 1) c3)).heap.size = w3.heap.size by simp [World.setCell]] at hx4
    have HX4 := Lib.hid hx4
    have HB4 := Lib.hid hb4
    clear hx4 hb4
    go_wp2_with fail
    refine (inS_any _ _ _ _ _ _ HX4.out (by omega)).mono ?_
    rintro e w5 ⟨rfl, rfl⟩
    rw [containsS_L]
    obtain ⟨res, hres⟩ : ∃ res, (Lib.split kind.data.toList (⟨#[124]⟩ : ByteArray).data.toList).contains x = res := ⟨_, rfl⟩
    have HRes := Lib.hid hres
    rw [hres]
    clear hres
    go_wp2
    refine hR.out _ _ ⟨?_, K1.out.below HB4.out, (HK.out.trans K2.out (fun _ _ h => h)).below HB4.out⟩
    rw [← HRes.out]
    rfl
  · rw [if_neg hc1] at hA'
    subst hA'
    have h2 := HP.out
    obtain ⟨A1, c1, A2, c2, r1, r2, r3, r4, r5⟩ := h2.got
    have H2 := Lib.hid h2
    dsimp only at r1 r2 r3 r4 r5
    have hcl := cells2 r1
    obtain ⟨p0, p1, pf⟩ := hcl
    have pf0 := pf 0
    have R1 := Lib.hid r1
    have R2 := Lib.hid r2
    have R3 := Lib.hid r3
    have R4 := Lib.hid r4
    have R5 := Lib.hid r5
    clear h2 r1 r2 r3 r4 r5 pf
    go_enter Tryz.func115, Tryz.ntmps115
    go_wp2_with (at_builtin; go_loud (refine wpList_app rfl (.tmp 31) (.tmp 33) _ rfl elemStr0 0 _ _ _ rfl (R2.out.alloc _) _ _ _ _ rfl (Sl.newAt _ _ _ 1 1 rfl (by simp [World.setCell])) (str_one [⟨x.toArray⟩]) (by unfold maxLen; omega) (by omega) (Nat.zero_le _) ?_; intro A3 c3 w3 ho3 hg3 hp3; obtain ⟨k1, k2, k3⟩ := H2.out.pushW (v := x) R1.out R2.out R3.out R4.out R5.out ho3 hg3 hp3; have hcl3 := cells2 k3; obtain ⟨p3, p4, pf3⟩ := hcl3; have pf4 := pf3 0; have K1 := Lib.hid k1; have K2 := Lib.hid k2; clear k1 k2 k3 ho3 hg3 hp3 pf3))
    refine (split_any kind ⟨#[124]⟩ _ bg (HG.out.kx (HK.out.trans K2.out (fun _ _ h => h)) (fun j hj => Nat.le_of_not_lt (fun hl => hj (Hbg.out j hl))) HbW.out) (by omega) (by decide)).mono ?_
    rintro e w4 ⟨n4, c4, rfl, hx4, hn4, hb4⟩
    rw [show (w3.setCell ⟨pa, 0, none⟩ (.slice A3 (s.ws.length + 1) c3)).heap.size = w3.heap.size by simp [World.setCell]] at hx4
    have HX4 := Lib.hid hx4
    have HB4 := Lib.hid hb4
    clear hx4 hb4
    go_wp2_with fail
    refine (inS_any _ _ _ _ _ _ HX4.out (by omega)).mono ?_
    rintro e w5 ⟨rfl, rfl⟩
    rw [containsS_L]
    obtain ⟨res, hres⟩ : ∃ res, (Lib.split kind.data.toList (⟨#[124]⟩ : ByteArray).data.toList).contains x = res := ⟨_, rfl⟩
    have HRes := Lib.hid hres
    rw [hres]
    clear hres
    go_wp2
    refine hR.out _ _ ⟨?_, K1.out.below HB4.out, (HK.out.trans K2.out (fun _ _ h => h)).below HB4.out⟩
    rw [← HRes.out]
    rfl
end
end
section
section
open Go.RowKit Go.Shelf
/-- What is asked of what is left and what was taken: sizes. -/
def TaZ (s : Ta) : Prop := s.rest.length + s.ws.length + s.ns.length ≤ 1000000 ∧ ∀ x ∈ s.rest, x.length ≤ 1000000
theorem TaZ.take {s : Ta} (h : TaZ s) (k : List UInt8) : TaZ (takeP k s).1 := by
  unfold takeP
  obtain ⟨h1, h2⟩ := h
  cases hr : s.rest with
  | nil => exact ⟨h1, h2⟩
  | cons w r =>
    rw [hr] at h1 h2
    rw [List.length_cons] at h1
    dsimp only
    split
    · exact ⟨by dsimp only; rw [List.length_append, List.length_singleton]; omega, fun x hx => h2 x (List.mem_cons_of_mem _ hx)⟩
    · exact ⟨by dsimp only; rw [List.length_append, List.length_singleton]; omega, fun x hx => h2 x (List.mem_cons_of_mem _ hx)⟩
theorem take_less {s : Ta} {k : List UInt8} (h : (takeP k s).2 = true) : (takeP k s).1.rest.length + 1 = s.rest.length := by
  unfold takeP at h ⊢
  cases hr : s.rest with
  | nil => rw [hr] at h; cases h
  | cons w r =>
    dsimp only
    split <;> rfl
/-- The words of a group. -/
def takeG : List (List UInt8) → Ta → Option Ta
  | [], s => some s
  | g :: r, s => if (takeP g s).2 then takeG r (takeP g s).1 else none
theorem takeG_less : ∀ {g : List (List UInt8)} {s s' : Ta}, takeG g s = some s' → s'.rest.length + g.length = s.rest.length
  | [], s, s', h => by cases h; rfl
  | a :: r, s, s', h => by
    unfold takeG at h
    split at h
    · rename_i hk
      have h1 := takeG_less h
      have h2 := take_less hk
      rw [List.length_cons]
      omega
    · cases h
/-- The rounds of a group; L: how many there must be still. -/
def loopK (g : List (List UInt8)) (more : Bool) : Nat → Nat → Ta → Option Ta
  | 0, _, s => some s
  | n + 1, L, s => if 0 < L ∨ (more = true ∧ 0 < s.rest.length) then (takeG g s).bind (loopK g more n (L - 1)) else some s
def kN : List UInt8 := [110]
def kS : List UInt8 := [110, 42]
def kP : List UInt8 := [110, 43]
def kPost : List UInt8 := [112, 111, 115, 116]
def grpK (k : List UInt8) : List (List UInt8) := if k = kS then [kN] else if k = kP then [kN] else if k = kPost then [[119], [119], [119], kN] else [k]
def leastK (k : List UInt8) : Nat := if k = kS then 0 else 1
def moreK (k : List UInt8) : Bool := decide (k = kS) || decide (k = kP) || decide (k = kPost)
def readK : List (List UInt8) → Ta → Option Ta
  | [], s => some s
  | k :: r, s => (loopK (grpK k) (moreK k) (leastK k + s.rest.length) (leastK k) s).bind (readK r)
/-- What read says. -/
def finP : Option Ta → List (List UInt8) × List Int × Bool
  | none => ([], [], false)
  | some s => (s.ws, s.ns, decide (s.rest.length = 0))
def readP (form : List UInt8) (words : List (List UInt8)) : List (List UInt8) × List Int × Bool := finP (readK (Lib.fields form) ⟨words, [], []⟩)
theorem take_any (kind : ByteArray) (W : World) (Pr : Nat → Prop) (pw pa : Nat) (s : Ta) (h : RSt W Pr pw pa s) (hz : TaZ s) (hks : kind.size ≤ 1000000) (bg : Nat) (hg : Gl bg W) (hbg : ∀ j, j < bg → Pr j) :
    Calls Tryz.prog 115 #[.string kind, .pointer (some ⟨pw, 0, none⟩), .pointer (some ⟨pa, 0, none⟩)] W fun e w' => e = .returned (.bool (takeP kind.data.toList s).2) ∧ RSt w' Pr pw pa (takeP kind.data.toList s).1 ∧ Kx (fun j => ¬ Pr j) W w' := by
  obtain ⟨h1, h2⟩ := hz
  unfold takeP
  cases hr : s.rest with
  | nil =>
    refine (take_none kind W Pr pw pa s h hr).mono ?_
    rintro e w' ⟨rfl, rfl⟩
    exact ⟨rfl, h, Kx.refl _ _⟩
  | cons x r =>
    have hx := h2 x (by rw [hr]; exact List.mem_cons_self)
    dsimp only
    by_cases k1 : kind.data.toList = [110]
    · rw [if_pos k1]
      exact take_num kind W Pr pw pa s x r h hr hx (by omega) (by omega) k1
    · rw [if_neg k1]
      unfold ofK
      by_cases k2 : kind.data.toList = [119]
      · rw [decide_eq_true k2, Bool.true_or]
        exact take_w kind W Pr pw pa s x r h hr hx (by omega) (by omega) k2
      · rw [decide_eq_false k2, Bool.false_or]
        exact take_of kind W Pr pw pa s x r h hr hx (by omega) (by omega) k1 k2 hks bg hg hbg
end
end
end Go.Proofs.YtndcijkgaadpgaaGreatDoor
