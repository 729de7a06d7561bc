/-
  Contracts of match's small functions: find, the document's find, Repeat, numbers, Index, Clone; each states its condition.
-/
import Derived.Test.YtjdhcdoekfikpaaMMem
import Derived.Test.YtjdhcdoekfikpaaMPl
import Derived.Laws.OwnMore
import Derived.Shelf.Abstract
import Derived.Deep.LoopGhost
import Derived.Laws.BitsAll
import Derived.Laws.ShiftsVar
import Derived.Laws.CopyOwn
import Derived.Deep.RegionHeld3
import Derived.Lib.SliceRun
namespace Go.Proofs.Ytjdhcdoekfikpaa
section
open Go.RowKit

/-- All but the blocks S, and what is new, is as it was. -/
structure Kx (S : Nat → Prop) (W W' : World) : Prop where
  os : W'.os = W.os
  tape : W'.tape = W.tape
  output : W'.output = W.output
  size : W.heap.size ≤ W'.heap.size
  block : ∀ j, j < W.heap.size → ¬ S j → W'.heap[j]? = W.heap[j]?
section
variable {S T : Nat → Prop} {A B C : World}
theorem Kx.refl (S : Nat → Prop) (W : World) : Kx S W W := ⟨rfl, rfl, rfl, Nat.le_refl _, fun _ _ _ => rfl⟩
theorem Kx.trans (h : Kx S A B) (k : Kx T B C) (hs : ∀ j, j < A.heap.size → T j → S j) : Kx S A C :=
  ⟨k.os.trans h.os, k.tape.trans h.tape, k.output.trans h.output, Nat.le_trans h.size k.size, fun j hj hn => (k.block j (Nat.lt_of_lt_of_le hj h.size) (fun ht => hn (hs j hj ht))).trans (h.block j hj hn)⟩
theorem Kx.mono (h : Kx S A B) (hs : ∀ j, S j → T j) : Kx T A B := ⟨h.os, h.tape, h.output, h.size, fun j hj hn => h.block j hj (fun ht => hn (hs j ht))⟩
theorem Kx.drewN (h : Kx S A B) (q : Nat) : Kx S A (B.drewN q) := ⟨h.os, h.tape, h.output, h.size, h.block⟩
theorem Kx.grown {row : Option Nat} (h : Kx S A B) (hg : B.grownBy C row) (hs : ∀ j, row = some j → S j ∨ A.heap.size ≤ j) : Kx S A C :=
  ⟨hg.os.trans h.os, hg.tape.trans h.tape, hg.output.trans h.output, Nat.le_trans h.size hg.size, fun j hj hn => (hg.block j (Nat.lt_of_lt_of_le hj h.size) (fun e => by
    rcases hs j e.symm with h' | h'
    · exact hn h'
    · omega)).trans (h.block j hj hn)⟩
theorem Kx.below (h : Kx S A B) (hb : Below B.heap.size B C) : Kx S A C :=
  ⟨hb.os.trans h.os, hb.tape.trans h.tape, hb.output.trans h.output, Nat.le_trans h.size hb.size, fun j hj hn => (hb.block j (Nat.lt_of_lt_of_le hj h.size)).trans (h.block j hj hn)⟩
/-- Where nothing below b may turn. -/
theorem Kx.low {w : World} {b : Nat} (hb : Below b w A) (h : Kx S A B) (hs : ∀ j, S j → b ≤ j) (hba : b ≤ A.heap.size) : Below b w B :=
  ⟨h.os.trans hb.os, h.tape.trans hb.tape, h.output.trans hb.output, Nat.le_trans hb.size h.size, fun j hj => (h.block j (by omega) (fun ht => by have := hs j ht; omega)).trans (hb.block j hj)⟩
end
theorem flat_bool (l : List Bool) : l.flatMap (fun b => [Value.bool b]) = l.map Value.bool := by
  induction l with
  | nil => rfl
  | cons a r ih => simp [ih]
/-- The search's state: the block of pairs, the row of each column, which columns were seen. -/
structure Fs (W : World) (B bp n m : Nat) (mayV : Value) (br cr bs cs : Nat) (of : List Int) (seen : List Bool) : Prop where
  box : W.heap[bp]? = some (.cells #[.int .i64 (n : Int), .int .i64 (m : Int), mayV, .slice (some ⟨br, 0, none⟩) m cr, .slice (some ⟨bs, 0, none⟩) m cs] 101 (0, 0))
  row : W.ownsRow B 3 1 (.slice (some ⟨br, 0, none⟩) m cr) m (of.map (Value.int .i64))
  sn : W.ownsRow B 4 1 (.slice (some ⟨bs, 0, none⟩) m cs) m (seen.map Value.bool)
  bpB : B ≤ bp
section
variable {W W' : World} {B bp n m : Nat} {mayV : Value} {br cr bs cs : Nat} {of : List Int} {seen : List Bool}
theorem row_heap {W : World} {B g c sz m : Nat} {e : TypeId} {xs : List Value} (h : W.ownsRow B e sz (.slice (some ⟨g, 0, none⟩) m c) m xs) : B ≤ g ∧ g < W.heap.size ∧ ∃ cur, W.heap[g]? = some (.cells cur e (0, 0)) ∧ m ≤ c ∧ c ≤ maxLen := by
  rcases h.2 with ⟨h', _⟩ | ⟨g', c', cur, h', hb, hg, hn, hc, _⟩
  · simp at h'
  · simp only [Value.slice.injEq, Option.some.injEq, Addr.mk.injEq, and_true, true_and] at h'
    obtain ⟨rfl, rfl⟩ := h'
    exact ⟨hb, (Array.getElem?_eq_some_iff.1 hg).1, cur, hg, hn, hc⟩
theorem Fs.ne (h : Fs W B bp n m mayV br cr bs cs of seen) : bp ≠ br ∧ bp ≠ bs ∧ br ≠ bs := by
  obtain ⟨_, _, c1, h1, _⟩ := row_heap h.row
  obtain ⟨_, _, c2, h2, _⟩ := row_heap h.sn
  refine ⟨fun e => ?_, fun e => ?_, fun e => ?_⟩
  · have := h.box; rw [e, h1] at this; simp at this
  · have := h.box; rw [e, h2] at this; simp at this
  · rw [e, h2] at h1; simp at h1
theorem Fs.len (h : Fs W B bp n m mayV br cr bs cs of seen) : of.length = m ∧ seen.length = m := ⟨by have := h.row.1; simpa using this, by have := h.sn.1; simpa using this⟩
theorem Fs.drewN (h : Fs W B bp n m mayV br cr bs cs of seen) (q : Nat) : Fs (W.drewN q) B bp n m mayV br cr bs cs of seen := ⟨h.box, h.row, h.sn, h.bpB⟩
theorem Fs.kx (h : Fs W B bp n m mayV br cr bs cs of seen) {S : Nat → Prop} (k : Kx S W W') (h1 : ¬ S bp) (h2 : ¬ S br) (h3 : ¬ S bs) : Fs W' B bp n m mayV br cr bs cs of seen := by
  obtain ⟨_, l1, c1, g1, _⟩ := row_heap h.row
  obtain ⟨_, l2, c2, g2, _⟩ := row_heap h.sn
  have keep : ∀ (g c : Nat) (e : TypeId) (xs : List Value), g < W.heap.size → ¬ S g → W.ownsRow B e 1 (.slice (some ⟨g, 0, none⟩) m c) m xs → W'.ownsRow B e 1 (.slice (some ⟨g, 0, none⟩) m c) m xs := fun g c e xs hg hn ho => by
    refine ⟨ho.1, ?_⟩
    rcases ho.2 with h' | ⟨g', c', cur, h', hb, hg', hr⟩
    · exact .inl h'
    · simp only [Value.slice.injEq, Option.some.injEq, Addr.mk.injEq, and_true, true_and] at h'
      obtain ⟨rfl, rfl⟩ := h'
      exact .inr ⟨g, c, cur, rfl, hb, (k.block g hg hn).trans hg', hr⟩
  exact ⟨(k.block bp (Array.getElem?_eq_some_iff.1 h.box).1 h1).trans h.box, keep _ _ _ _ l1 h2 h.row, keep _ _ _ _ l2 h3 h.sn, h.bpB⟩
theorem map_set' {α : Type} (f : α → Value) (l : List α) (k : Nat) (x : α) : (l.set k x).map f = (l.map f).set k (f x) := by simp [List.map_set]
/-- A column is marked as seen. -/
theorem Fs.see (h : Fs W B bp n m mayV br cr bs cs of seen) (k : Nat) : Fs (W.setCell ⟨bs, k, none⟩ (.bool true)) B bp n m mayV br cr bs cs of (seen.set k true) ∧ Kx (fun j => j = br ∨ j = bs) W (W.setCell ⟨bs, k, none⟩ (.bool true)) := by
  obtain ⟨n1, n2, n3⟩ := h.ne
  obtain ⟨s1, s2⟩ := h.sn.stored k (.bool true)
  refine ⟨⟨?_, h.row.kept s2 (.inr (by simp [Value.ownBlock]; exact n3)), by rw [map_set']; exact s1, h.bpB⟩, (Kx.refl _ _).grown s2 (fun j hj => .inl (.inr (by injection hj with hj; exact hj.symm)))⟩
  exact (s2.block bp (Array.getElem?_eq_some_iff.1 h.box).1 (by simp; exact n2)).trans h.box
/-- A column gets a row. -/
theorem Fs.put (h : Fs W B bp n m mayV br cr bs cs of seen) (k : Nat) (r : Int) : Fs (W.setCell ⟨br, k, none⟩ (.int .i64 r)) B bp n m mayV br cr bs cs (of.set k r) seen ∧ Kx (fun j => j = br ∨ j = bs) W (W.setCell ⟨br, k, none⟩ (.int .i64 r)) := by
  obtain ⟨n1, n2, n3⟩ := h.ne
  obtain ⟨s1, s2⟩ := h.row.stored k (.int .i64 r)
  refine ⟨⟨?_, by rw [map_set']; exact s1, h.sn.kept s2 (.inr (by simp [Value.ownBlock]; exact fun e => n3 e.symm)), h.bpB⟩, (Kx.refl _ _).grown s2 (fun j hj => .inl (.inl (by injection hj with hj; exact hj.symm)))⟩
  exact (s2.block bp (Array.getElem?_eq_some_iff.1 h.box).1 (by simp; exact n1)).trans h.box
theorem Fs.cells (h : Fs W B bp n m mayV br cr bs cs of seen) : W.cell? ⟨bp, 0, none⟩ = some (.int .i64 (n : Int)) ∧ W.cell? ⟨bp, 1, none⟩ = some (.int .i64 (m : Int)) ∧ W.cell? ⟨bp, 2, none⟩ = some mayV ∧
    W.cell? ⟨bp, 3, none⟩ = some (.slice (some ⟨br, 0, none⟩) m cr) ∧ W.cell? ⟨bp, 4, none⟩ = some (.slice (some ⟨bs, 0, none⟩) m cs) ∧ ∀ j, W.frozen? ⟨bp, j, none⟩ = false :=
  ⟨by rw [cell_of_row _ _ 0 _ _ (0, 0) h.box]; rfl, by rw [cell_of_row _ _ 1 _ _ (0, 0) h.box]; rfl, by rw [cell_of_row _ _ 2 _ _ (0, 0) h.box]; rfl, by rw [cell_of_row _ _ 3 _ _ (0, 0) h.box]; rfl, by rw [cell_of_row _ _ 4 _ _ (0, 0) h.box]; rfl, fun j => by simp [World.frozen?, h.box]⟩
theorem Fs.at_ (h : Fs W B bp n m mayV br cr bs cs of seen) {k : Nat} (hk : k < m) : W.cell? ⟨br, k, none⟩ = some (.int .i64 (of.getD k (-1))) ∧ W.cell? ⟨bs, k, none⟩ = some (.bool (seen.getD k false)) ∧ W.frozen? ⟨br, k, none⟩ = false ∧ W.frozen? ⟨bs, k, none⟩ = false := by
  obtain ⟨l1, l2⟩ := h.len
  refine ⟨?_, ?_, h.row.frozenAt k, h.sn.frozenAt k⟩
  · rw [h.row.cellAt k (by omega), getD_get _ _ _ (by omega)]; simp [show k < of.length by omega]
  · rw [h.sn.cellAt k (by omega), getD_get _ _ _ (by omega)]; simp [show k < seen.length by omega]
end
end
section
open Go.RowKit

/-- What tells which columns a row may have: a function value that only reads, as long as nothing below block B turns. -/
def MayOk (w0 : World) (B : Nat) (F : FuncId) (caps : Array Value) (n m : Nat) (g : Nat → Nat → Bool) : Prop :=
  ∀ (W : World) (r k : Nat), Below B w0 W → r < n → k < m → Calls Try.prog F (#[.int .i64 (r : Int), .int .i64 (k : Int)] ++ caps) W fun e W' => e = .returned (.bool (g r k)) ∧ Qt W W'
def RowsOk (n : Nat) (of : List Int) : Prop := ∀ k, of.getD k (-1) < (n : Int)
theorem find_unfold (g : Nat → Nat → Bool) (m f row : Nat) (of : List Int) (seen : List Bool) : findF g m (f + 1) row of seen = scanF (findF g m f) g row ((List.range m).drop 0) of seen := by simp [findF]
theorem scan_end (rec : Nat → List Int → List Bool → Sta) (g : Nat → Nat → Bool) (row m : Nat) (of : List Int) (seen : List Bool) : scanF rec g row ((List.range m).drop m) of seen = (of, seen, false) := by
  rw [List.drop_of_length_le (by simp)]; rfl
theorem drop_range_cons {m k : Nat} (h : k < m) : (List.range m).drop k = k :: (List.range m).drop (k + 1) := by
  rw [List.drop_eq_getElem_cons (by simpa using h)]; simp
section
variable {rec : Nat → List Int → List Bool → Sta} {g : Nat → Nat → Bool} {row m k : Nat} {of : List Int} {seen : List Bool}
theorem scan_skip (h : k < m) (hs : seen.getD k false = true ∨ g row k = false) : scanF rec g row ((List.range m).drop k) of seen = scanF rec g row ((List.range m).drop (k + 1)) of seen := by
  rw [drop_range_cons h, scanF, if_pos hs]
theorem scan_free (h : k < m) (hs : seen.getD k false = false) (hg : g row k = true) (hf : of.getD k (-1) < 0) : scanF rec g row ((List.range m).drop k) of seen = (of.set k (row : Int), seen.set k true, true) := by
  rw [drop_range_cons h, scanF, if_neg (by rw [hs, hg]; simp), if_pos hf]
theorem scan_yes (h : k < m) (hs : seen.getD k false = false) (hg : g row k = true) (hf : ¬ of.getD k (-1) < 0) {u : Sta} (hu : rec (of.getD k (-1)).toNat of (seen.set k true) = u) (hok : u.2.2 = true) : scanF rec g row ((List.range m).drop k) of seen = (u.1.set k (row : Int), u.2.1, true) := by
  rw [drop_range_cons h, scanF, if_neg (by rw [hs, hg]; simp), if_neg hf, hu, if_pos hok]
theorem scan_no (h : k < m) (hs : seen.getD k false = false) (hg : g row k = true) (hf : ¬ of.getD k (-1) < 0) {u : Sta} (hu : rec (of.getD k (-1)).toNat of (seen.set k true) = u) (hok : u.2.2 = false) : scanF rec g row ((List.range m).drop k) of seen = scanF rec g row ((List.range m).drop (k + 1)) u.1 u.2.1 := by
  rw [drop_range_cons h, scanF, if_neg (by rw [hs, hg]; simp), if_neg hf, hu, if_neg (by rw [hok]; simp)]
end
theorem qt_kx {S : Nat → Prop} {W W' : World} (h : Qt W W') : Kx S W W' := by
  obtain ⟨q, rfl⟩ := h
  exact ⟨rfl, rfl, rfl, Nat.le_refl _, fun _ _ _ => rfl⟩
theorem below_drewN {B : Nat} {W W' : World} (h : Below B W W') (n : Nat) : Below B W (W'.drewN n) := ⟨h.os, h.tape, h.output, h.size, h.block⟩
theorem fuel_zero {seen : List Bool} {k : Nat} (h : unseen seen ≤ 0) (hk : k < seen.length) (hs : seen.getD k false = false) : False := by
  have := unseen_set (k := k) hk (by rw [hs]; simp)
  omega
set_option maxHeartbeats 2000000 in
theorem find_any (w0 : World) (B bp n m n' : Nat) (F : FuncId) (caps : Array Value) (g : Nat → Nat → Bool) (br cr bs cs : Nat) (hent : Enters Try.prog F) (hmay : MayOk w0 B F caps n m g) (hm : m ≤ 1000) (_hn : n ≤ 1000) (hB1 : B ≤ br) (hB2 : B ≤ bs) :
    ∀ (f row : Nat) (of : List Int) (seen : List Bool) (W : World), unseen seen ≤ f → row < n → Fs W B bp n' m (.func (.func F) #[] caps) br cr bs cs of seen → Below B w0 W → B ≤ W.heap.size → Valid g m of → RowsOk n of →
    Calls Try.prog 67 #[.pointer (some ⟨bp, 0, none⟩), .int .i64 (row : Int)] W fun e W' => e = .returned (.bool (findF g m (f + 1) row of seen).2.2) ∧
      Fs W' B bp n' m (.func (.func F) #[] caps) br cr bs cs (findF g m (f + 1) row of seen).1 (findF g m (f + 1) row of seen).2.1 ∧ Kx (fun j => j = br ∨ j = bs) W W' := by
  intro f
  induction f using Nat.strongRecOn with
  | _ f ih =>
    intro row of seen W hun hrow hF hb hBW hv hr
    refine calls_cps ?_
    intro R hR
    have Ih := Lib.hid ih
    have Hmay := Lib.hid hmay
    have HF := Lib.hid hF
    have Hv := Lib.hid hv
    have Hr := Lib.hid hr
    have hent' : ∀ (args : Array Value) (w : World), (callFunc F args).run Try.prog w = .ok (.enter F args) w := hent
    obtain ⟨q0, q1, q2, q3, q4, q5⟩ := hF.cells
    have hlen := hF.len
    have Hlen := Lib.hid hlen
    clear ih hmay hF hv hr hent hlen
    go_enter Try.func67, Try.ntmps67
    go_wp2_with fail
    go_loopg [5, 11] m (fun gk s5 s11 wr => ∃ k seen', k + gk = m ∧ s11 = .int .i64 ((k : Nat) : Int) ∧ Fs wr B bp n' m (.func (.func F) #[] caps) br cr bs cs of seen' ∧ Kx (fun j => j = br ∨ j = bs) W wr ∧ unseen seen' ≤ f ∧
      Hid (findF g m (f + 1) row of seen = scanF (findF g m f) g row ((List.range m).drop k) of seen'))
    case atStart => exact ⟨0, seen, by omega, rfl, HF.out, Kx.refl _ _, hun, Lib.hid (find_unfold _ _ _ _ _ _)⟩
    case round =>
      clear q0 q1 q2 q3 q4 q5
      obtain ⟨k, seen', hgk, rfl, hF, hK, hun', He⟩ := hrel
      obtain ⟨wi, rfl⟩ : ∃ wi : World, wi = wr := ⟨_, rfl⟩
      by_cases hlt : k < m
      · obtain ⟨q0, q1, q2, q3, q4, q5⟩ := hF.cells
        obtain ⟨c1, c2, c3, c4⟩ := hF.at_ hlt
        have HFi := Lib.hid hF
        have hbi : Below B w0 wi := Kx.low hb hK (by rintro j (rfl | rfl) <;> assumption) hBW
        clear hF
        have i1 : (k : Int) < (m : Int) := by omega
        have hls : seen'.length = m := HFi.out.len.2
        cases hs : seen'.getD k false with
        | true =>
          rw [hs] at c2
          have HE := Lib.hid (He.out.trans (scan_skip hlt (.inl hs)))
          clear hls hs
          go_wp2_with fail
          go_roundg (gk - 1)
          case measure => omega
          case rel => exact ⟨k + 1, seen', by omega, by go_num, HFi.out, hK, hun', Lib.hid HE.out⟩
        | false =>
          rw [hs] at c2
          have Hs := Lib.hid hs
          have Hls := Lib.hid hls
          obtain ⟨x, hx⟩ : ∃ x, of.getD k (-1) = x := ⟨_, rfl⟩
          rw [hx] at c1
          have Hx := Lib.hid hx
          clear hs hls hx
          go_wp2_with fail
          refine (Hmay.out _ row k hbi hrow hlt).mono ?_
          cases hg : g row k with
          | false =>
            have HE := Lib.hid (He.out.trans (scan_skip hlt (.inr hg)))
            clear hg
            rintro e w1 ⟨rfl, q, rfl⟩
            go_wp2_with fail
            go_roundg (gk - 1)
            case measure => omega
            case rel => exact ⟨k + 1, seen', by omega, by go_num, HFi.out.drewN q, hK.drewN q, hun', Lib.hid HE.out⟩
          | true =>
            obtain ⟨f', rfl⟩ : ∃ f', f = f' + 1 := ⟨f - 1, by
              have : ¬ unseen seen' ≤ 0 := fun h => fuel_zero h (by rw [Hls.out]; exact hlt) Hs.out
              omega⟩
            have Hg := Lib.hid hg
            clear hg
            rintro e w1 ⟨rfl, q, rfl⟩
            have hFd := HFi.out.drewN q
            have hKd := hK.drewN q
            have hbd := below_drewN hbi q
            generalize wi.drewN q = wd at *
            obtain ⟨d0, d1, d2, d3, d4, d5⟩ := hFd.cells
            obtain ⟨e1, e2, e3, e4⟩ := hFd.at_ hlt
            rw [Hx.out] at e1
            rw [Hs.out] at e2
            obtain ⟨n1, n2, n3⟩ := hFd.ne
            obtain ⟨hF2, hK2⟩ := hFd.see k
            have hK3 : Kx (fun j => j = br ∨ j = bs) W (wd.setCell ⟨bs, k, none⟩ (.bool true)) := hKd.trans hK2 (fun _ _ h => h)
            obtain ⟨y0, y1, y2, y3, y4, y5⟩ := hF2.cells
            obtain ⟨z1, z2, z3, z4⟩ := hF2.at_ hlt
            rw [Hx.out] at z1
            have hb3 : Below B w0 (wd.setCell ⟨bs, k, none⟩ (.bool true)) := Kx.low hb hK3 (by rintro j (rfl | rfl) <;> assumption) hBW
            have hun3 : unseen (seen'.set k true) ≤ f' := by
              have := unseen_set (seen := seen') (k := k) (by rw [Hls.out]; exact hlt) (by rw [Hs.out]; simp)
              omega
            have HF2 := Lib.hid hF2
            have HK3 := Lib.hid hK3
            have HB3 := Lib.hid hb3
            have Hun3 := Lib.hid hun3
            clear hF2 hK2 hK3 hFd hKd hbd hb3 hun3 q0 q1 q2 q3 q4 q5 c1 c2 c3 c4
            by_cases hx0 : x < 0
            · have he := He.out.trans (scan_free hlt Hs.out Hg.out (by rw [Hx.out]; exact hx0))
              obtain ⟨hF4, hK4⟩ := HF2.out.put k (row : Int)
              have Hfin := Lib.hid (hR.out (.returned (.bool true)) _ (by rw [he]; exact ⟨rfl, hF4, HK3.out.trans hK4 (fun _ _ h => h)⟩))
              clear he hF4 hK4
              go_wp2
              exact Hfin.out
            · obtain ⟨r', rfl⟩ : ∃ r' : Nat, x = r' := ⟨x.toNat, by omega⟩
              have hr' : r' < n := by have := Hr.out k; rw [Hx.out] at this; omega
              have hge : (0 : Int) ≤ (r' : Int) := by omega
              obtain ⟨u, hu⟩ : ∃ u, findF g m (f' + 1) r' of (seen'.set k true) = u := ⟨_, rfl⟩
              have hux : findF g m (f' + 1) (of.getD k (-1)).toNat of (seen'.set k true) = u := by rw [Hx.out]; exact hu
              have hP := find_post g m of HFi.out.len.1 Hv.out (f' + 1) r' (seen'.set k true) (by rw [List.length_set]; exact Hls.out) (by have := Hun3.out; omega)
              rw [hu] at hP
              have HU := Lib.hid hu
              have HUX := Lib.hid hux
              have HP := Lib.hid hP
              clear hu hux hP hx0
              go_wp2_with fail
              refine (Ih.out f' (by omega) r' of (seen'.set k true) _ Hun3.out hr' HF2.out HB3.out (by have := HK3.out.size; omega) Hv.out Hr.out).mono ?_
              rw [HU.out]
              rintro e w4 ⟨rfl, hF4, hK4⟩
              cases hok : u.2.2 with
              | true =>
                have he := He.out.trans (scan_yes hlt Hs.out Hg.out (by rw [Hx.out]; omega) HUX.out hok)
                obtain ⟨y0, y1, y2, y3, y4, y5⟩ := hF4.cells
                obtain ⟨z1, z2, z3, z4⟩ := hF4.at_ hlt
                obtain ⟨hF5, hK5⟩ := hF4.put k (row : Int)
                have Hfin := Lib.hid (hR.out (.returned (.bool true)) _ (by rw [he]; exact ⟨rfl, hF5, (HK3.out.trans hK4 (fun _ _ h => h)).trans hK5 (fun _ _ h => h)⟩))
                clear he hF4 hF5 hK4 hK5 hok
                go_wp2
                exact Hfin.out
              | false =>
                have he := He.out.trans (scan_no hlt Hs.out Hg.out (by rw [Hx.out]; omega) HUX.out hok)
                have h1 := (HP.out.no hok).1
                rw [h1] at he hF4
                have HE := Lib.hid he
                have hls4 : unseen u.2.1 ≤ f' := by
                  have := unseen_mono (a := seen'.set k true) (b := u.2.1) (by rw [List.length_set, Hls.out, HP.out.l2]) HP.out.mono
                  have := Hun3.out
                  omega
                have hK5 := HK3.out.trans hK4 (fun _ _ h => h)
                clear he h1 hok hK4
                go_wp2_with fail
                go_roundg (gk - 1)
                case measure => omega
                case rel => exact ⟨k + 1, u.2.1, by omega, by go_num, hF4, hK5, by omega, Lib.hid HE.out⟩
      · obtain rfl : m = k := by omega
        have he := He.out
        rw [scan_end] at he
        have Hfin := Lib.hid (hR.out (.returned (.bool false)) wi (by rw [he]; exact ⟨rfl, hF, hK⟩))
        clear hF hK he
        go_wp2
        exact Hfin.out
end
section
open Go.RowKit

/-- The search's state: the row of each column, which columns were seen. -/
structure Gs (W : World) (B m : Nat) (br cr bs cs : Nat) (of : List Int) (seen : List Bool) : Prop where
  row : W.ownsRow B 3 1 (.slice (some ⟨br, 0, none⟩) m cr) m (of.map (Value.int .i64))
  sn : W.ownsRow B 4 1 (.slice (some ⟨bs, 0, none⟩) m cs) m (seen.map Value.bool)
section
variable {W W' : World} {B m : Nat} {br cr bs cs : Nat} {of : List Int} {seen : List Bool}
theorem Gs.ne (h : Gs W B m br cr bs cs of seen) : br ≠ bs := by
  obtain ⟨_, _, c1, h1, _⟩ := row_heap h.row
  obtain ⟨_, _, c2, h2, _⟩ := row_heap h.sn
  exact fun e => by rw [e, h2] at h1; simp at h1
theorem Gs.len (h : Gs W B m br cr bs cs of seen) : of.length = m ∧ seen.length = m := ⟨by have := h.row.1; simpa using this, by have := h.sn.1; simpa using this⟩
theorem Gs.see (h : Gs W B m br cr bs cs of seen) (k : Nat) : Gs (W.setCell ⟨bs, k, none⟩ (.bool true)) B m br cr bs cs of (seen.set k true) ∧ Kx (fun j => j = br ∨ j = bs) W (W.setCell ⟨bs, k, none⟩ (.bool true)) := by
  have n3 := h.ne
  obtain ⟨s1, s2⟩ := h.sn.stored k (.bool true)
  exact ⟨⟨h.row.kept s2 (.inr (by simp [Value.ownBlock]; exact n3)), by rw [map_set']; exact s1⟩, (Kx.refl _ _).grown s2 (fun j hj => .inl (.inr (by injection hj with hj; exact hj.symm)))⟩
theorem Gs.put (h : Gs W B m br cr bs cs of seen) (k : Nat) (r : Int) : Gs (W.setCell ⟨br, k, none⟩ (.int .i64 r)) B m br cr bs cs (of.set k r) seen ∧ Kx (fun j => j = br ∨ j = bs) W (W.setCell ⟨br, k, none⟩ (.int .i64 r)) := by
  have n3 := h.ne
  obtain ⟨s1, s2⟩ := h.row.stored k (.int .i64 r)
  exact ⟨⟨by rw [map_set']; exact s1, h.sn.kept s2 (.inr (by simp [Value.ownBlock]; exact fun e => n3 e.symm))⟩, (Kx.refl _ _).grown s2 (fun j hj => .inl (.inl (by injection hj with hj; exact hj.symm)))⟩
theorem Gs.at_ (h : Gs W B m br cr bs cs of seen) {k : Nat} (hk : k < m) : W.cell? ⟨br, k, none⟩ = some (.int .i64 (of.getD k (-1))) ∧ W.cell? ⟨bs, k, none⟩ = some (.bool (seen.getD k false)) ∧ W.frozen? ⟨br, k, none⟩ = false ∧ W.frozen? ⟨bs, k, none⟩ = false := by
  obtain ⟨l1, l2⟩ := h.len
  refine ⟨?_, ?_, h.row.frozenAt k, h.sn.frozenAt k⟩
  · rw [h.row.cellAt k (by omega), getD_get _ _ _ (by omega)]; simp [show k < of.length by omega]
  · rw [h.sn.cellAt k (by omega), getD_get _ _ _ (by omega)]; simp [show k < seen.length by omega]
theorem Gs.cap (h : Gs W B m br cr bs cs of seen) : m ≤ cr ∧ m ≤ cs ∧ cr ≤ 9223372036854775807 ∧ cs ≤ 9223372036854775807 := by
  obtain ⟨_, _, _, _, a, b⟩ := row_heap h.row
  obtain ⟨_, _, _, _, c, d⟩ := row_heap h.sn
  unfold maxLen at b d
  exact ⟨a, c, by omega, by omega⟩
end
/-- A cost of the table, as the walk asks for it. -/
theorem table_at {w0 W : World} {A : Option Addr} {n m r k : Nat} {T : List (List Int)} (hT : SlR w0 A n T) (hrect : ∀ x ∈ T, x.length = m) (hb : Below w0.heap.size w0 W) (hr : r < n) (hk : k < m) :
    ∃ b o Ai ci bi oi, A = some ⟨b, o, none⟩ ∧ b < w0.heap.size ∧ bi < w0.heap.size ∧ W.cell? ⟨b, o + r, none⟩ = some (.slice (some ⟨bi, oi, none⟩) m ci) ∧ Ai = some (⟨bi, oi, none⟩ : Addr) ∧ W.cell? ⟨bi, oi + k, none⟩ = some (.int .i64 (ct T r k)) := by
  obtain ⟨b, o, x, Ai, ci, hA, hlt, hx, hc, hs⟩ := hT.at_ hr
  have hxl : x.length = m := hrect x (List.mem_of_getElem? hx)
  rw [hxl] at hc hs
  obtain ⟨bi, oi, v, hAi, hbi, hv, hcell⟩ := hs.at1 hk
  subst hAi
  refine ⟨b, o, _, ci, bi, oi, hA, hlt, hbi, (hb.cell (p := ⟨b, o + r, none⟩) hlt).trans hc, rfl, ?_⟩
  rw [hb.cell (p := ⟨bi, oi + k, none⟩) hbi, hcell]
  have e1 : T.getD r [] = x := by rw [List.getD_eq_getElem?_getD, hx]; rfl
  have e2 : x.getD k (-1) = v := by rw [List.getD_eq_getElem?_getD, hv]; rfl
  unfold ct
  rw [e1, e2]
set_option maxHeartbeats 2000000 in
theorem refFind_any (w0 : World) (A : Option Addr) (n c m : Nat) (T : List (List Int)) (hT : SlR w0 A n T) (hrect : ∀ x ∈ T, x.length = m) (hm : m ≤ 1000) (_hn : n ≤ 1000) (br cr bs cs : Nat) (hB1 : w0.heap.size ≤ br) (hB2 : w0.heap.size ≤ bs) :
    ∀ (f row : Nat) (of : List Int) (seen : List Bool) (W : World), unseen seen ≤ f → row < n → Gs W w0.heap.size m br cr bs cs of seen → Below w0.heap.size w0 W → Valid (gT T) m of → RowsOk n of →
    Calls Try.prog 56 #[.slice A n c, .int .i64 (row : Int), .slice (some ⟨br, 0, none⟩) m cr, .slice (some ⟨bs, 0, none⟩) m cs] W fun e W' =>
      e = .returned (.tuple #[.slice (some ⟨br, 0, none⟩) m cr, .slice (some ⟨bs, 0, none⟩) m cs, .bool (findF (gT T) m (f + 1) row of seen).2.2]) ∧
      Gs W' w0.heap.size m br cr bs cs (findF (gT T) m (f + 1) row of seen).1 (findF (gT T) m (f + 1) row of seen).2.1 ∧ Kx (fun j => j = br ∨ j = bs) W W' := by
  intro f
  induction f using Nat.strongRecOn with
  | _ f ih =>
    intro row of seen W hun hrow hF hb hv hr
    refine calls_cps ?_
    intro R hR
    have Ih := Lib.hid ih
    have HF := Lib.hid hF
    have Hv := Lib.hid hv
    have Hr := Lib.hid hr
    have Hrect := Lib.hid hrect
    have HT := Lib.hid hT
    have hlen := hF.len
    have Hlen := Lib.hid hlen
    have hBW : w0.heap.size ≤ W.heap.size := hb.size
    clear ih hF hv hr hlen hrect hT
    go_enter Try.func56, Try.ntmps56
    go_wp2_with fail
    go_loopg [2, 3, 11] m (fun gk s2 s3 s11 wr => ∃ k seen', k + gk = m ∧ s2 = .slice (some ⟨br, 0, none⟩) m cr ∧ s3 = .slice (some ⟨bs, 0, none⟩) m cs ∧ s11 = .int .i64 ((k : Nat) : Int) ∧ Gs wr w0.heap.size m br cr bs cs of seen' ∧ Kx (fun j => j = br ∨ j = bs) W wr ∧ unseen seen' ≤ f ∧
      Hid (findF (gT T) m (f + 1) row of seen = scanF (findF (gT T) m f) (gT T) row ((List.range m).drop k) of seen'))
    case atStart => exact ⟨0, seen, by omega, rfl, rfl, rfl, HF.out, Kx.refl _ _, hun, Lib.hid (find_unfold _ _ _ _ _ _)⟩
    case round =>
      obtain ⟨k, seen', hgk, rfl, rfl, rfl, hF, hK, hun', He⟩ := hrel
      obtain ⟨wi, rfl⟩ : ∃ wi : World, wi = wr := ⟨_, rfl⟩
      by_cases hlt : k < m
      · obtain ⟨c1, c2, c3, c4⟩ := hF.at_ hlt
        have HFi := Lib.hid hF
        have hbi : Below w0.heap.size w0 wi := Kx.low hb hK (by rintro j (rfl | rfl) <;> assumption) hBW
        obtain ⟨b, o, Ai, ci, bi, oi, rfl, hbl, hbil, t1, _, t2⟩ := table_at HT.out Hrect.out hbi hrow hlt
        have n1 : b ≠ bs := by omega
        have n2 : bi ≠ bs := by omega
        have n3 := hF.ne
        clear hF
        have i1 : (k : Int) < (m : Int) := by omega
        have i2 : (row : Int) < (n : Int) := by omega
        have hls : seen'.length = m := HFi.out.len.2
        obtain ⟨y, hy⟩ : ∃ y, ct T row k = y := ⟨_, rfl⟩
        rw [hy] at t2
        have hgy : gT T row k = decide (0 ≤ y) := by unfold gT; rw [hy]
        have Hgy := Lib.hid hgy
        clear hy hgy
        by_cases hy0 : y < 0
        · have HE := Lib.hid (He.out.trans (scan_skip hlt (.inr (by rw [Hgy.out]; simp; omega))))
          clear hls
          go_wp2_with fail
          go_roundg (gk - 1)
          case measure => omega
          case rel => exact ⟨k + 1, seen', by omega, rfl, rfl, by go_num, HFi.out, hK, hun', Lib.hid HE.out⟩
        have hy1 : 0 ≤ y := by omega
        clear hy0
        cases hs : seen'.getD k false with
        | true =>
          rw [hs] at c2
          have HE := Lib.hid (He.out.trans (scan_skip hlt (.inl hs)))
          clear hls hs
          go_wp2_with fail
          go_roundg (gk - 1)
          case measure => omega
          case rel => exact ⟨k + 1, seen', by omega, rfl, rfl, by go_num, HFi.out, hK, hun', Lib.hid HE.out⟩
        | false =>
          rw [hs] at c2
          have Hs := Lib.hid hs
          have Hls := Lib.hid hls
          obtain ⟨x, hx⟩ : ∃ x, of.getD k (-1) = x := ⟨_, rfl⟩
          rw [hx] at c1
          have Hx := Lib.hid hx
          have Hg := Lib.hid (show gT T row k = true by rw [Hgy.out]; simp; omega)
          obtain ⟨f', rfl⟩ : ∃ f', f = f' + 1 := ⟨f - 1, by
            have : ¬ unseen seen' ≤ 0 := fun h => fuel_zero h (by rw [Hls.out]; exact hlt) Hs.out
            omega⟩
          clear hs hls hx
          obtain ⟨hF2, hK2⟩ := HFi.out.see k
          have hK3 : Kx (fun j => j = br ∨ j = bs) W (wi.setCell ⟨bs, k, none⟩ (.bool true)) := hK.trans hK2 (fun _ _ h => h)
          obtain ⟨z1, z2, z3, z4⟩ := hF2.at_ hlt
          rw [Hx.out] at z1
          have hb3 : Below w0.heap.size w0 (wi.setCell ⟨bs, k, none⟩ (.bool true)) := Kx.low hb hK3 (by rintro j (rfl | rfl) <;> assumption) hBW
          have hun3 : unseen (seen'.set k true) ≤ f' := by
            have := unseen_set (seen := seen') (k := k) (by rw [Hls.out]; exact hlt) (by rw [Hs.out]; simp)
            omega
          have HF2 := Lib.hid hF2
          have HK3 := Lib.hid hK3
          have HB3 := Lib.hid hb3
          have Hun3 := Lib.hid hun3
          clear hF2 hK2 hK3 hb3 hun3
          by_cases hx0 : x < 0
          · have he := He.out.trans (scan_free hlt Hs.out Hg.out (by rw [Hx.out]; exact hx0))
            obtain ⟨hF4, hK4⟩ := HF2.out.put k (row : Int)
            have Hfin := Lib.hid (hR.out (.returned (.tuple #[.slice (some ⟨br, 0, none⟩) m cr, .slice (some ⟨bs, 0, none⟩) m cs, .bool true])) _ (by rw [he]; exact ⟨rfl, hF4, HK3.out.trans hK4 (fun _ _ h => h)⟩))
            clear he hF4 hK4
            go_wp2
            go_ret3
            exact Hfin.out
          · obtain ⟨r', rfl⟩ : ∃ r' : Nat, x = r' := ⟨x.toNat, by omega⟩
            have hr' : r' < n := by have := Hr.out k; rw [Hx.out] at this; omega
            have hge : (0 : Int) ≤ (r' : Int) := by omega
            obtain ⟨u, hu⟩ : ∃ u, findF (gT T) m (f' + 1) r' of (seen'.set k true) = u := ⟨_, rfl⟩
            have hux : findF (gT T) m (f' + 1) (of.getD k (-1)).toNat of (seen'.set k true) = u := by rw [Hx.out]; exact hu
            have hP := find_post (gT T) m of HFi.out.len.1 Hv.out (f' + 1) r' (seen'.set k true) (by rw [List.length_set]; exact Hls.out) (by have := Hun3.out; omega)
            rw [hu] at hP
            have HU := Lib.hid hu
            have HUX := Lib.hid hux
            have HP := Lib.hid hP
            clear hu hux hP hx0
            go_wp2_with fail
            refine (Ih.out f' (by omega) r' of (seen'.set k true) _ Hun3.out hr' HF2.out HB3.out Hv.out Hr.out).mono ?_
            rw [HU.out]
            rintro e w4 ⟨rfl, hF4, hK4⟩
            cases hok : u.2.2 with
            | true =>
              have he := He.out.trans (scan_yes hlt Hs.out Hg.out (by rw [Hx.out]; omega) HUX.out hok)
              obtain ⟨z1, z2, z3, z4⟩ := hF4.at_ hlt
              obtain ⟨hF5, hK5⟩ := hF4.put k (row : Int)
              have Hfin := Lib.hid (hR.out (.returned (.tuple #[.slice (some ⟨br, 0, none⟩) m cr, .slice (some ⟨bs, 0, none⟩) m cs, .bool true])) _ (by rw [he]; exact ⟨rfl, hF5, (HK3.out.trans hK4 (fun _ _ h => h)).trans hK5 (fun _ _ h => h)⟩))
              clear he hF4 hF5 hK4 hK5 hok
              go_wp2
              go_ret3
              exact Hfin.out
            | false =>
              have he := He.out.trans (scan_no hlt Hs.out Hg.out (by rw [Hx.out]; omega) HUX.out hok)
              have h1 := (HP.out.no hok).1
              rw [h1] at he hF4
              have HE := Lib.hid he
              have hls4 : unseen u.2.1 ≤ f' := by
                have := unseen_mono (a := seen'.set k true) (b := u.2.1) (by rw [List.length_set, Hls.out, HP.out.l2]) HP.out.mono
                have := Hun3.out
                omega
              have hK5 := HK3.out.trans hK4 (fun _ _ h => h)
              clear he h1 hok hK4
              go_wp2_with fail
              go_roundg (gk - 1)
              case measure => omega
              case rel => exact ⟨k + 1, u.2.1, by omega, rfl, rfl, by go_num, hF4, hK5, by omega, Lib.hid HE.out⟩
      · obtain rfl : m = k := by omega
        have he := He.out
        rw [scan_end] at he
        have Hfin := Lib.hid (hR.out (.returned (.tuple #[.slice (some ⟨br, 0, none⟩) m cr, .slice (some ⟨bs, 0, none⟩) m cs, .bool false])) wi (by rw [he]; exact ⟨rfl, hF, hK⟩))
        clear hF hK he
        go_wp2
        go_ret3
        exact Hfin.out
end
section
open Go.RowKit

theorem and_mask {m : Nat} (h : m < 4294967296) : m &&& 4294967295 = m := by
  have := Nat.and_two_pow_sub_one_eq_mod m 32
  simp only [Nat.reducePow, Nat.reduceSub] at this
  rw [this]; exact Nat.mod_eq_of_lt h
set_option maxHeartbeats 1000000 in
theorem mul64_one (m : Nat) (hm : m ≤ 1000) (w : World) : Calls Try.prog 75 #[.int .u64 1, .int .u64 (m : Int)] w fun e w' => e = .returned (.tuple #[.int .u64 0, .int .u64 (m : Int)]) ∧ w = w' := by
  have b1 : bits .and .u64 1 4294967295 = 1 := by decide
  have b2 : bits .and .u64 (m : Int) 4294967295 = (m : Int) := by
    have := u64_and_nat m 4294967295 (by omega) (by omega)
    rw [and_mask (by omega)] at this
    exact this
  have b3 : bits .and .u64 0 4294967295 = 0 := by decide
  have w1 : IntKind.u64.wrap (m : Int) = (m : Int) := by simp [IntKind.wrap, IntKind.bits, IntKind.signed]; omega
  have h4 : (m : Int) / 4294967296 = 0 := by omega
  go_enter Try.func75, Try.ntmps75
  go_wp2
  go_ret2
  exact ⟨rfl, rfl⟩
set_option maxHeartbeats 1000000 in
theorem mul_one (m : Nat) (hm : m ≤ 1000) (w : World) : Calls Try.prog 72 #[.int .u64 1, .int .u64 (m : Int)] w fun e w' => e = .returned (.tuple #[.int .u64 0, .int .u64 (m : Int)]) ∧ w = w' := by
  go_enter Try.func72, Try.ntmps72
  go_wp2_with (go_at_call 75; refine (mul64_one m hm _).mono ?_; rintro e w' ⟨rfl, rfl⟩)
  go_ret2
  exact ⟨rfl, rfl⟩
/-- m cells, the first k of them -1, the others 0. -/
def rep1 (x : Int) (m k : Nat) : List Value := List.replicate k (.int .i64 x) ++ List.replicate (m - k) (.int .i64 0)
theorem rep1_len {x : Int} {m k : Nat} (h : k ≤ m) : (rep1 x m k).length = m := by simp [rep1]; omega
theorem rep1_splice {x : Int} {m k c : Nat} (h : k + c ≤ m) : splice (rep1 x m k) k (List.replicate c (.int .i64 x)) = rep1 x m (k + c) := by
  have h1 : (rep1 x m k).take k = List.replicate k (.int .i64 x) := by
    unfold rep1
    rw [List.take_append_of_le_length (by simp), List.take_of_length_le (by simp)]
  have h2 : (rep1 x m k).drop (k + c) = List.replicate (m - (k + c)) (.int .i64 0) := by
    unfold rep1
    rw [List.drop_append, List.drop_of_length_le (by simp), List.nil_append, List.length_replicate, List.drop_replicate]
    congr 1; omega
  unfold splice
  rw [List.length_replicate, h1, h2, ← List.append_assoc, List.replicate_append_replicate]
  rfl
theorem rep1_at {x : Int} {m k j : Nat} (hj : j < k) : (rep1 x m k)[j]? = some (.int .i64 x) := by
  unfold rep1
  rw [List.getElem?_append_left (by simpa using hj), List.getElem?_replicate, if_pos hj]
theorem infoInt8 : (Try.prog.info? 3).map (fun i => (i.zero, i.size, i.bytes)) = some (some (.int .i64 0), 1, 8) := by kernel_rfl
theorem infoIntSz : (Try.prog.info? 3).map (·.size) = some 1 := by kernel_rfl
set_option maxRecDepth 100000 in
set_option maxHeartbeats 1000000 in
theorem repeat_any (x : Int) (A : Option Addr) (c m : Nat) (hm1 : 1 ≤ m) (hm : m ≤ 1000) (w : World) (hA : SlE intE 1 w A 1 [x]) :
    Calls Try.prog 66 #[.slice A 1 c, .int .i64 (m : Int)] w fun e w' => ∃ g, e = .returned (.slice (some ⟨g, 0, none⟩) m m) ∧ w.heap.size ≤ g ∧ w'.heap[g]? = some (.cells (rep1 x m m).toArray 3 (0, 0)) ∧ Below w.heap.size w w' := by
  refine calls_cps ?_
  intro R hR
  have hg0 : (0 : Int) ≤ (m : Int) := by omega
  have cv : IntKind.u64.wrap (m : Int) = (m : Int) := by simp [IntKind.wrap, IntKind.bits, IntKind.signed]; omega
  go_enter Try.func66, Try.ntmps66
  obtain ⟨b, o, y, rfl, hbl, hx, hcell⟩ := hA.at1 (k := 0) (by omega)
  obtain rfl : x = y := by simpa using hx
  clear hx
  go_wp2_with (first
    | (go_at_call 72; refine (mul_one m hm _).mono ?_; rintro e w' ⟨rfl, rfl⟩)
    | (at_make; refine wpList_mkInt rfl (.tmp 29) (.tmp 29) _ rfl 3 Try.underlying26 infoInt8 m m rfl rfl rfl (by omega) ?_; intro w2 hw2 hg2; have hb2 : Below w.heap.size w w2 := (Below.refl _ _).grown hg2 (Nat.le_refl _) (fun k hk => by cases hk); have hc0 : w2.heap[w.heap.size]? = some (.cells (rep1 x m 0).toArray 3 (0, 0)) := hw2.trans (by simp [rep1]); have hcw : w2.cell? ⟨b, o, none⟩ = some (.int .i64 x) := (hb2.cell (p := ⟨b, o, none⟩) hbl).trans (by simpa using hcell); clear hw2 hg2)
    | (refine wpList_copy_splice rfl (.tmp 31) (.tmp 32) 26 26 rfl 3 Try.underlying26 infoIntSz (some ⟨w.heap.size, 0, none⟩) (some ⟨b, o, none⟩) m m 1 c rfl rfl w.heap.size 0 (rep1 x m 0) 3 hc0 (List.replicate 1 (.int .i64 x)) (Nat.min_eq_left hm1).symm (fun _ => ⟨rfl, ⟨b, o, none⟩, rfl, fun j v hv => by cases j with | zero => (simp at hv; subst hv; simpa [Addr.add] using hcw) | succ j => simp at hv⟩) (by simp [rep1]; omega) (by intro v hv; simp at hv; subst hv; rfl) w.heap.size w hb2 (Nat.le_refl _) ?_; intro w3 h3 hb3; have hc1 : w3.heap[w.heap.size]? = some (.cells (rep1 x m 1).toArray 3 (0, 0)) := h3.out.trans (by rw [rep1_splice (by omega)]); clear h3))
  clear hcw hc0 hb2 hcell
  go_loopw [8] (fun s8 wr => ∃ k : Nat, 1 ≤ k ∧ k ≤ m ∧ s8 = .int .i64 k ∧ wr.heap[w.heap.size]? = some (.cells (rep1 x m k).toArray 3 (0, 0)) ∧ Below w.heap.size w wr) (fun s8 _ => m - (intOf s8).toNat)
  case atStart => exact ⟨1, by omega, hm1, rfl, hc1, hb3⟩
  case round =>
    clear hc1 hb3
    obtain ⟨k, hk1, hkm, rfl, hc, hb⟩ := hrel
    obtain ⟨wi, rfl⟩ : ∃ wi : World, wi = wr := ⟨_, rfl⟩
    by_cases hlt : k < m
    · have i1 : (k : Int) ≤ (m : Int) := by omega
      have i2 : (0 : Int) ≤ (k : Int) := by omega
      have hmk : ¬ m = k := by omega
      obtain ⟨q, hq⟩ : ∃ q, Nat.min k (m - k) = q := ⟨_, rfl⟩
      have hq1 : 1 ≤ q := by rw [← hq]; exact Nat.le_min.2 ⟨hk1, by omega⟩
      have hq2 : q ≤ m - k := by rw [← hq]; exact Nat.min_le_right _ _
      have hq3 : q ≤ k := by rw [← hq]; exact Nat.min_le_left _ _
      have Hq := Lib.hid hq
      have Hc := Lib.hid hc
      have Hb := Lib.hid hb
      have z1 : IntKind.i64.wrap ((k : Int) + (q : Int)) = (k : Int) + (q : Int) := IntWalk.i64_in _ (by omega)
      clear hq hc hb
      go_wp2_with fail
      have hsrc : ∀ (W : World), W.heap[w.heap.size]? = some (.cells (rep1 x m k).toArray 3 (0, 0)) → ∀ j v, (List.replicate q (Value.int .i64 x))[j]? = some v → W.cell? ((⟨w.heap.size, 0, none⟩ : Addr).add j) = some v := fun W hcd j v hv => by
        have hj : j < q := by have := (List.getElem?_eq_some_iff.1 hv).1; simpa using this
        rw [List.getElem?_replicate, if_pos hj] at hv
        have hadd : (⟨w.heap.size, 0, none⟩ : Addr).add j = ⟨w.heap.size, j, none⟩ := by unfold Addr.add; split <;> simp_all
        rw [hadd, ← hv, cell_of_row _ _ _ _ _ (0, 0) hcd]
        simpa using rep1_at (x := x) (m := m) (show j < k by omega)
      have Hcd := Lib.hid (show wi.drew.heap[w.heap.size]? = some (.cells (rep1 x m k).toArray 3 (0, 0)) from Hc.out)
      have Hbd := Lib.hid (show Below w.heap.size w wi.drew from Hb.out.drew)
      have Hsrc := Lib.hid (hsrc wi.drew Hcd.out)
      have Hfit := Lib.hid (show k + (List.replicate q (Value.int .i64 x)).length ≤ (rep1 x m k).length by rw [List.length_replicate, rep1_len (by omega)]; omega)
      have Hone := Lib.hid (show ∀ v ∈ List.replicate q (Value.int .i64 x), v.oneCell' = true from fun v hv => by have := List.eq_of_mem_replicate hv; subst this; rfl)
      have Hn := Lib.hid (show (List.replicate q (Value.int .i64 x)).length = Nat.min k (m - k) by rw [List.length_replicate]; exact Hq.out.symm)
      clear hsrc
      go_region_held3 (fun _ => True) (trivial) (first
        | (refine step_copy_splice rfl (.tmp 41) (.tmp 44) 26 26 (by rfl) 3 Try.underlying26 infoIntSz (some ⟨w.heap.size, k, none⟩) (some ⟨w.heap.size, 0, none⟩) (m - k) (m - k) k m (by rfl) (by rfl) w.heap.size k (rep1 x m k) 3 Hcd.out (List.replicate q (.int .i64 x)) Hn.out (fun _ => ⟨rfl, ⟨w.heap.size, 0, none⟩, rfl, Hsrc.out⟩) Hfit.out Hone.out w.heap.size w Hbd.out (Nat.le_refl _) ?_; intro w3 h3 hb3))
      have hc1 : w3.heap[w.heap.size]? = some (.cells (rep1 x m (k + q)).toArray 3 (0, 0)) := h3.out.trans (by rw [rep1_splice (by omega)])
      clear h3
      go_wp2
      refine ⟨⟨k + q, by omega, by omega, ?_, hc1, hb3⟩, ?_⟩
      · simp []
      · simp [intOf]; omega
    · obtain rfl : m = k := by omega
      have Hfin := Lib.hid (hR.out (.returned (.slice (some ⟨w.heap.size, 0, none⟩) m m)) wi ⟨_, rfl, Nat.le_refl _, hc, hb⟩)
      clear hc hb
      go_wp2
      exact Hfin.out
end
section
open Go.RowKit

/-- n numbers, the first k of them 0, 1, .., the others 0. -/
def num1 (n k : Nat) : List Int := (List.range n).map fun i => if i < k then (i : Int) else 0
theorem num1_len (n k : Nat) : (num1 n k).length = n := by simp [num1]
theorem num1_zero (n : Nat) : num1 n 0 = List.replicate n 0 := by
  unfold num1
  simp only [Nat.not_lt_zero, if_false]
  rw [List.map_const']
  simp
theorem num1_full (n : Nat) : num1 n n = (List.range n).map fun (i : Nat) => (i : Int) := by
  unfold num1
  exact List.map_congr_left fun i hi => if_pos (List.mem_range.1 hi)
theorem num1_set {n k : Nat} : (num1 n k).set k (k : Int) = num1 n (k + 1) := by
  apply List.ext_getElem?
  intro a
  rw [List.getElem?_set, num1_len]
  by_cases ha : a < n
  · simp only [num1, List.getElem?_map, List.getElem?_range ha, Option.map_some]
    by_cases hka : k = a
    · subst hka; simp [ha]
    · rw [if_neg hka]
      by_cases h1 : a < k
      · rw [if_pos h1, if_pos (by omega)]
      · rw [if_neg h1, if_neg (by omega)]
  · by_cases hka : k = a
    · subst hka; simp [num1, ha]
    · simp [num1, ha, hka]
set_option maxHeartbeats 1000000 in
theorem numbers_any (n : Nat) (hn : n ≤ 1000) (w : World) : Calls Try.prog 52 #[.int .i64 (n : Int)] w fun e w' => ∃ g, e = .returned (.slice (some ⟨g, 0, none⟩) n n) ∧ w.heap.size ≤ g ∧ w'.heap[g]? = some (.cells (((List.range n).map fun (i : Nat) => (i : Int)).map (Value.int .i64)).toArray 3 (0, 0)) ∧ Below w.heap.size w w' := by
  refine calls_cps ?_
  intro R hR
  go_enter Try.func52, Try.ntmps52
  go_wp2_with (at_make; refine wpList_mkInt rfl (.tmp 5) (.tmp 5) _ rfl 3 Try.underlying26 infoInt8 n n rfl rfl rfl (by omega) ?_; intro w2 hw2 hg2; have hb2 : Below w.heap.size w w2 := (Below.refl _ _).grown hg2 (Nat.le_refl _) (fun k hk => by cases hk); have hc0 : w2.heap[w.heap.size]? = some (.cells ((num1 n 0).map (Value.int .i64)).toArray 3 (0, 0)) := hw2.trans (by rw [num1_zero]; simp); clear hw2 hg2)
  go_loopg [4, 9] n (fun gk s4 s9 wr => ∃ k : Nat, k + gk = n ∧ s9 = .int .i64 ((k : Nat) : Int) ∧ wr.heap[w.heap.size]? = some (.cells ((num1 n k).map (Value.int .i64)).toArray 3 (0, 0)) ∧ Below w.heap.size w wr)
  case atStart => exact ⟨0, by omega, rfl, hc0, hb2⟩
  case round =>
    clear hc0 hb2
    obtain ⟨k, hgk, rfl, hc, hb⟩ := hrel
    obtain ⟨wi, rfl⟩ : ∃ wi : World, wi = wr := ⟨_, rfl⟩
    by_cases hlt : k < n
    · have y0 : wi.cell? ⟨w.heap.size, k, none⟩ = some (.int .i64 ((num1 n k).getD k 0)) := by
        rw [cell_of_row _ _ _ _ _ (0, 0) hc, getD_get _ _ _ (by rw [num1_len]; exact hlt)]
        simp [num1_len, hlt]
      have y1 : wi.frozen? ⟨w.heap.size, k, none⟩ = false := by simp [World.frozen?, hc]
      have hN : (wi.setCell ⟨w.heap.size, k, none⟩ (.int .i64 (k : Int))).heap[w.heap.size]? = some (.cells ((num1 n (k + 1)).map (Value.int .i64)).toArray 3 (0, 0)) := by
        rw [← num1_set]
        simp [World.setCell, Array.getElem?_modify, hc, List.map_set]
      have HN := Lib.hid hN
      have HB := Lib.hid (hb.setCell (p := ⟨w.heap.size, k, none⟩) (Nat.le_refl _) (.int .i64 (k : Int)))
      have i1 : (k : Int) < (n : Int) := by omega
      clear hN hc hb
      go_wp2_with fail
      go_roundg (gk - 1)
      case measure => omega
      case rel => exact ⟨k + 1, by omega, by go_num, HN.out, HB.out⟩
    · obtain rfl : n = k := by omega
      rw [num1_full] at hc
      have Hfin := Lib.hid (hR.out (.returned (.slice (some ⟨w.heap.size, 0, none⟩) n n)) wi ⟨_, rfl, Nat.le_refl _, hc, hb⟩)
      clear hc hb
      go_wp2
      exact Hfin.out
end
section
open Go.RowKit

/-- Where a number is first in a list; -1: nowhere. -/
def idxL (v : Int) : List Int → Nat → Int
  | [], _ => -1
  | a :: r, k => if v = a then (k : Int) else idxL v r (k + 1)
theorem idxL_drop {v : Int} {l : List Int} {k : Nat} {x : Int} (hx : l[k]? = some x) : idxL v (l.drop k) k = if v = x then (k : Int) else idxL v (l.drop (k + 1)) (k + 1) := by
  obtain ⟨hk, rfl⟩ := List.getElem?_eq_some_iff.1 hx
  rw [List.drop_eq_getElem_cons hk, idxL]
theorem idxL_spec (v : Int) : ∀ (l : List Int) (k : Nat), (idxL v l k = -1 ∧ v ∉ l) ∨ ∃ j, idxL v l k = ((k + j : Nat) : Int) ∧ l[j]? = some v
  | [], k => .inl ⟨rfl, by simp⟩
  | a :: r, k => by
    rw [idxL]
    by_cases h : v = a
    · rw [if_pos h]; exact .inr ⟨0, by simp, by simp [h]⟩
    · rw [if_neg h]
      rcases idxL_spec v r (k + 1) with ⟨h1, h2⟩ | ⟨j, h1, h2⟩
      · exact .inl ⟨h1, by simp [h, h2]⟩
      · exact .inr ⟨j + 1, by rw [h1]; congr 1; omega, by simpa using h2⟩
set_option maxHeartbeats 1000000 in
theorem index_any (A : Option Addr) (n c : Nat) (l : List Int) (v : Int) (w : World) (hA : SlE intE 1 w A n l) (hn : n ≤ 9223372036854775807) :
    Calls Try.prog 54 #[.slice A n c, .int .i64 v] w fun e w' => e = .returned (.int .i64 (idxL v l 0)) ∧ w = w' := by
  refine calls_cps ?_
  intro R hR
  have Hl := Lib.hid hA.1
  go_enter Try.func54, Try.ntmps54
  go_wp2_with fail
  go_loop [5, 8] (fun s5 s8 => ∃ k : Nat, k ≤ n ∧ s8 = .int .i64 ((k : Nat) : Int) ∧ Hid (idxL v l 0 = idxL v (l.drop k) k)) (fun _ s8 => n - (intOf s8).toNat)
  case atStart => exact ⟨0, by omega, rfl, Lib.hid (by simp)⟩
  case round =>
    obtain ⟨k, hk, rfl, He⟩ := hrel
    by_cases hlt : k < n
    · obtain ⟨b, o, x, rfl, hbl, hx, q0⟩ := hA.at1 hlt
      have he := He.out.trans (idxL_drop hx)
      obtain ⟨t, ht⟩ : ∃ t, (v == x) = t := ⟨_, rfl⟩
      have i1 : (k : Int) < (n : Int) := by omega
      cases t with
      | true =>
        have hvx : v = x := by simpa using ht
        rw [if_pos hvx] at he
        have Hfin := Lib.hid (hR.out (.returned (.int .i64 (k : Int))) w ⟨by rw [he], rfl⟩)
        clear he hvx hx
        go_wp2
        exact Hfin.out
      | false =>
        have hvx : ¬ v = x := by simpa using ht
        rw [if_neg hvx] at he
        have HE := Lib.hid he
        clear he hvx hx
        go_wp2
        exact ⟨⟨k + 1, by omega, by go_num, Lib.hid HE.out⟩, by simp [intOf]; omega⟩
    · obtain rfl : n = k := by omega
      have he := He.out
      rw [List.drop_of_length_le (by rw [Hl.out]; exact Nat.le_refl _)] at he
      have Hfin := Lib.hid (hR.out (.returned (.int .i64 (-1))) w ⟨by rw [he]; rfl, rfl⟩)
      clear he
      go_wp2
      exact Hfin.out
end
section
open Go.RowKit

theorem elemInt : ElemOk Try.prog 26 3 1 8 := ElemOk.of (z := .int .i64 0) Try.underlying26 infoInt8 rfl (by omega)
theorem app_below1 {wc w3 : World} {o : Obj} {b : Nat} (hb : b = wc.heap.size) (hg : (wc.alloc o).grownBy w3 (some b)) : Below wc.heap.size wc w3 :=
  (below_new wc o).grown hg (by simp) (fun k hk => by injection hk with hk; omega)
set_option maxHeartbeats 1000000 in
set_option maxRecDepth 100000 in
theorem clone_any (a : Addr) (n c : Nat) (l : List Int) (w : World) (hA : SlE intE 1 w (some a) n l) (hn : n ≤ 2000) :
    Calls Try.prog 49 #[.slice (some a) n c] w fun e w' => ∃ A' c', e = .returned (.slice A' n c') ∧ w'.ownsRow w.heap.size 3 1 (.slice A' n c') n (l.flatMap intE) ∧ Below w.heap.size w w' := by
  refine calls_cps ?_
  intro R hR
  have hnil := fun (W : World) => Lib.run_eql_slice_nil (P := Try.prog) W 26 3 (some a) n c 0 0 Try.underlying26
  go_enter Try.func49, Try.ntmps49
  go_wp2_with (at_builtin; refine wpList_app rfl (.tmp 5) (.tmp 6) _ rfl elemInt w.heap.size _ _ _ rfl (own_new _ _ _ 1 0 _ (by simp) (Nat.le_refl _) (by unfold maxLen; omega)) _ _ _ _ rfl (hA.2.alloc _) (int_one _) (by unfold maxLen; omega) (by omega) (by simp) ?_; intro A3 c3 w3 ho3 hg3 _; rw [Nat.zero_add, List.nil_append] at ho3; have hb3 := app_below1 rfl hg3; clear hg3)
  exact hR.out _ _ ⟨_, _, rfl, ho3, hb3⟩
end
end Go.Proofs.Ytjdhcdoekfikpaa
