/-
  The reader's state in memory, and what a reading leaves as it was; no condition but those that each lemma states.
-/
import Derived.Test.YtfkpioibinpfhaaPMust
import Derived.Test.YtfkpioibinpfhaaTblR
namespace Go.Proofs.Ytfkpioibinpfhaa
open Go.RowKit

def pcE (q : Pc) : List Value := [.int .i64 q.X, .int .i64 q.Y, .int .i64 q.W, .int .i64 q.H, .int .i64 q.S]
theorem pcE_len (q : Pc) : (pcE q).length = 5 := rfl
theorem elemPc : ElemOk Try.prog 55 59 5 40 := ElemOk.of (z := .agg #[.int .i64 0, .int .i64 0, .int .i64 0, .int .i64 0, .int .i64 0]) Try.underlying55 (by kernel_rfl) rfl (by omega)
/-- All but the reader's block, the pieces' row and what is new is as it was. -/
structure Kp (p : Nat) (row : Option Nat) (W W' : World) : Prop where
  os : W'.os = W.os
  tape : W'.tape = W.tape
  output : W'.output = W.output
  size : W.heap.size ≤ W'.heap.size
  block : ∀ j, j < W.heap.size → j ≠ p → some j ≠ row → W'.heap[j]? = W.heap[j]?
section
variable {W W1 W2 : World} {p : Nat} {row : Option Nat}
theorem Kp.refl (p : Nat) (row : Option Nat) (W : World) : Kp p row W W := ⟨rfl, rfl, rfl, Nat.le_refl _, fun _ _ _ _ => rfl⟩
theorem Kp.below (h : Kp p row W W1) (hb : Below W1.heap.size W1 W2) : Kp p row W W2 :=
  ⟨hb.os.trans h.os, hb.tape.trans h.tape, hb.output.trans h.output, Nat.le_trans h.size hb.size, fun j h1 h2 h3 => (hb.block j (Nat.lt_of_lt_of_le h1 h.size)).trans (h.block j h1 h2 h3)⟩
theorem Kp.setp (h : Kp p row W W1) (i : Nat) (u : Value) : Kp p row W (W1.setCell ⟨p, i, none⟩ u) :=
  ⟨h.os, h.tape, h.output, by simpa [World.setCell] using h.size, fun j h1 h2 h3 => (Below.heap_setCell W1 _ u j (by dsimp only; exact h2)).trans (h.block j h1 h2 h3)⟩
theorem Kp.trans {row' : Option Nat} (h : Kp p row W W1) (h' : Kp p row' W1 W2) (hr : row' = none ∨ row' = row ∨ ∃ g, row' = some g ∧ W.heap.size ≤ g) : Kp p row W W2 :=
  ⟨h'.os.trans h.os, h'.tape.trans h.tape, h'.output.trans h.output, Nat.le_trans h.size h'.size, fun j h1 h2 h3 => by
    refine (h'.block j (Nat.lt_of_lt_of_le h1 h.size) h2 ?_).trans (h.block j h1 h2 h3)
    rcases hr with rfl | rfl | ⟨g, rfl, hg⟩
    · simp
    · exact h3
    · simp; omega⟩
theorem Kp.grown {row' : Option Nat} (h : Kp p row W W1) (hg : W1.grownBy W2 row') (hr : row' = none ∨ row' = row ∨ ∃ g, row' = some g ∧ W.heap.size ≤ g) : Kp p row W W2 :=
  h.trans (W2 := W2) (row' := row') ⟨hg.os, hg.tape, hg.output, hg.size, fun j h1 _ h3 => hg.block j h1 h3⟩ hr
end
theorem box_set2 {W : World} {p : Nat} {t : TypeId} {u0 u1 u2 u3 u : Value} (h : W.heap[p]? = some (.cells #[u0, u1, u2, u3] t (0, 0))) : (W.setCell ⟨p, 2, none⟩ u).heap[p]? = some (.cells #[u0, u1, u, u3] t (0, 0)) := by
  simp [World.setCell, Array.getElem?_modify, h]
theorem box_set3 {W : World} {p : Nat} {t : TypeId} {u0 u1 u2 u3 u : Value} (h : W.heap[p]? = some (.cells #[u0, u1, u2, u3] t (0, 0))) : (W.setCell ⟨p, 3, none⟩ u).heap[p]? = some (.cells #[u0, u1, u2, u] t (0, 0)) := by
  simp [World.setCell, Array.getElem?_modify, h]
structure Rdr (W : World) (p base : Nat) (k : Int) (B : Option Addr) (m d : Nat) (ss : List Shp) (A : Option Addr) (n c : Nat) (l : Cuts) (v : Value) (np : Nat) (pcs : List Pc) : Prop where
  box : rdrBox W p k B m d A n c v
  sh : SlE Shp.enc 4 W B m ss
  pl : SlE cutE 2 W A n l
  own : W.ownsRow base 59 5 v np (pcs.flatMap pcE)
  nB : 0 < m → ∀ a, B = some a → a.block < base ∧ a.block ≠ p
  nA : 0 < n → ∀ a, A = some a → a.block < base ∧ a.block ≠ p
  pb : p < base
  bs : base ≤ W.heap.size
  cnt : np = pcs.length
  nc : n ≤ c
  cb : c ≤ 9223372036854775807
section
variable {W W1 W2 : World} {p base : Nat} {k : Int} {B A A1 : Option Addr} {m d n c n1 c1 np : Nat} {ss : List Shp} {l l1 : Cuts} {v v1 : Value} {pcs : List Pc}
theorem Rdr.plt (t : Rdr W p base k B m d ss A n c l v np pcs) : p < W.heap.size := Nat.lt_of_lt_of_le t.pb t.bs
theorem Rdr.below (t : Rdr W p base k B m d ss A n c l v np pcs) (hb : Below W.heap.size W W1) : Rdr W1 p base k B m d ss A n c l v np pcs :=
  ⟨(hb.block p t.plt).trans t.box, t.sh.below hb, t.pl.below hb, ownsRow_below t.own hb, t.nB, t.nA, t.pb, Nat.le_trans t.bs hb.size, t.cnt, t.nc, t.cb⟩
theorem Rdr.adv (t : Rdr W p base k B m d ss A n c l v np pcs) (hp : SlE cutE 2 W A1 n1 l1) (hA : 0 < n1 → ∀ a, A1 = some a → a.block < base ∧ a.block ≠ p) (hn : n1 ≤ c1) (hc : c1 ≤ 9223372036854775807) :
    Rdr (W.setCell ⟨p, 2, none⟩ (.slice A1 n1 c1)) p base k B m d ss A1 n1 c1 l1 v np pcs :=
  ⟨box_set2 t.box, ⟨t.sh.1, t.sh.2.setCell (fun h a ha => (t.nB h a ha).2) _⟩, ⟨hp.1, hp.2.setCell (fun h a ha => (hA h a ha).2) _⟩, ownsRow_setCell_below t.own (a := ⟨p, 2, none⟩) t.pb _, t.nB, hA, t.pb, by simpa [World.setCell] using t.bs, t.cnt, hn, hc⟩
/-- One piece more: the row has grown, its new value lies in the reader. -/
theorem Rdr.push (t : Rdr W p base k B m d ss A n c l v np pcs) {q : Pc} (ho : W1.ownsRow base 59 5 v1 (np + 1) (pcs.flatMap pcE ++ pcE q)) (hg : W.grownBy W1 v.ownBlock) :
    Rdr (W1.setCell ⟨p, 3, none⟩ v1) p base k B m d ss A n c l v1 (np + 1) (pcs ++ [q]) := by
  have hlt : ∀ g, v.ownBlock = some g → base ≤ g := fun g hg => (t.own.lt g hg).1
  have hpn : some p ≠ v.ownBlock := fun e => by have := hlt p e.symm; have := t.pb; omega
  refine ⟨box_set3 ((hg.block p t.plt hpn).trans t.box), ⟨t.sh.1, (t.sh.2.grown hg fun h a ha e => ?_).setCell (fun h a ha => (t.nB h a ha).2) _⟩, ⟨t.pl.1, (t.pl.2.grown hg fun h a ha e => ?_).setCell (fun h a ha => (t.nA h a ha).2) _⟩,
    ownsRow_setCell_below (by simpa using ho) (a := ⟨p, 3, none⟩) t.pb _, t.nB, t.nA, t.pb, by have := t.bs; have := hg.size; simp [World.setCell]; omega, by simp [t.cnt], t.nc, t.cb⟩
  · have := hlt _ e.symm; have := (t.nB h a ha).1; omega
  · have := hlt _ e.symm; have := (t.nA h a ha).1; omega
end
/-- What a drawn region reads of the reader's box and of the cut's. -/
structure Rb (W : World) (p bc : Nat) (k : Int) (B : Option Addr) (m d : Nat) (A : Option Addr) (n c : Nat) (v : Value) (cc a : Int) : Prop where
  box : rdrBox W p k B m d A n c v
  cbox : W.heap[bc]? = some (.cells #[.int .i64 cc, .int .i64 a] 81 (0, 0))
section
variable {W W1 : World} {p bc : Nat} {k cc a : Int} {B A : Option Addr} {m d n c : Nat} {v : Value}
theorem Rb.below (t : Rb W p bc k B m d A n c v cc a) (hb : Below W.heap.size W W1) : Rb W1 p bc k B m d A n c v cc a :=
  ⟨(hb.block p (Array.getElem?_eq_some_iff.1 t.box).1).trans t.box, (hb.block bc (Array.getElem?_eq_some_iff.1 t.cbox).1).trans t.cbox⟩
theorem Rb.alloc (t : Rb W p bc k B m d A n c v cc a) (o : Obj) : Rb (W.alloc o) p bc k B m d A n c v cc a := t.below (below_new _ _)
theorem Rb.drew (t : Rb W p bc k B m d A n c v cc a) : Rb W.drew p bc k B m d A n c v cc a := t.below ((Below.refl _ _).drew)
theorem Rb.grown (t : Rb W p bc k B m d A n c v cc a) {row : Option Nat} (hg : W.grownBy W1 row) (h1 : some p ≠ row) (h2 : some bc ≠ row) : Rb W1 p bc k B m d A n c v cc a :=
  ⟨(hg.block p (Array.getElem?_eq_some_iff.1 t.box).1 h1).trans t.box, (hg.block bc (Array.getElem?_eq_some_iff.1 t.cbox).1 h2).trans t.cbox⟩
theorem Rb.S (t : Rb W p bc k B m d A n c v cc a) : W.cell? ⟨p, 3, none⟩ = some v ∧ W.cell? ⟨p, 0, none⟩ = some (.int .i64 k) ∧ W.cell? ⟨bc, 1, none⟩ = some (.int .i64 a) :=
  ⟨(cells4 t.box).2.2.2.1, (cells4 t.box).1, (cells2 t.cbox).2.1⟩
end
/-- The rest of a plan behind its first cut. -/
theorem SlE.tail {W : World} {b o n c : Nat} {x : Int × Int} {r : Cuts} (h : SlE cutE 2 W (some ⟨b, o, none⟩) n (x :: r)) (hn : n ≤ c) : SlE cutE 2 W (if c = 1 then some ⟨b, o, none⟩ else some ⟨b, o + 2, none⟩) (n - 1) r := by
  have hn1 : n = r.length + 1 := by simpa using h.1
  refine ⟨by omega, by rw [flat_length cutE_len]; omega, fun h0 => ?_⟩
  rw [if_neg (by omega)]
  obtain ⟨b', o', hA, hb, hc⟩ := h.2.2 (by omega)
  simp only [Option.some.injEq, Addr.mk.injEq, and_true] at hA
  obtain ⟨rfl, rfl⟩ := hA
  refine ⟨b, o + 2, rfl, hb, fun j u hu => ?_⟩
  have := hc (j + 2) u (by
    rw [List.flatMap_cons, List.getElem?_append_right (by simp [cutE_len])]
    simpa [cutE_len] using hu)
  rw [show o + 2 + j = o + (j + 2) by omega]
  exact this
end Go.Proofs.Ytfkpioibinpfhaa
