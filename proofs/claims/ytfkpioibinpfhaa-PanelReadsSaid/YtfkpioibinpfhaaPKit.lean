/-
  What the laws on panels share: the panel behind few, in its box; the value of a shape that fits.
-/
import Derived.Test.YtfkpioibinpfhaaPBests
import Derived.Test.YtfkpioibinpfhaaPMore
namespace Go.Proofs.Ytfkpioibinpfhaa
open Go.RowKit

/-- The panel p behind few: its box at b, its shapes. -/
structure Pn (w wr : World) (b : Nat) (X Y K : Int) (A1 : Option Addr) (c1 L : Nat) (s1 : List Shp) : Prop where
  sl : SlE Shp.enc 4 wr A1 L s1
  box : wr.heap[b]? = some (.cells #[.int .i64 X, .int .i64 Y, .int .i64 K, .slice A1 L c1] 24 (0, 0))
  bel : Below w.heap.size w wr
section
variable {w wr W1 : World} {b : Nat} {X Y K : Int} {A1 : Option Addr} {c1 L : Nat} {s1 : List Shp}
theorem Pn.below (t : Pn w wr b X Y K A1 c1 L s1) (hb : Below wr.heap.size wr W1) : Pn w W1 b X Y K A1 c1 L s1 :=
  ⟨t.sl.below hb, (hb.block b (Array.getElem?_eq_some_iff.1 t.box).1).trans t.box, t.bel.trans (hb.mono t.bel.size)⟩
theorem Pn.alloc (t : Pn w wr b X Y K A1 c1 L s1) (o : Obj) : Pn w (wr.alloc o) b X Y K A1 c1 L s1 := t.below (below_new _ _)
theorem Pn.lt (t : Pn w wr b X Y K A1 c1 L s1) : b < wr.heap.size := (Array.getElem?_eq_some_iff.1 t.box).1
theorem Pn.start {w1 : World} {o : Obj} {base : Nat} (ho : w1.ownsRow base 37 4 (.slice A1 L c1) L (s1.flatMap Shp.enc)) (hL : s1.length = L) (hb : Below (w.alloc o).heap.size (w.alloc o) w1) :
    Pn w (w1.alloc (.cells #[.int .i64 X, .int .i64 Y, .int .i64 K, .slice A1 L c1] 24)) w1.heap.size X Y K A1 c1 L s1 := by
  have hf : Below w.heap.size w w1 := (below_new w o).trans (hb.mono (by simp))
  exact ⟨(SlE.of_own ho hL.symm).alloc _, heap_alloc_new w1 _, hf.alloc hf.size _⟩
end
theorem val_fit {k : Int} {ss : List Shp} (hk : 0 ≤ k) {s : Shp} (hs : s ∈ ss) (hw : 1 ≤ s.W) (hh : 1 ≤ s.H) {W H : Int} (h1 : s.W ≤ W) (h2 : s.H ≤ H) : s.V ≤ val k ss W H := by
  have a1 := val_shape hk hs hw hh
  have a2 := val_wider (ss := ss) hk s.W W s.H h1
  have a3 := val_higher (ss := ss) hk W s.H H h2
  omega
end Go.Proofs.Ytfkpioibinpfhaa
