/-
  The reader's state in memory, and what a reading leaves as it was; no condition but those that each lemma states. The contract of the reader's read: it reads as the plain law says, or panics; condition: its state reads, and the sizes are a panel's.
-/
import Derived.Test.YtndcijkgaadpgaaGreatDoorUu
import Derived.Test.YtndcijkgaadpgaaGreatDoorMMem
import Derived.StillTailTactics
import Derived.Deep.RegionLaw
namespace Go.Proofs.YtndcijkgaadpgaaGreatDoor
section
open Go.RowKit

def pcE (q : Pc) : List Value := [.int .i64 q.X, .int .i64 q.Y, .int .i64 q.W, .int .i64 q.H, .int .i64 q.S]
theorem pcE_len (q : Pc) : (pcE q).length = 5 := rfl
theorem elemPc : ElemOk Tryz.prog 375 379 5 40 := ElemOk.of (z := .agg #[.int .i64 0, .int .i64 0, .int .i64 0, .int .i64 0, .int .i64 0]) Tryz.underlying375 (by kernel_rfl) rfl (by omega)
/-- All but the reader's block, the pieces' row and what is new is as it was. -/
structure Kp (p : Nat) (row : Option Nat) (W W' : World) : Prop where
  os : W'.os = W.os
  tape : W'.tape = W.tape
  output : W'.output = W.output
  size : W.heap.size ≤ W'.heap.size
  block : ∀ j, j < W.heap.size → j ≠ p → some j ≠ row → W'.heap[j]? = W.heap[j]?
section
variable {W W1 W2 : World} {p : Nat} {row : Option Nat}
theorem Kp.refl (p : Nat) (row : Option Nat) (W : World) : Kp p row W W := ⟨rfl, rfl, rfl, Nat.le_refl _, fun _ _ _ _ => rfl⟩
theorem Kp.below (h : Kp p row W W1) (hb : Below W1.heap.size W1 W2) : Kp p row W W2 :=
  ⟨hb.os.trans h.os, hb.tape.trans h.tape, hb.output.trans h.output, Nat.le_trans h.size hb.size, fun j h1 h2 h3 => (hb.block j (Nat.lt_of_lt_of_le h1 h.size)).trans (h.block j h1 h2 h3)⟩
theorem Kp.setp (h : Kp p row W W1) (i : Nat) (u : Value) : Kp p row W (W1.setCell ⟨p, i, none⟩ u) :=
  ⟨h.os, h.tape, h.output, by simpa [World.setCell] using h.size, fun j h1 h2 h3 => (Below.heap_setCell W1 _ u j (by dsimp only; exact h2)).trans (h.block j h1 h2 h3)⟩
theorem Kp.trans {row' : Option Nat} (h : Kp p row W W1) (h' : Kp p row' W1 W2) (hr : row' = none ∨ row' = row ∨ ∃ g, row' = some g ∧ W.heap.size ≤ g) : Kp p row W W2 :=
  ⟨h'.os.trans h.os, h'.tape.trans h.tape, h'.output.trans h.output, Nat.le_trans h.size h'.size, fun j h1 h2 h3 => by
    refine (h'.block j (Nat.lt_of_lt_of_le h1 h.size) h2 ?_).trans (h.block j h1 h2 h3)
    rcases hr with rfl | rfl | ⟨g, rfl, hg⟩
    · simp
    · exact h3
    · simp; omega⟩
theorem Kp.grown {row' : Option Nat} (h : Kp p row W W1) (hg : W1.grownBy W2 row') (hr : row' = none ∨ row' = row ∨ ∃ g, row' = some g ∧ W.heap.size ≤ g) : Kp p row W W2 :=
  h.trans (W2 := W2) (row' := row') ⟨hg.os, hg.tape, hg.output, hg.size, fun j h1 _ h3 => hg.block j h1 h3⟩ hr
end
theorem box_set2 {W : World} {p : Nat} {t : TypeId} {u0 u1 u2 u3 u : Value} (h : W.heap[p]? = some (.cells #[u0, u1, u2, u3] t (0, 0))) : (W.setCell ⟨p, 2, none⟩ u).heap[p]? = some (.cells #[u0, u1, u, u3] t (0, 0)) := by
  simp [World.setCell, Array.getElem?_modify, h]
theorem box_set3 {W : World} {p : Nat} {t : TypeId} {u0 u1 u2 u3 u : Value} (h : W.heap[p]? = some (.cells #[u0, u1, u2, u3] t (0, 0))) : (W.setCell ⟨p, 3, none⟩ u).heap[p]? = some (.cells #[u0, u1, u2, u] t (0, 0)) := by
  simp [World.setCell, Array.getElem?_modify, h]
structure Rdr (W : World) (p base : Nat) (k : Int) (B : Option Addr) (m d : Nat) (ss : List Shp) (A : Option Addr) (n c : Nat) (l : Cuts) (v : Value) (np : Nat) (pcs : List Pc) : Prop where
  box : rdrBox W p k B m d A n c v
  sh : SlE Shp.enc 4 W B m ss
  pl : SlE cutE 2 W A n l
  own : W.ownsRow base 379 5 v np (pcs.flatMap pcE)
  nB : 0 < m → ∀ a, B = some a → a.block < base ∧ a.block ≠ p
  nA : 0 < n → ∀ a, A = some a → a.block < base ∧ a.block ≠ p
  pb : p < base
  bs : base ≤ W.heap.size
  cnt : np = pcs.length
  nc : n ≤ c
  cb : c ≤ 9223372036854775807
section
variable {W W1 W2 : World} {p base : Nat} {k : Int} {B A A1 : Option Addr} {m d n c n1 c1 np : Nat} {ss : List Shp} {l l1 : Cuts} {v v1 : Value} {pcs : List Pc}
theorem Rdr.plt (t : Rdr W p base k B m d ss A n c l v np pcs) : p < W.heap.size := Nat.lt_of_lt_of_le t.pb t.bs
theorem Rdr.below (t : Rdr W p base k B m d ss A n c l v np pcs) (hb : Below W.heap.size W W1) : Rdr W1 p base k B m d ss A n c l v np pcs :=
  ⟨(hb.block p t.plt).trans t.box, t.sh.below hb, t.pl.below hb, ownsRow_below t.own hb, t.nB, t.nA, t.pb, Nat.le_trans t.bs hb.size, t.cnt, t.nc, t.cb⟩
theorem Rdr.adv (t : Rdr W p base k B m d ss A n c l v np pcs) (hp : SlE cutE 2 W A1 n1 l1) (hA : 0 < n1 → ∀ a, A1 = some a → a.block < base ∧ a.block ≠ p) (hn : n1 ≤ c1) (hc : c1 ≤ 9223372036854775807) :
    Rdr (W.setCell ⟨p, 2, none⟩ (.slice A1 n1 c1)) p base k B m d ss A1 n1 c1 l1 v np pcs :=
  ⟨box_set2 t.box, ⟨t.sh.1, t.sh.2.setCell (fun h a ha => (t.nB h a ha).2) _⟩, ⟨hp.1, hp.2.setCell (fun h a ha => (hA h a ha).2) _⟩, ownsRow_setCell_below t.own (a := ⟨p, 2, none⟩) t.pb _, t.nB, hA, t.pb, by simpa [World.setCell] using t.bs, t.cnt, hn, hc⟩
/-- One piece more: the row has grown, its new value lies in the reader. -/
theorem Rdr.push (t : Rdr W p base k B m d ss A n c l v np pcs) {q : Pc} (ho : W1.ownsRow base 379 5 v1 (np + 1) (pcs.flatMap pcE ++ pcE q)) (hg : W.grownBy W1 v.ownBlock) :
    Rdr (W1.setCell ⟨p, 3, none⟩ v1) p base k B m d ss A n c l v1 (np + 1) (pcs ++ [q]) := by
  have hlt : ∀ g, v.ownBlock = some g → base ≤ g := fun g hg => (t.own.lt g hg).1
  have hpn : some p ≠ v.ownBlock := fun e => by have := hlt p e.symm; have := t.pb; omega
  refine ⟨box_set3 ((hg.block p t.plt hpn).trans t.box), ⟨t.sh.1, (t.sh.2.grown hg fun h a ha e => ?_).setCell (fun h a ha => (t.nB h a ha).2) _⟩, ⟨t.pl.1, (t.pl.2.grown hg fun h a ha e => ?_).setCell (fun h a ha => (t.nA h a ha).2) _⟩,
    ownsRow_setCell_below (by simpa using ho) (a := ⟨p, 3, none⟩) t.pb _, t.nB, t.nA, t.pb, by have := t.bs; have := hg.size; simp [World.setCell]; omega, by simp [t.cnt], t.nc, t.cb⟩
  · have := hlt _ e.symm; have := (t.nB h a ha).1; omega
  · have := hlt _ e.symm; have := (t.nA h a ha).1; omega
end
/-- What a drawn region reads of the reader's box and of the cut's. -/
structure Rb (W : World) (p bc : Nat) (k : Int) (B : Option Addr) (m d : Nat) (A : Option Addr) (n c : Nat) (v : Value) (cc a : Int) : Prop where
  box : rdrBox W p k B m d A n c v
  cbox : W.heap[bc]? = some (.cells #[.int .i64 cc, .int .i64 a] 453 (0, 0))
section
variable {W W1 : World} {p bc : Nat} {k cc a : Int} {B A : Option Addr} {m d n c : Nat} {v : Value}
theorem Rb.below (t : Rb W p bc k B m d A n c v cc a) (hb : Below W.heap.size W W1) : Rb W1 p bc k B m d A n c v cc a :=
  ⟨(hb.block p (Array.getElem?_eq_some_iff.1 t.box).1).trans t.box, (hb.block bc (Array.getElem?_eq_some_iff.1 t.cbox).1).trans t.cbox⟩
theorem Rb.alloc (t : Rb W p bc k B m d A n c v cc a) (o : Obj) : Rb (W.alloc o) p bc k B m d A n c v cc a := t.below (below_new _ _)
theorem Rb.drew (t : Rb W p bc k B m d A n c v cc a) : Rb W.drew p bc k B m d A n c v cc a := t.below ((Below.refl _ _).drew)
theorem Rb.grown (t : Rb W p bc k B m d A n c v cc a) {row : Option Nat} (hg : W.grownBy W1 row) (h1 : some p ≠ row) (h2 : some bc ≠ row) : Rb W1 p bc k B m d A n c v cc a :=
  ⟨(hg.block p (Array.getElem?_eq_some_iff.1 t.box).1 h1).trans t.box, (hg.block bc (Array.getElem?_eq_some_iff.1 t.cbox).1 h2).trans t.cbox⟩
theorem Rb.S (t : Rb W p bc k B m d A n c v cc a) : W.cell? ⟨p, 3, none⟩ = some v ∧ W.cell? ⟨p, 0, none⟩ = some (.int .i64 k) ∧ W.cell? ⟨bc, 1, none⟩ = some (.int .i64 a) :=
  ⟨(cells4 t.box).2.2.2.1, (cells4 t.box).1, (cells2 t.cbox).2.1⟩
end
/-- The rest of a plan behind its first cut. -/
theorem SlE.tail {W : World} {b o n c : Nat} {x : Int × Int} {r : Cuts} (h : SlE cutE 2 W (some ⟨b, o, none⟩) n (x :: r)) (hn : n ≤ c) : SlE cutE 2 W (if c = 1 then some ⟨b, o, none⟩ else some ⟨b, o + 2, none⟩) (n - 1) r := by
  have hn1 : n = r.length + 1 := by simpa using h.1
  refine ⟨by omega, by rw [flat_length cutE_len]; omega, fun h0 => ?_⟩
  rw [if_neg (by omega)]
  obtain ⟨b', o', hA, hb, hc⟩ := h.2.2 (by omega)
  simp only [Option.some.injEq, Addr.mk.injEq, and_true] at hA
  obtain ⟨rfl, rfl⟩ := hA
  refine ⟨b, o + 2, rfl, hb, fun j u hu => ?_⟩
  have := hc (j + 2) u (by
    rw [List.flatMap_cons, List.getElem?_append_right (by simp [cutE_len])]
    simpa [cutE_len] using hu)
  rw [show o + 2 + j = o + (j + 2) by omega]
  exact this
end
section
open Go.RowKit

/-- What a reading leaves. -/
def RdSome (W W' : World) (p base : Nat) (k : Int) (B : Option Addr) (m d : Nat) (ss : List Shp) (v : Value) (np : Nat) (pcs : List Pc) (l' : Cuts) (pc' : List Pc) : Prop :=
  ∃ A' c' v', Rdr W' p base k B m d ss A' l'.length c' l' v' (np + pc'.length) (pcs ++ pc') ∧ (v'.ownBlock = v.ownBlock ∨ ∃ g, v'.ownBlock = some g ∧ W.heap.size ≤ g) ∧ Kp p v.ownBlock W W'
def RdPost (W : World) (p base : Nat) (k : Int) (B : Option Addr) (m d : Nat) (ss : List Shp) (v : Value) (np : Nat) (pcs : List Pc) (res : Option (Cuts × List Pc)) (e : Ending) (W' : World) : Prop :=
  (∃ l' pc', res = some (l', pc') ∧ e = .returned (.tuple #[]) ∧ RdSome W W' p base k B m d ss v np pcs l' pc') ∨ (res = none ∧ e = .panicked malP ∧ Kp p v.ownBlock W W')
set_option maxRecDepth 100000 in
set_option maxHeartbeats 4000000 in
theorem read_any (k : Int) (hk0 : 0 ≤ k) (hk8 : k ≤ 8) (ss : List Shp) (hss : ss.length ≤ 16) (hok : ∀ s ∈ ss, (1 ≤ s.W ∧ s.W ≤ 64) ∧ (1 ≤ s.H ∧ s.H ≤ 64) ∧ 0 ≤ s.V ∧ s.V ≤ 1000000) (p base : Nat) (B : Option Addr) (m d : Nat) :
    ∀ (f : Nat) (x y wd ht : Int) (A : Option Addr) (n c : Nat) (l : Cuts) (v : Value) (np : Nat) (pcs : List Pc) (w : World), l.length < f → Rdr w p base k B m d ss A n c l v np pcs → 1 ≤ wd → wd ≤ 64 → 1 ≤ ht → ht ≤ 64 → 0 ≤ x → x ≤ 10000 → 0 ≤ y → y ≤ 10000 → x + wd ≤ 64 → y + ht ≤ 64 → np + l.length ≤ 10000 →
      Calls Tryz.prog 314 #[.pointer (some ⟨p, 0, none⟩), .int .i64 x, .int .i64 y, .int .i64 wd, .int .i64 ht] w (RdPost w p base k B m d ss v np pcs (rd k ss f x y wd ht l)) := by
  intro f
  induction f with
  | zero => intro x y wd ht A n c l v np pcs w h; omega
  | succ f ih =>
    intro x y wd ht A n c l v np pcs w hl hr hw1 hw2 hh1 hh2 hx0 hx1 hy0 hy1 hxw hyh hnp
    refine calls_cps ?_
    intro R hR
    have Hno := Lib.hid (show rd k ss (f + 1) x y wd ht l = none → ∀ W', Kp p v.ownBlock w W' → R (.panicked malP) W' from fun h W' hk => hR.out _ _ (.inr ⟨h, rfl, hk⟩))
    have Hyes := Lib.hid (show ∀ l' pc', rd k ss (f + 1) x y wd ht l = some (l', pc') → ∀ W', RdSome w W' p base k B m d ss v np pcs l' pc' → R (.returned (.tuple #[])) W' from fun l' pc' h W' hs => hR.out _ _ (.inl ⟨l', pc', h, rfl, hs⟩))
    clear hR
    have Ih := Lib.hid ih
    clear ih
    have Hok := Lib.hid hok
    obtain ⟨q0, q1, q2, q3, q4⟩ := cells4 hr.box
    have hn := hr.pl.1
    cases l with
    | nil =>
      obtain rfl : n = 0 := by simpa using hn
      have Hgo := Lib.hid (Hno.out (by simp [rd]) w (Kp.refl _ _ _))
      clear Hno Hyes Ih Hok hn
      go_enter Tryz.func314, Tryz.ntmps314
      go_wp2_with (go_at_call 315; refine (must_no _).mono ?_; rintro e w' ⟨rfl, rfl⟩)
      exact ⟨rfl, Hgo.out⟩
    | cons ca r =>
      obtain ⟨cc, a⟩ := ca
      have hn1 : n = r.length + 1 := by simpa using hn
      obtain ⟨b, o, s, rfl, hbl, hs, c0, c1⟩ := hr.pl.at2 (k := 0) (by omega)
      simp only [List.getElem?_cons_zero, Option.some.injEq] at hs
      subst hs
      dsimp only at c0 c1
      rw [Nat.zero_mul, Nat.add_zero] at c0 c1
      have hnc := hr.nc
      have hcb := hr.cb
      obtain ⟨A1, hA1⟩ : ∃ A1, (if c = 1 then some (⟨b, o, none⟩ : Addr) else some ⟨b, o + 2, none⟩) = A1 := ⟨_, rfl⟩
      have htl := SlE.tail hr.pl hnc
      rw [hA1] at htl
      have HA1 := Lib.hid hA1
      have hnA : 0 < n - 1 → ∀ a, A1 = some a → a.block < base ∧ a.block ≠ p := fun _ a ha => by
        have := hr.nA (by omega) _ rfl
        rw [← hA1] at ha
        split at ha <;> (injection ha with ha; subst ha; exact this)
      have hr2 := (hr.adv htl hnA (n1 := n - 1) (c1 := c - 1) (by omega) (by omega))
      have hlen : r.length < f := by simpa using hl
      have hpb := hr.pb
      have hpz := hr.plt
      have hbs := hr.bs
      have i0 : (0 : Int) < (n : Int) := by omega
      have i0n : 0 < n := by omega
      have Hn1 := Lib.hid hn1
      have hr3 := hr2.below (below_new _ (.cells #[.int .i64 cc, .int .i64 a] 453))
      have hbc := heap_alloc_new (w.setCell ⟨p, 2, none⟩ (.slice A1 (n - 1) (c - 1))) (.cells #[.int .i64 cc, .int .i64 a] 453)
      rw [show (w.setCell ⟨p, 2, none⟩ (.slice A1 (n - 1) (c - 1))).heap.size = w.heap.size by simp [World.setCell]] at hbc
      have hk2 : Kp p v.ownBlock w ((w.setCell ⟨p, 2, none⟩ (.slice A1 (n - 1) (c - 1))).alloc (.cells #[.int .i64 cc, .int .i64 a] 453)) := ((Kp.refl p v.ownBlock w).setp 2 _).below (below_new _ _)
      have hz2 : w.heap.size + 1 = ((w.setCell ⟨p, 2, none⟩ (.slice A1 (n - 1) (c - 1))).alloc (.cells #[.int .i64 cc, .int .i64 a] 453)).heap.size := by simp [World.setCell]
      have Hz2 := Lib.hid hz2
      clear hA1 hn hn1 htl hnA hz2 hr2
      go_enter Tryz.func314, Tryz.ntmps314
      go_upto_region 3 with (go_at_call 315; refine (must_ok _).mono ?_; rintro e w' ⟨rfl, rfl⟩)
      simp only [HA1.out]
      clear q0 q1 q2 q3 q4 c0 c1 hbl
      generalize ((w.setCell ⟨p, 2, none⟩ (.slice A1 (n - 1) (c - 1))).alloc (.cells #[.int .i64 cc, .int .i64 a] 453)) = w2 at *
      obtain ⟨e0, e1, e2⟩ := cells2 hbc
      have hbz : w.heap.size < w2.heap.size := by rw [← Hz2.out]; omega
      have hrn : rd k ss (f + 1) x y wd ht ((cc, a) :: r) = rd k ss (f + 1) x y wd ht ((cc, a) :: r) := rfl
      have Hfin0 := Lib.hid (show ∀ W' pc' v' A' c' l', rd k ss (f + 1) x y wd ht ((cc, a) :: r) = some (l', pc') → Rdr W' p base k B m d ss A' l'.length c' l' v' (np + pc'.length) (pcs ++ pc') → (v'.ownBlock = v.ownBlock ∨ ∃ g, v'.ownBlock = some g ∧ w.heap.size ≤ g) → Kp p v.ownBlock w W' → R (.returned (.tuple #[])) W' from fun W' pc' v' A' c' l' h1 h2 h3 h4 => Hyes.out l' pc' h1 W' ⟨A', c', v', h2, h3, h4⟩)
      clear hrn Hyes
      by_cases k0 : cc = 0
      · subst k0
        by_cases ka : a = 0
        · subst ka
          have Hgo := Lib.hid (Hfin0.out w2 [] v A1 (c - 1) r (by simp [rd]) (by
            have h := hr3
            rw [show n - 1 = r.length by rw [Hn1.out]; simp] at h
            simpa using h) (.inl rfl) hk2)
          clear Hfin0 Hno Ih Hok
          go_wp2_with (go_at_call 315; refine (must_ok _).mono ?_; rintro e w' ⟨rfl, rfl⟩)
          go_end0
          exact Hgo.out
        · have ka' : (a == 0) = false := by simp [ka]
          have Hgo := Lib.hid (Hno.out (by simp [rd, ka]) w2 hk2)
          clear Hfin0 Hno Ih Hok ka
          go_wp2_with (go_at_call 315; refine (must_no _).mono ?_; rintro e w' ⟨rfl, rfl⟩)
          exact ⟨rfl, Hgo.out⟩
      by_cases k1 : cc = 1
      · subst k1
        by_cases hsh : 0 ≤ a ∧ a < (m : Int)
        · obtain ⟨i, rfl⟩ : ∃ i : Nat, a = (i : Int) := ⟨a.toNat, by omega⟩
          obtain ⟨s, hs⟩ : ∃ s, ss[i]? = some s := ⟨ss[i]'(by rw [← hr3.sh.1]; omega), List.getElem?_eq_getElem _⟩
          have hrs := rdSh_eq hs wd ht false
          have hm9 : m ≤ 9223372036854775807 := by rw [hr3.sh.1]; omega
          have Hs := Lib.hid hs
          clear hs hsh
          go_wp2_with fail
          refine (shape_ok p k B m d A1 (n - 1) (c - 1) v ss i s _ hr3.box hr3.sh Hs.out hm9).mono ?_
          rintro e w3 ⟨rfl, hb3⟩
          have hr4 := hr3.below hb3
          have hb3' := hb3
          obtain ⟨b1, hb1⟩ : ∃ b, (s.W == wd) = b := ⟨_, rfl⟩
          obtain ⟨b2, hb2⟩ : ∃ b, (s.H == ht) = b := ⟨_, rfl⟩
          have Hb := Lib.hid (show rdAs wd ht s false = (b1 && b2) by simp [rdAs, hb1, hb2])
          rw [Hb.out] at hrs
          have Hrs := Lib.hid hrs
          clear hrs
          cases b1 <;> cases b2
          case true.true =>
            go_wp2_with (go_at_call 315; refine (must_ok _).mono ?_; rintro e w' ⟨rfl, rfl⟩)
            clear hb3 Ih Hno Hok
            generalize hw4 : w3.alloc _ = w4
            have hr5 : Rdr w4 p base k B m d ss A1 (n - 1) (c - 1) r v np pcs := by rw [← hw4]; exact hr4.below (below_new _ _)
            have hkp : Kp p v.ownBlock w w4 := by rw [← hw4]; exact (hk2.below hb3').below (below_new _ _)
            have hcb4 : w4.heap[w.heap.size]? = some (.cells #[.int .i64 1, .int .i64 i] 453 (0, 0)) := by rw [← hw4]; exact (Below.heap_alloc _ _ _ (Nat.lt_of_lt_of_le hbz hb3'.size)).trans ((hb3'.block _ hbz).trans hbc)
            have hz4 : w.heap.size < w4.heap.size := (Array.getElem?_eq_some_iff.1 hcb4).1
            have hp4 : p < w4.heap.size := hr5.plt
            obtain ⟨q0, q1, q2, q3, q4⟩ := cells4 hr5.box
            obtain ⟨e0, e1, e2⟩ := cells2 hcb4
            have hlt : ∀ g, v.ownBlock = some g → base ≤ g := fun g hg => (hr5.own.lt g hg).1
            have hnp9 : np + 1 ≤ 10000 := by simp at hnp; omega
            have hbs4 := hr5.bs
            have hpn : some p ≠ v.ownBlock := fun e => by have := hlt p e.symm; omega
            have hcn : some w.heap.size ≠ v.ownBlock := fun e => by have := (hr.own.lt _ e.symm).2; omega
            have hrb : Rb w4 p w.heap.size k B m d A1 (n - 1) (c - 1) v 1 (i : Int) := ⟨hr5.box, hcb4⟩
            have Hlt := Lib.hid hlt
            clear hw4 hlt hr4 hr3 hk2 hbc hb3' q1 q2 e0 e2 hb1 hb2
            go_region_law (first
              | (refine step_app rfl (.tmp 66) (.tmp 74) _ rfl elemPc base v np (pcs.flatMap pcE) rfl (by repeat (first | with_reducible exact hr5.own | with_reducible refine ownsRow_drewS ?_ | with_reducible refine World.ownsRow.alloc ?_ _)) _ 1 1 (#[Value.int .i64 x, .int .i64 y, .int .i64 wd, .int .i64 ht, .int .i64 i] : Array Value).toList rfl (by first | ((with_reducible refine Sl.newAt _ _ _ 5 1 ?_ ?_) <;> (simp; done)) | ((with_reducible refine Sl.drew (Sl.newAt _ _ _ 5 1 ?_ ?_)) <;> (simp; done))) (by intro u hu; simp at hu; rcases hu with rfl | rfl | rfl | rfl | rfl <;> rfl) (by unfold maxLen; omega) (by omega) (by first | omega | (simp; done) | (simp; omega)) ?_; intro A5 c5 w5 ho5 hg5 hor5; have hrb5 : Rb w5 p w.heap.size k B m d A1 (n - 1) (c - 1) v 1 (i : Int) := Rb.grown (by repeat (first | with_reducible exact hrb | with_reducible refine Rb.drew ?_ | with_reducible refine Rb.alloc ?_ _)) hg5 hpn hcn; obtain ⟨z0, z1, z2, z3, z4⟩ := cells4 hrb5.box))
            all_goals
              have hpu := (hr5.below (by repeat (first | with_reducible exact Below.refl _ _ | with_reducible refine Below.drew ?_ | with_reducible refine Below.alloc ?_ (by first | (simp; done) | (simp; omega)) _))).push (q := ⟨x, y, wd, ht, (i : Int)⟩) ho5 hg5
              have hkq := (((hkp.below (by repeat (first | with_reducible exact Below.refl _ _ | with_reducible refine Below.drew ?_ | with_reducible refine Below.alloc ?_ (by first | (simp; done) | (simp; omega)) _))).grown hg5 (.inr (.inl rfl))).setp 3 (.slice A5 (np + 1) c5))
              have Hgo := Lib.hid (Hfin0.out _ [⟨x, y, wd, ht, (i : Int)⟩] (.slice A5 (np + 1) c5) A1 (c - 1) r (by have := Hrs.out; simp at this; simp [rd, this]) (by
                have h := hpu
                rw [show n - 1 = r.length by rw [Hn1.out]; simp] at h
                exact h) (by rcases hor5 with h | h
                             · exact .inl h
                             · exact .inr ⟨_, h, Nat.le_trans hkp.size (by first | (simp; done) | (simp; omega))⟩) hkq)
              clear hpu hkq Hfin0
              go_wp2
              go_end0
              exact Hgo.out
          all_goals
            have Hgo := Lib.hid (fun W' => Hno.out (by have := Hrs.out; simp at this; simp [rd, this]) W')
            clear Hfin0 Hno Ih Hok
            go_wp2_with (go_at_call 315; refine (must_no _).mono ?_; rintro e w' ⟨rfl, rfl⟩)
            exact ⟨rfl, Hgo.out _ ((hk2.below hb3).below (below_new _ _))⟩
        · have hrs : rdSh ss a wd ht false = false := rdSh_out (by rw [← hr3.sh.1]; exact hsh)
          have hm9 : m ≤ 9223372036854775807 := by rw [hr3.sh.1]; omega
          have Hgo := Lib.hid (fun W' => Hno.out (by simp [rd, hrs]) W')
          clear Hfin0 Hno Ih Hok hrs
          go_wp2_with fail
          refine (shape_no p k B m d A1 (n - 1) (c - 1) v a _ hr3.box hsh hm9).mono ?_
          rintro e w3 ⟨rfl, hb3⟩
          exact ⟨rfl, Hgo.out _ (hk2.below hb3)⟩
      by_cases k2 : cc = 2
      · subst k2
        by_cases hsh : 0 ≤ a ∧ a < (m : Int)
        · obtain ⟨i, rfl⟩ : ∃ i : Nat, a = (i : Int) := ⟨a.toNat, by omega⟩
          obtain ⟨s, hs⟩ : ∃ s, ss[i]? = some s := ⟨ss[i]'(by rw [← hr3.sh.1]; omega), List.getElem?_eq_getElem _⟩
          have hrs := rdSh_eq hs wd ht true
          have hm9 : m ≤ 9223372036854775807 := by rw [hr3.sh.1]; omega
          have Hs := Lib.hid hs
          clear hs hsh
          go_wp2_with fail
          refine (shape_ok p k B m d A1 (n - 1) (c - 1) v ss i s _ hr3.box hr3.sh Hs.out hm9).mono ?_
          rintro e w3 ⟨rfl, hb3⟩
          have hr4 := hr3.below hb3
          have hb3' := hb3
          obtain ⟨b0, hb0⟩ : ∃ b, s.T = b := ⟨_, rfl⟩
          obtain ⟨b1, hb1⟩ : ∃ b, (s.H == wd) = b := ⟨_, rfl⟩
          obtain ⟨b2, hb2⟩ : ∃ b, (s.W == ht) = b := ⟨_, rfl⟩
          have Hb := Lib.hid (show rdAs wd ht s true = (b0 && b1 && b2) by simp [rdAs, hb0, hb1, hb2])
          rw [Hb.out] at hrs
          have Hrs := Lib.hid hrs
          clear hrs
          cases b0 <;> cases b1 <;> cases b2
          case true.true.true =>
            go_wp2_with (go_at_call 315; refine (must_ok _).mono ?_; rintro e w' ⟨rfl, rfl⟩)
            clear hb3 Ih Hno Hok
            generalize hw4 : w3.alloc _ = w4
            have hr5 : Rdr w4 p base k B m d ss A1 (n - 1) (c - 1) r v np pcs := by rw [← hw4]; exact hr4.below (below_new _ _)
            have hkp : Kp p v.ownBlock w w4 := by rw [← hw4]; exact (hk2.below hb3').below (below_new _ _)
            have hcb4 : w4.heap[w.heap.size]? = some (.cells #[.int .i64 2, .int .i64 i] 453 (0, 0)) := by rw [← hw4]; exact (Below.heap_alloc _ _ _ (Nat.lt_of_lt_of_le hbz hb3'.size)).trans ((hb3'.block _ hbz).trans hbc)
            have hz4 : w.heap.size < w4.heap.size := (Array.getElem?_eq_some_iff.1 hcb4).1
            have hp4 : p < w4.heap.size := hr5.plt
            obtain ⟨q0, q1, q2, q3, q4⟩ := cells4 hr5.box
            obtain ⟨e0, e1, e2⟩ := cells2 hcb4
            have hlt : ∀ g, v.ownBlock = some g → base ≤ g := fun g hg => (hr5.own.lt g hg).1
            have hnp9 : np + 1 ≤ 10000 := by simp at hnp; omega
            have hbs4 := hr5.bs
            have hpn : some p ≠ v.ownBlock := fun e => by have := hlt p e.symm; omega
            have hcn : some w.heap.size ≠ v.ownBlock := fun e => by have := (hr.own.lt _ e.symm).2; omega
            have hrb : Rb w4 p w.heap.size k B m d A1 (n - 1) (c - 1) v 2 (i : Int) := ⟨hr5.box, hcb4⟩
            have Hlt := Lib.hid hlt
            clear hw4 hlt hr4 hr3 hk2 hbc hb3' q1 q2 e0 e2 hb1 hb2
            go_region_law (first
              | (refine step_app rfl (.tmp 103) (.tmp 111) _ rfl elemPc base v np (pcs.flatMap pcE) rfl (by repeat (first | with_reducible exact hr5.own | with_reducible refine ownsRow_drewS ?_ | with_reducible refine World.ownsRow.alloc ?_ _)) _ 1 1 (#[Value.int .i64 x, .int .i64 y, .int .i64 wd, .int .i64 ht, .int .i64 i] : Array Value).toList rfl (by first | ((with_reducible refine Sl.newAt _ _ _ 5 1 ?_ ?_) <;> (simp; done)) | ((with_reducible refine Sl.drew (Sl.newAt _ _ _ 5 1 ?_ ?_)) <;> (simp; done))) (by intro u hu; simp at hu; rcases hu with rfl | rfl | rfl | rfl | rfl <;> rfl) (by unfold maxLen; omega) (by omega) (by first | omega | (simp; done) | (simp; omega)) ?_; intro A5 c5 w5 ho5 hg5 hor5; have hrb5 : Rb w5 p w.heap.size k B m d A1 (n - 1) (c - 1) v 2 (i : Int) := Rb.grown (by repeat (first | with_reducible exact hrb | with_reducible refine Rb.drew ?_ | with_reducible refine Rb.alloc ?_ _)) hg5 hpn hcn; obtain ⟨z0, z1, z2, z3, z4⟩ := cells4 hrb5.box))
            all_goals
              have hpu := (hr5.below (by repeat (first | with_reducible exact Below.refl _ _ | with_reducible refine Below.drew ?_ | with_reducible refine Below.alloc ?_ (by first | (simp; done) | (simp; omega)) _))).push (q := ⟨x, y, wd, ht, (i : Int)⟩) ho5 hg5
              have hkq := (((hkp.below (by repeat (first | with_reducible exact Below.refl _ _ | with_reducible refine Below.drew ?_ | with_reducible refine Below.alloc ?_ (by first | (simp; done) | (simp; omega)) _))).grown hg5 (.inr (.inl rfl))).setp 3 (.slice A5 (np + 1) c5))
              have Hgo := Lib.hid (Hfin0.out _ [⟨x, y, wd, ht, (i : Int)⟩] (.slice A5 (np + 1) c5) A1 (c - 1) r (by have := Hrs.out; simp at this; simp [rd, this]) (by
                have h := hpu
                rw [show n - 1 = r.length by rw [Hn1.out]; simp] at h
                exact h) (by rcases hor5 with h | h
                             · exact .inl h
                             · exact .inr ⟨_, h, Nat.le_trans hkp.size (by first | (simp; done) | (simp; omega))⟩) hkq)
              clear hpu hkq Hfin0
              go_wp2
              go_end0
              exact Hgo.out
          all_goals
            have Hgo := Lib.hid (fun W' => Hno.out (by have := Hrs.out; simp at this; simp [rd, this]) W')
            clear Hfin0 Hno Ih Hok
            go_wp2_with (go_at_call 315; refine (must_no _).mono ?_; rintro e w' ⟨rfl, rfl⟩)
            exact ⟨rfl, Hgo.out _ ((hk2.below hb3).below (below_new _ _))⟩
        · have hrs : rdSh ss a wd ht true = false := rdSh_out (by rw [← hr3.sh.1]; exact hsh)
          have hm9 : m ≤ 9223372036854775807 := by rw [hr3.sh.1]; omega
          have Hgo := Lib.hid (fun W' => Hno.out (by simp [rd, hrs]) W')
          clear Hfin0 Hno Ih Hok hrs
          go_wp2_with fail
          refine (shape_no p k B m d A1 (n - 1) (c - 1) v a _ hr3.box hsh hm9).mono ?_
          rintro e w3 ⟨rfl, hb3⟩
          exact ⟨rfl, Hgo.out _ (hk2.below hb3)⟩
      by_cases k3 : cc = 3
      · subst k3
        by_cases ha : 1 ≤ a ∧ a < wd
        · obtain ⟨ha1, ha2⟩ := ha
          have hcz : some w.heap.size ≠ v.ownBlock := fun e => by have := (hr.own.lt _ e.symm).2; omega
          have hcp : w.heap.size ≠ p := by omega
          have hnp9 : np + r.length ≤ 10000 := by simp at hnp; omega
          cases h1 : rd k ss f x y a ht r with
          | none =>
            have Hgo := Lib.hid (Hno.out (by simp [rd, ha1, ha2, h1]) )
            have H1 := Lib.hid h1
            clear Hno Hfin0 h1 hok
            go_wp2_with (go_at_call 315; refine (must_ok _).mono ?_; rintro e w' ⟨rfl, rfl⟩)
            refine (Ih.out x y a ht A1 (n - 1) (c - 1) r v np pcs w2 hlen hr3 (by omega) (by omega) (by omega) (by omega) hx0 hx1 hy0 hy1 (by omega) (by omega) hnp9).mono ?_
            rw [H1.out]
            rintro e w3 (⟨l', pc', h, _⟩ | ⟨_, rfl, hk3⟩)
            · cases h
            · exact ⟨rfl, Hgo.out _ (hk2.trans hk3 (.inr (.inl rfl)))⟩
          | some u =>
            obtain ⟨l1, p1⟩ := u
            have H1 := Lib.hid h1
            have hl1 := (rd_Rd k ss f _ _ _ _ r l1 p1 h1).len
            clear h1 hok
            go_wp2_with (go_at_call 315; refine (must_ok _).mono ?_; rintro e w' ⟨rfl, rfl⟩)
            refine (Ih.out x y a ht A1 (n - 1) (c - 1) r v np pcs w2 hlen hr3 (by omega) (by omega) (by omega) (by omega) hx0 hx1 hy0 hy1 (by omega) (by omega) hnp9).mono ?_
            rw [H1.out]
            rintro e w3 (⟨l', pc', h, rfl, A3, c3, v3, hr5, hov, hk3⟩ | ⟨h, _⟩)
            rotate_left
            · cases h
            simp only [Option.some.injEq, Prod.mk.injEq] at h
            obtain ⟨rfl, rfl⟩ := h
            have hk4 := hk2.trans hk3 (.inr (.inl rfl))
            have hcb3 := (hk3.block _ hbz hcp hcz).trans hbc
            obtain ⟨q0, q1, q2, q3, q4⟩ := cells4 hr5.box
            obtain ⟨z0, z1, z2⟩ := cells2 hcb3
            have hov2 : v3.ownBlock = v.ownBlock ∨ ∃ g, v3.ownBlock = some g ∧ w.heap.size ≤ g := by
              rcases hov with h | ⟨g, h, hg⟩
              · exact .inl h
              · exact .inr ⟨g, h, by omega⟩
            have y1 : IntKind.i64.wrap (wd - a) = wd - a := IntWalk.i64_in _ (by omega)
            have y2 : IntKind.i64.wrap (wd - a - k) = wd - a - k := IntWalk.i64_in _ (by omega)
            clear hr3 hk3 hbc e0 e1 e2 q1 q2 q3 z0
            go_wp2_with fail
            go_quiet (fail)
            clear y1 y2
            generalize hw4 : w3.drewN _ = w4
            have hb4 : Below w3.heap.size w3 w4 := by rw [← hw4]; exact ⟨rfl, rfl, rfl, Nat.le_refl _, fun _ _ => rfl⟩
            have hz4 : w4.heap.size = w3.heap.size := by rw [← hw4]; rfl
            have hr6 := hr5.below hb4
            have hk6 := hk4.below hb4
            have hcb4 := (hb4.block _ (Array.getElem?_eq_some_iff.1 hcb3).1).trans hcb3
            have Hz4 := Lib.hid hz4
            clear hw4 hb4 hr5 hk4 hcb3 q0 q4 z1 z2 hz4
            obtain ⟨q0, q1, q2, q3, q4⟩ := cells4 hr6.box
            obtain ⟨z0, z1, z2⟩ := cells2 hcb4
            by_cases hrest : 1 ≤ wd - a - k
            · have hnpl : np + p1.length + l1.length ≤ 10000 := by omega
              cases h2 : rd k ss f (x + a + k) y (wd - a - k) ht l1 with
              | none =>
                have Hgo := Lib.hid (Hno.out (by simp [rd, ha1, ha2, H1.out, hrest, h2]))
                have H2 := Lib.hid h2
                clear Hno Hfin0 h2
                go_wp2_with fail
                have y1 : IntKind.i64.wrap (x + a) = x + a := IntWalk.i64_in _ (by omega)
                have y2 : IntKind.i64.wrap (x + a + k) = x + a + k := IntWalk.i64_in _ (by omega)
                go_still_tail 13, (by kernel_rfl)
                clear y1 y2
                go_wp2_with fail
                refine (Ih.out (x + a + k) y (wd - a - k) ht A3 l1.length c3 l1 v3 (np + p1.length) (pcs ++ p1) w4.drew (by omega) (hr6.below ((Below.refl _ _).drew)) (by omega) (by omega) (by omega) (by omega) (by omega) (by omega) (by omega) (by omega) (by omega) (by omega) hnpl).mono ?_
                rw [H2.out]
                rintro e w7 (⟨l', pc', h, _⟩ | ⟨_, rfl, hk7⟩)
                · cases h
                · exact ⟨rfl, Hgo.out _ ((hk6.below ((Below.refl _ _).drew)).trans hk7 (.inr hov2))⟩
              | some u2 =>
                obtain ⟨l2, p2⟩ := u2
                have H2 := Lib.hid h2
                have Hrd := Lib.hid (show rd k ss (f + 1) x y wd ht ((3, a) :: r) = some (l2, p1 ++ p2) by simp [rd, ha1, ha2, H1.out, hrest, h2])
                clear Hno h2
                go_wp2_with fail
                have y1 : IntKind.i64.wrap (x + a) = x + a := IntWalk.i64_in _ (by omega)
                have y2 : IntKind.i64.wrap (x + a + k) = x + a + k := IntWalk.i64_in _ (by omega)
                go_still_tail 13, (by kernel_rfl)
                clear y1 y2
                go_wp2_with fail
                refine (Ih.out (x + a + k) y (wd - a - k) ht A3 l1.length c3 l1 v3 (np + p1.length) (pcs ++ p1) w4.drew (by omega) (hr6.below ((Below.refl _ _).drew)) (by omega) (by omega) (by omega) (by omega) (by omega) (by omega) (by omega) (by omega) (by omega) (by omega) hnpl).mono ?_
                rw [H2.out]
                rintro e w7 (⟨l', pc', h, rfl, A7, c7, v7, hr7, hov7, hk7⟩ | ⟨h, _⟩)
                rotate_left
                · cases h
                simp only [Option.some.injEq, Prod.mk.injEq] at h
                obtain ⟨rfl, rfl⟩ := h
                have hk8 := (hk6.below ((Below.refl _ _).drew)).trans hk7 (.inr hov2)
                have hov8 : v7.ownBlock = v.ownBlock ∨ ∃ g, v7.ownBlock = some g ∧ w.heap.size ≤ g := by
                  rcases hov7 with h | ⟨g, h, hg⟩
                  · rw [h]; exact hov2
                  · exact .inr ⟨g, h, Nat.le_trans hk6.size hg⟩
                have Hgo := Lib.hid (Hfin0.out w7 (p1 ++ p2) v7 A7 c7 l2 Hrd.out (by
                  have h := hr7
                  rw [Nat.add_assoc, ← List.length_append, List.append_assoc] at h
                  exact h) hov8 hk8)
                clear Hfin0
                go_wp2
                go_end0
                exact Hgo.out
            · have Hgo := Lib.hid (Hfin0.out w4 p1 v3 A3 c3 l1 (by simp [rd, ha1, ha2, H1.out, hrest]) hr6 hov2 hk6)
              clear Hno Hfin0
              go_wp2
              go_end0
              exact Hgo.out
        · have Hgo := Lib.hid (Hno.out (by simp [rd, ha]) w2 hk2)
          clear Hfin0 Hno Ih Hok
          by_cases ha1 : 1 ≤ a
          · have ha2 : ¬ a < wd := fun h => ha ⟨ha1, h⟩
            clear ha
            go_wp2_with (go_at_call 315; refine (must_no _).mono ?_; rintro e w' ⟨rfl, rfl⟩)
            exact ⟨rfl, Hgo.out⟩
          · clear ha
            go_wp2_with (go_at_call 315; refine (must_no _).mono ?_; rintro e w' ⟨rfl, rfl⟩)
            exact ⟨rfl, Hgo.out⟩
      by_cases k4 : cc = 4
      · subst k4
        by_cases ha : 1 ≤ a ∧ a < ht
        · obtain ⟨ha1, ha2⟩ := ha
          have hcz : some w.heap.size ≠ v.ownBlock := fun e => by have := (hr.own.lt _ e.symm).2; omega
          have hcp : w.heap.size ≠ p := by omega
          have hnp9 : np + r.length ≤ 10000 := by simp at hnp; omega
          cases h1 : rd k ss f x y wd a r with
          | none =>
            have Hgo := Lib.hid (Hno.out (by simp [rd, ha1, ha2, h1]) )
            have H1 := Lib.hid h1
            clear Hno Hfin0 h1 hok
            go_wp2_with (go_at_call 315; refine (must_ok _).mono ?_; rintro e w' ⟨rfl, rfl⟩)
            refine (Ih.out x y wd a A1 (n - 1) (c - 1) r v np pcs w2 hlen hr3 (by omega) (by omega) (by omega) (by omega) hx0 hx1 hy0 hy1 (by omega) (by omega) hnp9).mono ?_
            rw [H1.out]
            rintro e w3 (⟨l', pc', h, _⟩ | ⟨_, rfl, hk3⟩)
            · cases h
            · exact ⟨rfl, Hgo.out _ (hk2.trans hk3 (.inr (.inl rfl)))⟩
          | some u =>
            obtain ⟨l1, p1⟩ := u
            have H1 := Lib.hid h1
            have hl1 := (rd_Rd k ss f _ _ _ _ r l1 p1 h1).len
            clear h1 hok
            go_wp2_with (go_at_call 315; refine (must_ok _).mono ?_; rintro e w' ⟨rfl, rfl⟩)
            refine (Ih.out x y wd a A1 (n - 1) (c - 1) r v np pcs w2 hlen hr3 (by omega) (by omega) (by omega) (by omega) hx0 hx1 hy0 hy1 (by omega) (by omega) hnp9).mono ?_
            rw [H1.out]
            rintro e w3 (⟨l', pc', h, rfl, A3, c3, v3, hr5, hov, hk3⟩ | ⟨h, _⟩)
            rotate_left
            · cases h
            simp only [Option.some.injEq, Prod.mk.injEq] at h
            obtain ⟨rfl, rfl⟩ := h
            have hk4 := hk2.trans hk3 (.inr (.inl rfl))
            have hcb3 := (hk3.block _ hbz hcp hcz).trans hbc
            obtain ⟨q0, q1, q2, q3, q4⟩ := cells4 hr5.box
            obtain ⟨z0, z1, z2⟩ := cells2 hcb3
            have hov2 : v3.ownBlock = v.ownBlock ∨ ∃ g, v3.ownBlock = some g ∧ w.heap.size ≤ g := by
              rcases hov with h | ⟨g, h, hg⟩
              · exact .inl h
              · exact .inr ⟨g, h, by omega⟩
            have y1 : IntKind.i64.wrap (ht - a) = ht - a := IntWalk.i64_in _ (by omega)
            have y2 : IntKind.i64.wrap (ht - a - k) = ht - a - k := IntWalk.i64_in _ (by omega)
            clear hr3 hk3 hbc e0 e1 e2 q1 q2 q3 z0
            go_wp2_with fail
            go_quiet (fail)
            clear y1 y2
            generalize hw4 : w3.drewN _ = w4
            have hb4 : Below w3.heap.size w3 w4 := by rw [← hw4]; exact ⟨rfl, rfl, rfl, Nat.le_refl _, fun _ _ => rfl⟩
            have hz4 : w4.heap.size = w3.heap.size := by rw [← hw4]; rfl
            have hr6 := hr5.below hb4
            have hk6 := hk4.below hb4
            have hcb4 := (hb4.block _ (Array.getElem?_eq_some_iff.1 hcb3).1).trans hcb3
            have Hz4 := Lib.hid hz4
            clear hw4 hb4 hr5 hk4 hcb3 q0 q4 z1 z2 hz4
            obtain ⟨q0, q1, q2, q3, q4⟩ := cells4 hr6.box
            obtain ⟨z0, z1, z2⟩ := cells2 hcb4
            by_cases hrest : 1 ≤ ht - a - k
            · have hnpl : np + p1.length + l1.length ≤ 10000 := by omega
              cases h2 : rd k ss f x (y + a + k) wd (ht - a - k) l1 with
              | none =>
                have Hgo := Lib.hid (Hno.out (by simp [rd, ha1, ha2, H1.out, hrest, h2]))
                have H2 := Lib.hid h2
                clear Hno Hfin0 h2
                go_wp2_with fail
                have y1 : IntKind.i64.wrap (y + a) = y + a := IntWalk.i64_in _ (by omega)
                have y2 : IntKind.i64.wrap (y + a + k) = y + a + k := IntWalk.i64_in _ (by omega)
                go_still_tail 13, (by kernel_rfl)
                clear y1 y2
                go_wp2_with fail
                refine (Ih.out x (y + a + k) wd (ht - a - k) A3 l1.length c3 l1 v3 (np + p1.length) (pcs ++ p1) w4.drew (by omega) (hr6.below ((Below.refl _ _).drew)) (by omega) (by omega) (by omega) (by omega) (by omega) (by omega) (by omega) (by omega) (by omega) (by omega) hnpl).mono ?_
                rw [H2.out]
                rintro e w7 (⟨l', pc', h, _⟩ | ⟨_, rfl, hk7⟩)
                · cases h
                · exact ⟨rfl, Hgo.out _ ((hk6.below ((Below.refl _ _).drew)).trans hk7 (.inr hov2))⟩
              | some u2 =>
                obtain ⟨l2, p2⟩ := u2
                have H2 := Lib.hid h2
                have Hrd := Lib.hid (show rd k ss (f + 1) x y wd ht ((4, a) :: r) = some (l2, p1 ++ p2) by simp [rd, ha1, ha2, H1.out, hrest, h2])
                clear Hno h2
                go_wp2_with fail
                have y1 : IntKind.i64.wrap (y + a) = y + a := IntWalk.i64_in _ (by omega)
                have y2 : IntKind.i64.wrap (y + a + k) = y + a + k := IntWalk.i64_in _ (by omega)
                go_still_tail 13, (by kernel_rfl)
                clear y1 y2
                go_wp2_with fail
                refine (Ih.out x (y + a + k) wd (ht - a - k) A3 l1.length c3 l1 v3 (np + p1.length) (pcs ++ p1) w4.drew (by omega) (hr6.below ((Below.refl _ _).drew)) (by omega) (by omega) (by omega) (by omega) (by omega) (by omega) (by omega) (by omega) (by omega) (by omega) hnpl).mono ?_
                rw [H2.out]
                rintro e w7 (⟨l', pc', h, rfl, A7, c7, v7, hr7, hov7, hk7⟩ | ⟨h, _⟩)
                rotate_left
                · cases h
                simp only [Option.some.injEq, Prod.mk.injEq] at h
                obtain ⟨rfl, rfl⟩ := h
                have hk8 := (hk6.below ((Below.refl _ _).drew)).trans hk7 (.inr hov2)
                have hov8 : v7.ownBlock = v.ownBlock ∨ ∃ g, v7.ownBlock = some g ∧ w.heap.size ≤ g := by
                  rcases hov7 with h | ⟨g, h, hg⟩
                  · rw [h]; exact hov2
                  · exact .inr ⟨g, h, Nat.le_trans hk6.size hg⟩
                have Hgo := Lib.hid (Hfin0.out w7 (p1 ++ p2) v7 A7 c7 l2 Hrd.out (by
                  have h := hr7
                  rw [Nat.add_assoc, ← List.length_append, List.append_assoc] at h
                  exact h) hov8 hk8)
                clear Hfin0
                go_wp2
                go_end0
                exact Hgo.out
            · have Hgo := Lib.hid (Hfin0.out w4 p1 v3 A3 c3 l1 (by simp [rd, ha1, ha2, H1.out, hrest]) hr6 hov2 hk6)
              clear Hno Hfin0
              go_wp2
              go_end0
              exact Hgo.out
        · have Hgo := Lib.hid (Hno.out (by simp [rd, ha]) w2 hk2)
          clear Hfin0 Hno Ih Hok
          by_cases ha1 : 1 ≤ a
          · have ha2 : ¬ a < ht := fun h => ha ⟨ha1, h⟩
            clear ha
            go_wp2_with (go_at_call 315; refine (must_no _).mono ?_; rintro e w' ⟨rfl, rfl⟩)
            exact ⟨rfl, Hgo.out⟩
          · clear ha
            go_wp2_with (go_at_call 315; refine (must_no _).mono ?_; rintro e w' ⟨rfl, rfl⟩)
            exact ⟨rfl, Hgo.out⟩
      have Hgo := Lib.hid (Hno.out (by simp [rd, k0, k1, k2, k3, k4]) w2 hk2)
      have g0 : (cc == 0) = false := by simp [k0]
      have g1 : (cc == 1) = false := by simp [k1]
      have g2 : (cc == 2) = false := by simp [k2]
      have g3 : (cc == 3) = false := by simp [k3]
      have g4 : (cc == 4) = false := by simp [k4]
      clear Hfin0 Hno Ih Hok k0 k1 k2 k3 k4
      go_wp2_with (go_at_call 315; refine (must_no _).mono ?_; rintro e w' ⟨rfl, rfl⟩)
      exact ⟨rfl, Hgo.out⟩
end
end Go.Proofs.YtndcijkgaadpgaaGreatDoor
