/-
  Plain: entries in double entry, their bytes, a disk that may go down, a book; an entry that is done the other way round takes the balances back. A frame that names the blocks that may turn; no condition but those that each lemma states. A disk of the book as its cells; Disk.ready, act, Append, Sync, Cut, Arm, Restart, NewDisk; no condition but that the cells hold a disk.
-/
import Derived.Test.YtndcijkgaadpgaaGreatDoorMMem
import Derived.Deep.OwnRows
import Derived.Laws.OwnMore
namespace Go.Proofs.YtndcijkgaadpgaaGreatDoor
section
/-- A move: from, to, item, how much. -/
structure Mv where
  f : ByteArray
  t : ByteArray
  i : ByteArray
  q : Int
/-- An account and an item. -/
abbrev Pl := ByteArray × ByteArray
/-- What a move adds to a place. -/
def mvA (m : Mv) (p : Pl) : Int := (if (m.t, m.i) = p then m.q else 0) - (if (m.f, m.i) = p then m.q else 0)
def enA (e : List Mv) (p : Pl) : Int := (e.map fun m => mvA m p).sum
def balE (E : List (List Mv)) (p : Pl) : Int := (E.map fun e => enA e p).sum
def swMv (m : Mv) : Mv := ⟨m.t, m.f, m.i, m.q⟩
def revE (e : List Mv) : List Mv := (e.map swMv).reverse
theorem mvA_sw (m : Mv) (p : Pl) : mvA (swMv m) p = -mvA m p := by
  unfold mvA swMv
  dsimp only
  omega
theorem enA_app (a b : List Mv) (p : Pl) : enA (a ++ b) p = enA a p + enA b p := by
  unfold enA
  rw [List.map_append, List.sum_append]
theorem enA_cons (m : Mv) (b : List Mv) (p : Pl) : enA (m :: b) p = mvA m p + enA b p := by
  unfold enA
  rw [List.map_cons, List.sum_cons]
theorem enA_snoc (m : Mv) (b : List Mv) (p : Pl) : enA (b ++ [m]) p = enA b p + mvA m p := by
  rw [enA_app, enA_cons]
  show _ + (_ + 0) = _
  omega
theorem enA_rev (e : List Mv) (p : Pl) : enA (revE e) p = -enA e p := by
  induction e with
  | nil => rfl
  | cons m e ih =>
    have h : revE (m :: e) = revE e ++ [swMv m] := by unfold revE; rw [List.map_cons, List.reverse_cons]
    rw [h, enA_app, ih, enA_cons, enA_cons, mvA_sw]
    show -enA e p + (-mvA m p + 0) = -(mvA m p + enA e p)
    omega
theorem balE_snoc (E : List (List Mv)) (e : List Mv) (p : Pl) : balE (E ++ [e]) p = balE E p + enA e p := by
  unfold balE
  rw [List.map_append, List.sum_append, List.map_singleton, List.sum_singleton]
/-- The balances behind the first k entries, all others taken back from the last one on. -/
def backE (E : List (List Mv)) (k : Nat) : List (List Mv) := E ++ ((E.drop k).map revE).reverse
theorem balE_back (E : List (List Mv)) (p : Pl) : ∀ d k, k + d = E.length → balE (backE E k) p = balE (E.take k) p
  | 0, k, h => by
    have : E.drop k = [] := List.drop_eq_nil_of_le (by omega)
    unfold backE
    rw [this, List.map_nil, List.reverse_nil, List.append_nil, List.take_of_length_le (by omega)]
  | d + 1, k, h => by
    have hk : k < E.length := by omega
    have hd : E.drop k = E[k] :: E.drop (k + 1) := List.drop_eq_getElem_cons hk
    have hb : backE E k = backE E (k + 1) ++ [revE E[k]] := by
      unfold backE
      rw [hd, List.map_cons, List.reverse_cons, List.append_assoc]
    have ht : E.take (k + 1) = E.take k ++ [E[k]] := List.take_succ_eq_append_getElem hk
    rw [hb, balE_snoc, balE_back E p d (k + 1) (by omega), ht, balE_snoc, enA_rev]
    omega
theorem backE_succ {E : List (List Mv)} {k : Nat} (hk : k < E.length) : backE E k = backE E (k + 1) ++ [revE E[k]] := by
  have hd : E.drop k = E[k] :: E.drop (k + 1) := List.drop_eq_getElem_cons hk
  unfold backE
  rw [hd, List.map_cons, List.reverse_cons, List.append_assoc]
theorem backE_len (E : List (List Mv)) {k : Nat} (hk : k ≤ E.length) : (backE E k).length = 2 * E.length - k := by
  unfold backE
  rw [List.length_append, List.length_reverse, List.length_map, List.length_drop]
  omega
/-- The greatest quantity. -/
def mxQ : Int := 1099511627776
/-- Whether an account is outside. -/
def outB (a : ByteArray) : Bool := [111, 117, 116].isPrefixOf a.data.toList
/-- A balance that may be: within the bounds, and not below 0 but outside. -/
def OkBal (p : Pl) (n : Int) : Prop := -mxQ ≤ n ∧ n ≤ mxQ ∧ (n < 0 → outB p.1 = true)
/-- A journal each of whose beginnings may be. -/
def Jour (E : List (List Mv)) : Prop := ∀ k p, k ≤ E.length → OkBal p (balE (E.take k) p)
theorem Jour.nil : Jour [] := by
  intro k p _
  have : balE (([] : List (List Mv)).take k) p = 0 := by rw [List.take_nil]; rfl
  rw [this]
  exact ⟨by decide, by decide, fun h => absurd h (by decide)⟩
theorem Jour.now {E : List (List Mv)} (h : Jour E) (p : Pl) : OkBal p (balE E p) := by
  have := h E.length p (Nat.le_refl _)
  rwa [List.take_length] at this
theorem Jour.snoc {E : List (List Mv)} {e : List Mv} (h : Jour E) (he : ∀ p, OkBal p (balE E p + enA e p)) : Jour (E ++ [e]) := by
  intro k p hk
  rw [List.length_append, List.length_singleton] at hk
  rcases Nat.lt_or_ge E.length k with h1 | h1
  · rw [List.take_of_length_le (by rw [List.length_append, List.length_singleton]; omega), balE_snoc]
    exact he p
  · rw [List.take_append_of_le_length h1]
    exact h k p h1
/-- The next entry taken back may be. -/
theorem Jour.back {E : List (List Mv)} (h : Jour E) {k : Nat} (hk : k < E.length) (p : Pl) : OkBal p (balE (backE E (k + 1)) p + enA (revE E[k]) p) := by
  have h1 := balE_back E p (E.length - k) k (by omega)
  rw [backE_succ hk, balE_snoc] at h1
  rw [h1]
  exact h k p (by omega)

/-! names and entries -/
def lowB (c : UInt8) : Bool := decide (97 ≤ c.toNat) && decide (c.toNat ≤ 122)
def digB (c : UInt8) : Bool := decide (48 ≤ c.toNat) && decide (c.toNat ≤ 57)
/-- The bytes of a name; first: whether the first one is still to come. -/
def nmL : Bool → List UInt8 → Bool
  | _, [] => true
  | b, c :: r => (lowB c || (!b && digB c)) && nmL false r
def nameB (s : ByteArray) : Bool := decide (1 ≤ s.size) && decide (s.size ≤ 12) && nmL true s.data.toList
def mvOk (m : Mv) : Bool := nameB m.f && nameB m.t && nameB m.i && !decide (m.f = m.t) && decide (1 ≤ m.q) && decide (m.q ≤ 1000000000)
def enOk (l : List Mv) : Bool := l.all mvOk && decide (1 ≤ l.length) && decide (l.length ≤ 32)
theorem mvOk_sw {m : Mv} (h : mvOk m = true) : mvOk (swMv m) = true := by
  unfold mvOk at *
  unfold swMv
  simp only [Bool.and_eq_true, decide_eq_true_eq, Bool.not_eq_true', decide_eq_false_iff_not] at h ⊢
  obtain ⟨⟨⟨⟨⟨a, b⟩, c⟩, d⟩, e⟩, f⟩ := h
  exact ⟨⟨⟨⟨⟨b, a⟩, c⟩, fun h => d h.symm⟩, e⟩, f⟩
theorem enOk_rev {e : List Mv} (h : enOk e = true) : enOk (revE e) = true := by
  unfold enOk at *
  unfold revE
  simp only [Bool.and_eq_true, decide_eq_true_eq, List.all_eq_true, List.length_reverse, List.length_map] at h ⊢
  refine ⟨⟨fun m hm => ?_, h.1.2⟩, h.2⟩
  rw [List.mem_reverse, List.mem_map] at hm
  obtain ⟨x, hx, rfl⟩ := hm
  exact mvOk_sw (h.1.1 x hx)
/-- What moves touch. -/
def plcs (l : List Mv) : List Pl := l.flatMap fun m => [(m.f, m.i), (m.t, m.i)]
theorem plcs_cons (m : Mv) (l : List Mv) : plcs (m :: l) = (m.f, m.i) :: (m.t, m.i) :: plcs l := rfl
theorem enA_off {l : List Mv} {p : Pl} (h : p ∉ plcs l) : enA l p = 0 := by
  induction l with
  | nil => rfl
  | cons m l ih =>
    rw [plcs_cons] at h
    simp only [List.mem_cons, not_or] at h
    rw [enA_cons, ih h.2.2]
    unfold mvA
    rw [if_neg (fun e => h.2.1 e.symm), if_neg (fun e => h.1 e.symm)]
    rfl
/-- Why an entry is refused: the walk over its places. -/
def refW (b : Pl → Int) (l : List Mv) : List Pl → Int → Int
  | [], e => e
  | p :: r, e => if mxQ < b p + enA l p ∨ b p + enA l p < -mxQ then 5 else refW b l r (if b p + enA l p < 0 ∧ outB p.1 = false then 10 else e)
def refE (b : Pl → Int) (l : List Mv) : Int := refW b l (plcs l) 0
theorem refW_0 {b : Pl → Int} {l : List Mv} : ∀ {r : List Pl} {e : Int}, refW b l r e = 0 → e = 0 ∧ ∀ p ∈ r, OkBal p (b p + enA l p)
  | [], e, h => ⟨h, fun p hp => by cases hp⟩
  | p :: r, e, h => by
    unfold refW at h
    split at h
    · cases h
    · rename_i hn
      obtain ⟨h1, h2⟩ := refW_0 h
      split at h1
      · cases h1
      · rename_i hs
        refine ⟨h1, fun p' hp => ?_⟩
        rcases List.mem_cons.1 hp with rfl | hp
        · refine ⟨by omega, by omega, fun hneg => ?_⟩
          cases ho : outB p'.1
          · exact absurd ⟨hneg, ho⟩ hs
          · rfl
        · exact h2 p' hp
theorem refW_of {b : Pl → Int} {l : List Mv} : ∀ {r : List Pl}, (∀ p ∈ r, OkBal p (b p + enA l p)) → refW b l r 0 = 0
  | [], _ => rfl
  | p :: r, h => by
    unfold refW
    obtain ⟨h1, h2, h3⟩ := h p List.mem_cons_self
    rw [if_neg (by omega), if_neg (fun h => by rw [h3 h.1] at h; exact absurd h.2 (by decide))]
    exact refW_of fun p' hp => h p' (List.mem_cons_of_mem _ hp)
theorem refE_0 {b : Pl → Int} {l : List Mv} (hb : ∀ p, OkBal p (b p)) : refE b l = 0 ↔ ∀ p, OkBal p (b p + enA l p) := by
  constructor
  · intro h p
    by_cases hp : p ∈ plcs l
    · exact (refW_0 h).2 p hp
    · rw [enA_off hp]; simpa using hb p
  · intro h
    exact refW_of fun p _ => h p
theorem refW_cases (b : Pl → Int) (l : List Mv) : ∀ (r : List Pl) (e : Int), refW b l r e = 5 ∨ refW b l r e = 10 ∨ refW b l r e = e
  | [], e => .inr (.inr rfl)
  | p :: r, e => by
    unfold refW
    split
    · exact .inl rfl
    · split
      · rcases refW_cases b l r 10 with h | h | h
        · exact .inl h
        · exact .inr (.inl h)
        · exact .inr (.inl h)
      · exact refW_cases b l r e

/-! bytes -/
/-- A number in some bytes, the highest first. -/
def putL (n : Nat) : Nat → List UInt8
  | 0 => []
  | k + 1 => UInt8.ofNat (n / 256 ^ k) :: putL n k
theorem putL_len (n : Nat) : ∀ k, (putL n k).length = k
  | 0 => rfl
  | k + 1 => by unfold putL; rw [List.length_cons, putL_len n k]
def encS (s : ByteArray) : List UInt8 := UInt8.ofNat s.size :: s.data.toList
def encM (m : Mv) : List UInt8 := encS m.f ++ encS m.t ++ encS m.i ++ putL m.q.toNat 4
def bodyL (l : List Mv) : List UInt8 := UInt8.ofNat l.length :: l.flatMap encM
/-- A step of the sum: 32 bits. -/
def sumS (s : Nat) (c : UInt8) : Nat := (((s * 32) % 4294967296 + s / 134217728) * 31 + c.toNat) % 4294967296
def sumL (b : List UInt8) : Nat := b.foldl sumS ((b.length + 1) % 4294967296)
def encE (l : List Mv) : List UInt8 := putL (bodyL l).length 2 ++ putL (sumL (bodyL l)) 4 ++ bodyL l
theorem encS_len (s : ByteArray) : (encS s).length = s.size + 1 := by unfold encS; rw [List.length_cons, Array.length_toList]; rfl
theorem encM_len (m : Mv) : (encM m).length = m.f.size + m.t.size + m.i.size + 7 := by
  unfold encM
  rw [List.length_append, List.length_append, List.length_append, encS_len, encS_len, encS_len, putL_len]
  omega
/-- How many bytes the names of moves have. -/
def nmSz (l : List Mv) : Nat := (l.map fun m => m.f.size + m.t.size + m.i.size + 7).sum
theorem encE_len (l : List Mv) : (encE l).length = 7 + nmSz l := by
  unfold encE bodyL nmSz
  rw [List.length_append, List.length_append, putL_len, putL_len, List.length_cons]
  have : (l.flatMap encM).length = (l.map fun m => m.f.size + m.t.size + m.i.size + 7).sum := by
    rw [List.length_flatMap]
    congr 1
    exact List.map_congr_left fun m _ => encM_len m
  omega
theorem nmSz_rev (l : List Mv) : nmSz (revE l) = nmSz l := by
  unfold nmSz revE
  rw [List.map_reverse, List.sum_reverse, List.map_map]
  congr 1
  refine List.map_congr_left fun m _ => ?_
  show m.t.size + m.f.size + m.i.size + 7 = _
  omega
theorem nmSz_cons (m : Mv) (l : List Mv) : nmSz (m :: l) = m.f.size + m.t.size + m.i.size + 7 + nmSz l := by
  unfold nmSz
  rw [List.map_cons, List.sum_cons]
theorem nmSz_le {l : List Mv} (h : ∀ m ∈ l, mvOk m = true) : nmSz l ≤ 43 * l.length := by
  induction l with
  | nil => exact Nat.le_refl _
  | cons m l ih =>
    rw [nmSz_cons, List.length_cons]
    have h1 := ih fun x hx => h x (List.mem_cons_of_mem _ hx)
    have h2 := h m List.mem_cons_self
    unfold mvOk nameB at h2
    simp only [Bool.and_eq_true, decide_eq_true_eq] at h2
    omega

/-! the disk -/
structure Dk where
  B : List UInt8
  safe : Nat
  down : Bool
  left : Nat
def Dk.new : Dk := ⟨[], 0, false, 0⟩
/-- An act: the disk behind it, and whether it went down. -/
def Dk.act (d : Dk) : Dk × Bool := if d.left = 0 then (d, false) else ({ d with left := d.left - 1, down := decide (d.left - 1 = 0) }, decide (d.left - 1 = 0))
def Dk.app (d : Dk) (x : List UInt8) : Dk × Int :=
  if d.down then (d, 11) else if 65536 - d.B.length < x.length then (d, 9) else
    ({ d with B := d.B ++ x }.act.1, if { d with B := d.B ++ x }.act.2 then 11 else 0)
def Dk.sync (d : Dk) : Dk × Int :=
  if d.down then (d, 11) else if d.act.2 then (d.act.1, 11) else ({ d.act.1 with safe := d.act.1.B.length }, 0)
def Dk.cut (d : Dk) (n : Nat) : Dk × Int :=
  if d.down then (d, 11) else if d.act.2 then (d.act.1, 11) else ({ d.act.1 with B := d.B.take n, safe := min d.safe n }, 0)
def Dk.arm (d : Dk) (n : Int) : Dk := if d.down then d else { d with left := n.toNat }
def Dk.restart (d : Dk) (k : Int) : Dk := ⟨d.B.take (d.safe + min k.toNat (d.B.length - d.safe)), d.safe + min k.toNat (d.B.length - d.safe), false, 0⟩
/-- What holds of every disk. -/
def Dk.Ok (d : Dk) : Prop := d.B.length ≤ 65536 ∧ d.safe ≤ d.B.length ∧ d.left < 1000000000000

/-! the book -/
structure Bk where
  E : List (List Mv)
  br : Bool
def Bk.would (b : Bk) (l : List Mv) : Int := if b.br then 8 else if enOk l then refE (balE b.E) l else 1
/-- Post: the disk and the book behind it, and its error. -/
def postB (d : Dk) (b : Bk) (l : List Mv) : Dk × Bk × Int :=
  if b.would l ≠ 0 then (d, b, b.would l) else
  if (d.app (encE l)).2 = 9 then (d, b, 9) else
  if (d.app (encE l)).2 ≠ 0 then ((d.app (encE l)).1, ⟨b.E, true⟩, (d.app (encE l)).2) else
  if ((d.app (encE l)).1.sync).2 ≠ 0 then ((d.app (encE l)).1.sync.1, ⟨b.E, true⟩, (d.app (encE l)).1.sync.2) else
  ((d.app (encE l)).1.sync.1, ⟨b.E ++ [l], b.br⟩, 0)
end
section
open Go.RowKit
/-- All but the blocks S, and what is new, is as it was. -/
structure Kx (S : Nat → Prop) (W W' : World) : Prop where
  os : W'.os = W.os
  tape : W'.tape = W.tape
  output : W'.output = W.output
  size : W.heap.size ≤ W'.heap.size
  block : ∀ j, j < W.heap.size → ¬ S j → W'.heap[j]? = W.heap[j]?
section
variable {S T : Nat → Prop} {A B C : World}
theorem Kx.refl (S : Nat → Prop) (W : World) : Kx S W W := ⟨rfl, rfl, rfl, Nat.le_refl _, fun _ _ _ => rfl⟩
theorem Kx.trans (h : Kx S A B) (k : Kx T B C) (hs : ∀ j, j < A.heap.size → T j → S j) : Kx S A C :=
  ⟨k.os.trans h.os, k.tape.trans h.tape, k.output.trans h.output, Nat.le_trans h.size k.size, fun j hj hn => (k.block j (Nat.lt_of_lt_of_le hj h.size) (fun ht => hn (hs j hj ht))).trans (h.block j hj hn)⟩
theorem Kx.mono (h : Kx S A B) (hs : ∀ j, S j → T j) : Kx T A B := ⟨h.os, h.tape, h.output, h.size, fun j hj hn => h.block j hj (fun ht => hn (hs j ht))⟩
theorem Kx.drewN (h : Kx S A B) (q : Nat) : Kx S A (B.drewN q) := ⟨h.os, h.tape, h.output, h.size, h.block⟩
theorem Kx.grown {row : Option Nat} (h : Kx S A B) (hg : B.grownBy C row) (hs : ∀ j, row = some j → S j ∨ A.heap.size ≤ j) : Kx S A C :=
  ⟨hg.os.trans h.os, hg.tape.trans h.tape, hg.output.trans h.output, Nat.le_trans h.size hg.size, fun j hj hn => (hg.block j (Nat.lt_of_lt_of_le hj h.size) (fun e => by
    rcases hs j e.symm with h' | h'
    · exact hn h'
    · omega)).trans (h.block j hj hn)⟩
theorem Kx.below (h : Kx S A B) (hb : Below B.heap.size B C) : Kx S A C :=
  ⟨hb.os.trans h.os, hb.tape.trans h.tape, hb.output.trans h.output, Nat.le_trans h.size hb.size, fun j hj hn => (hb.block j (Nat.lt_of_lt_of_le hj h.size)).trans (h.block j hj hn)⟩
/-- Where nothing below b may turn. -/
theorem Kx.low {w : World} {b : Nat} (hb : Below b w A) (h : Kx S A B) (hs : ∀ j, S j → b ≤ j) (hba : b ≤ A.heap.size) : Below b w B :=
  ⟨h.os.trans hb.os, h.tape.trans hb.tape, h.output.trans hb.output, Nat.le_trans hb.size h.size, fun j hj => (h.block j (by omega) (fun ht => by have := hs j ht; omega)).trans (hb.block j hj)⟩
end
theorem kx_set {S : Nat → Prop} {W W' : World} {b : Nat} (h : Kx S W W') (hs : S b) (k : Nat) (v : Value) : Kx S W (W'.setCell ⟨b, k, none⟩ v) :=
  ⟨h.os, h.tape, h.output, by have := h.size; simpa [World.setCell] using this, fun j hj hn => (Below.heap_setCell W' ⟨b, k, none⟩ v j (fun e => hn (e ▸ hs))).trans (h.block j hj hn)⟩
end
section
section
open Go.RowKit
theorem hcell5 {W : World} {b : Nat} {t : TypeId} {u0 u1 u2 u3 u4 : Value} (h : W.heap[b]? = some (.cells #[u0, u1, u2, u3, u4] t (0, 0))) :
    W.cell? ⟨b, 0, none⟩ = some u0 ∧ W.cell? ⟨b, 1, none⟩ = some u1 ∧ W.cell? ⟨b, 2, none⟩ = some u2 ∧ W.cell? ⟨b, 3, none⟩ = some u3 ∧ W.cell? ⟨b, 4, none⟩ = some u4 ∧ (∀ j, W.frozen? ⟨b, j, none⟩ = false) :=
  ⟨by rw [cell_of_row _ _ 0 _ _ (0, 0) h]; rfl, by rw [cell_of_row _ _ 1 _ _ (0, 0) h]; rfl, by rw [cell_of_row _ _ 2 _ _ (0, 0) h]; rfl, by rw [cell_of_row _ _ 3 _ _ (0, 0) h]; rfl, by rw [cell_of_row _ _ 4 _ _ (0, 0) h]; rfl, fun j => by simp [World.frozen?, h]⟩
theorem hset {W : World} {b i : Nat} {C : Array Value} {ty : TypeId} {v : Value} (h : W.heap[b]? = some (.cells C ty (0, 0))) : (W.setCell ⟨b, i, none⟩ v).heap[b]? = some (.cells (C.setIfInBounds i v) ty (0, 0)) := by
  simp only [World.setCell, Array.getElem?_modify, h]
  simp
theorem hset_ne {W : World} {a b i : Nat} {v : Value} (h : a ≠ b) : (W.setCell ⟨b, i, none⟩ v).heap[a]? = W.heap[a]? := Below.heap_setCell W ⟨b, i, none⟩ v a h
theorem hsize_set (W : World) (a : Addr) (v : Value) : (W.setCell a v).heap.size = W.heap.size := by simp [World.setCell]
/-- A byte as a cell. -/
def byE (c : UInt8) : List Value := [.int .u8 (c.toNat : Int)]
theorem byE_len (c : UInt8) : (byE c).length = 1 := rfl
theorem by_one (l : List UInt8) : ∀ u ∈ l.flatMap byE, u.oneCell' = true := by
  intro u hu
  obtain ⟨x, _, hx⟩ := List.mem_flatMap.1 hu
  simp only [byE, List.mem_cons, List.not_mem_nil, or_false] at hx
  subst hx
  rfl
/-- The worlds that may be taken from here on. -/
def Up (W : World) (F : Nat → Prop) : Prop := ∀ b, W.heap.size ≤ b → F b
theorem Up.kx {W w : World} {S F : Nat → Prop} (h : Up W F) (k : Kx S W w) : Up w F := fun b hb => h b (Nat.le_trans k.size hb)
theorem Up.below {W w : World} {F : Nat → Prop} (h : Up W F) {b : Nat} (k : Below b W w) : Up w F := fun b hb => h b (Nat.le_trans k.size hb)
theorem kx_of_below {W w : World} {S : Nat → Prop} (h : Below W.heap.size W w) : Kx S W w := ⟨h.os, h.tape, h.output, h.size, fun j hj _ => h.block j hj⟩
/-- The blocks that writing on a disk turns: the disk's own, and a row of bytes. -/
def DkS (W : World) (F : Nat → Prop) (a : Nat) : Nat → Prop := fun j => j = a ∨ F j ∧ ∃ C, W.heap[j]? = some (.cells C 5 (0, 0))
/-- The cells of a disk; v: its bytes' slice. -/
def dkC (v : Value) (d : Dk) : Array Value := #[.bool true, v, .int .i64 (d.safe : Int), .bool d.down, .int .i64 (d.left : Int)]
/-- Block a is a disk that holds d, its bytes in a row of F. -/
def Dsk (W : World) (F : Nat → Prop) (a : Nat) (d : Dk) : Prop :=
  d.Ok ∧ F a ∧ ∃ A c, W.heap[a]? = some (.cells (dkC (.slice A d.B.length c) d) 109 (0, 0)) ∧
    W.ownsRow 0 5 1 (.slice A d.B.length c) d.B.length (d.B.flatMap byE) ∧ ∀ g, (Value.slice A d.B.length c).ownBlock = some g → F g
section
variable {W w : World} {F S : Nat → Prop} {a : Nat} {d : Dk}
theorem own_heap {W w : World} {base e sz n : Nat} {v : Value} {xs : List Value} (h : W.ownsRow base e sz v n xs) (hk : ∀ g, v.ownBlock = some g → w.heap[g]? = W.heap[g]?) : w.ownsRow base e sz v n xs := by
  refine ⟨h.1, ?_⟩
  rcases h.2 with h0 | ⟨g, c, cur, hv, h1, h2, h3⟩
  · exact .inl h0
  · subst hv
    exact .inr ⟨g, c, cur, rfl, h1, (hk g (by simp [Value.ownBlock])).trans h2, h3⟩
theorem own_lt {W : World} {base e sz n : Nat} {v : Value} {xs : List Value} (h : W.ownsRow base e sz v n xs) {g : Nat} (hg : v.ownBlock = some g) : g < W.heap.size := (h.lt g hg).2
theorem Dsk.keep (h : Dsk W F a d) (hk : ∀ b, F b → b < W.heap.size → w.heap[b]? = W.heap[b]?) : Dsk w F a d := by
  obtain ⟨h0, h1, A, c, h2, h3, h4⟩ := h
  exact ⟨h0, h1, A, c, (hk a h1 (Array.getElem?_eq_some_iff.1 h2).1).trans h2, own_heap h3 fun g hg => hk g (h4 g hg) (own_lt h3 hg), h4⟩
theorem Dsk.kx (h : Dsk W F a d) (k : Kx S W w) (hs : ∀ b, F b → b < W.heap.size → ¬ S b) : Dsk w F a d := h.keep fun b hf hb => k.block b hb (hs b hf hb)
theorem Dsk.below (h : Dsk W F a d) (k : Below W.heap.size W w) : Dsk w F a d := h.keep fun b _ hb => k.block b hb
theorem Dsk.lt (h : Dsk W F a d) : a < W.heap.size := by
  obtain ⟨h0, h1, A, c, h2, h3, h4⟩ := h
  exact (Array.getElem?_eq_some_iff.1 h2).1
end
set_option maxHeartbeats 1000000 in
theorem ready_any (w : World) (F : Nat → Prop) (a : Nat) (d : Dk) (h : Dsk w F a d) : Calls Tryz.prog 40 #[.pointer (some ⟨a, 0, none⟩)] w fun e w' => e = .returned (.int .i64 (if d.down then 11 else 0)) ∧ w = w' := by
  obtain ⟨_, _, A, c, h2, _, _⟩ := h
  obtain ⟨B, sf, dn, lf⟩ := d
  unfold dkC at h2
  dsimp only at h2
  obtain ⟨c0, c1, c2, c3, c4, -⟩ := hcell5 h2
  clear h2
  cases dn
  · go_enter Tryz.func40, Tryz.ntmps40
    go_wp2
    go_ret
    exact ⟨rfl, rfl⟩
  · go_enter Tryz.func40, Tryz.ntmps40
    go_wp2
    go_ret
    exact ⟨rfl, rfl⟩
theorem kx_put (W : World) (b i : Nat) (v : Value) : Kx (fun j => j = b) W (W.setCell ⟨b, i, none⟩ v) := kx_set (S := fun j => j = b) (Kx.refl _ W) rfl i v
/-- One cell of a disk is written. -/
theorem Dsk.set {w : World} {F : Nat → Prop} {a : Nat} {d' : Dk} {A : Option Addr} {c i : Nat} {v : Value} {C : Array Value} (hf : F a) (hd : d'.Ok) (h : w.heap[a]? = some (.cells C 109 (0, 0))) (hC : C.setIfInBounds i v = dkC (.slice A d'.B.length c) d')
    (ho : w.ownsRow 0 5 1 (.slice A d'.B.length c) d'.B.length (d'.B.flatMap byE)) (hF : ∀ g, (Value.slice A d'.B.length c).ownBlock = some g → F g) (hne : ∀ g, (Value.slice A d'.B.length c).ownBlock = some g → g ≠ a) : Dsk (w.setCell ⟨a, i, none⟩ v) F a d' :=
  ⟨hd, hf, A, c, by rw [← hC]; exact hset h, own_heap ho fun g hg => hset_ne (hne g hg), hF⟩
theorem own_nea {w : World} {a : Nat} {C : Array Value} {ty e : TypeId} {base sz n : Nat} {v : Value} {xs : List Value} (h : w.heap[a]? = some (.cells C ty (0, 0))) (ho : w.ownsRow base e sz v n xs) (hne : e ≠ ty) : ∀ g, v.ownBlock = some g → g ≠ a := by
  intro g hg e'
  subst e'
  rcases ho.2 with ⟨rfl, _⟩ | ⟨g1, c1, cur1, rfl, _, hh, _⟩
  · simp [Value.ownBlock] at hg
  · have : g1 = g := by simpa [Value.ownBlock] using hg
    subst this
    rw [h] at hh
    simp only [Option.some.injEq, Obj.cells.injEq] at hh
    exact hne hh.2.1.symm
set_option maxHeartbeats 2000000 in
theorem dact_any (w : World) (F : Nat → Prop) (a : Nat) (d : Dk) (h : Dsk w F a d) : Calls Tryz.prog 70 #[.pointer (some ⟨a, 0, none⟩)] w fun e w' => e = .returned (.bool d.act.2) ∧ Dsk w' F a d.act.1 ∧ Kx (fun j => j = a) w w' := by
  refine calls_cps ?_
  intro R hR
  have hh := h
  obtain ⟨hok, hf, A, c, h2, ho, hg⟩ := h
  obtain ⟨B, sf, dn, lf⟩ := d
  have hne := own_nea h2 ho (by decide)
  unfold dkC at h2
  dsimp only at h2 ho hg hne
  obtain ⟨c0, c1, c2, c3, c4, f0⟩ := hcell5 h2
  by_cases h0 : lf = 0
  · subst h0
    have HF := Lib.hid (hR.out (.returned (.bool false)) w ⟨rfl, hh, Kx.refl _ _⟩)
    clear hR h2 ho hg hne hh hok
    go_enter Tryz.func70, Tryz.ntmps70
    go_wp2
    exact HF.out
  · obtain ⟨L, hL⟩ : ∃ L : Int, (lf : Int) = L := ⟨_, rfl⟩
    have hl1 : 0 < L := by omega
    have hl2 : L ≤ 1000000000000 := by have := hok.2.2; dsimp only at this; omega
    have e0 : (L == 0) = false := by rw [beq_eq_false_iff_ne]; omega
    rw [hL] at c4
    have HF : ∀ p : Bool, p = decide (lf - 1 = 0) → Hid (R (.returned (.bool p)) ((w.setCell ⟨a, 4, none⟩ (.int .i64 (L - 1))).setCell ⟨a, 3, none⟩ (.bool p))) := by
      intro p hp
      refine Lib.hid (hR.out _ _ ⟨?_, ?_, ?_⟩)
      · unfold Dk.act
        rw [if_neg h0, hp]
      · unfold Dk.act
        rw [if_neg h0]
        have h3 := hset (i := 4) (v := .int .i64 (L - 1)) h2
        refine Dsk.set (A := A) (c := c) (C := #[.bool true, .slice A B.length c, .int .i64 (sf : Int), .bool dn, .int .i64 (L - 1)]) hf ⟨hok.1, hok.2.1, by have := hok.2.2; dsimp only at this ⊢; omega⟩ h3 ?_ (own_heap ho fun g hg' => hset_ne (hne g hg')) hg hne
        unfold dkC
        dsimp only
        rw [← hp, show ((lf - 1 : Nat) : Int) = L - 1 by omega]
        rfl
      · exact (kx_put w a 4 _).trans (kx_put _ a 3 _) (fun _ _ h => h)
    have H1 := HF (decide (lf - 1 = 0)) rfl
    clear HF hR h2 ho hg hne hh hok
    by_cases h1 : lf = 1
    · have e1 : L = 1 := by omega
      subst e1
      rw [show decide (lf - 1 = 0) = true from decide_eq_true (by omega)] at H1
      clear hL h0 h1 hl1 hl2 e0
      go_enter Tryz.func70, Tryz.ntmps70
      go_wp2
      exact H1.out
    · have e1 : (L - 1 == 0) = false := by rw [beq_eq_false_iff_ne]; omega
      rw [show decide (lf - 1 = 0) = false from decide_eq_false (by omega)] at H1
      clear hL h0 h1
      go_enter Tryz.func70, Tryz.ntmps70
      go_wp2
      exact H1.out
theorem infoBy : (Tryz.prog.info? 5).map (fun i => (i.zero, i.size, i.bytes)) = some (some (.int .u8 0), 1, 1) := by kernel_rfl
theorem elemBy : ElemOk Tryz.prog 107 5 1 1 := ElemOk.of (z := .int .u8 0) Tryz.underlying107 infoBy rfl (by omega)
theorem own_blk {w : World} {base e sz n g : Nat} {v : Value} {xs : List Value} (h : w.ownsRow base e sz v n xs) (hg : v.ownBlock = some g) : ∃ C, w.heap[g]? = some (.cells C e (0, 0)) := by
  rcases h.2 with ⟨rfl, _⟩ | ⟨g1, c1, cur1, rfl, _, hh, _⟩
  · simp [Value.ownBlock] at hg
  · have : g1 = g := by simpa [Value.ownBlock] using hg
    subst this
    exact ⟨_, hh⟩
theorem dsk_app {w w1 : World} {F : Nat → Prop} {a n : Nat} {A0 A' : Option Addr} {c0 c1 : Nat} {B x : List UInt8} {sf lf : Nat} (hu : Up w F) (hf : F a) (ok1 : B.length ≤ 65536) (ok2 : sf ≤ B.length) (ok3 : lf < 1000000000000) (hn : n = x.length) (hb : n ≤ 65536 - B.length)
    (h2 : w.heap[a]? = some (.cells #[.bool true, .slice A0 B.length c0, .int .i64 (sf : Int), .bool false, .int .i64 (lf : Int)] 109 (0, 0)))
    (hg : ∀ g, (Value.slice A0 B.length c0).ownBlock = some g → F g) (hne : ∀ g, (Value.slice A0 B.length c0).ownBlock = some g → g ≠ a)
    (ho0 : w.ownsRow 0 5 1 (.slice A0 B.length c0) B.length (B.flatMap byE)) (ho : w1.ownsRow 0 5 1 (.slice A' (B.length + n) c1) (B.length + n) (B.flatMap byE ++ x.flatMap byE)) (hg1 : w.grownBy w1 (Value.slice A0 B.length c0).ownBlock)
    (hl1 : (Value.slice A' (B.length + n) c1).ownBlock = (Value.slice A0 B.length c0).ownBlock ∨ (Value.slice A' (B.length + n) c1).ownBlock = some w.heap.size) :
    w1.heap[a]? = some (.cells #[.bool true, .slice A0 B.length c0, .int .i64 (sf : Int), .bool false, .int .i64 (lf : Int)] 109 (0, 0)) ∧
    Dsk (w1.setCell ⟨a, 1, none⟩ (.slice A' (B.length + n) c1)) F a ⟨B ++ x, sf, false, lf⟩ ∧ Kx (DkS w F a) w (w1.setCell ⟨a, 1, none⟩ (.slice A' (B.length + n) c1)) := by
  have hl : B.length + n = (B ++ x).length := by rw [List.length_append, hn]
  have ha : a < w.heap.size := (Array.getElem?_eq_some_iff.1 h2).1
  have h3 := (hg1.block a ha fun e => hne a e.symm rfl).trans h2
  have hF : ∀ g, (Value.slice A' (B.length + n) c1).ownBlock = some g → F g := fun g hg' => by
    rcases hl1 with h | h
    · exact hg g (h ▸ hg')
    · rw [h] at hg'
      cases hg'
      exact hu _ (Nat.le_refl _)
  refine ⟨h3, ?_, ((Kx.refl (DkS w F a) w).grown hg1 fun j hj => .inl (.inr ⟨hg j hj, own_blk ho0 hj⟩)).trans (kx_put _ a 1 _) fun j _ hj => .inl hj⟩
  rw [hl] at ho hF ⊢
  refine Dsk.set (A := A') (c := c1) hf ⟨by show (B ++ x).length ≤ 65536; omega, by show sf ≤ (B ++ x).length; omega, ok3⟩ h3 rfl ?_ hF (own_nea h3 ho (by decide))
  rw [List.flatMap_append]
  exact ho
set_option maxHeartbeats 2000000 in
theorem dapp_any (w : World) (F : Nat → Prop) (a : Nat) (d : Dk) (h : Dsk w F a d) (hu : Up w F) (A : Option Addr) (n c : Nat) (x : List UInt8) (hx : SlE byE 1 w A n x) (_hn : n ≤ 1000000) :
    Calls Tryz.prog 294 #[.pointer (some ⟨a, 0, none⟩), .slice A n c] w fun e w' => e = .returned (.int .i64 (d.app x).2) ∧ Dsk w' F a (d.app x).1 ∧ Kx (DkS w F a) w w' := by
  refine calls_cps ?_
  intro R hR
  have hh := h
  obtain ⟨hok, hf, A0, c', h2, ho, hg⟩ := h
  obtain ⟨B, sf, dn, lf⟩ := d
  have hne := own_nea h2 ho (by decide)
  have hd := ready_any w F a _ hh
  have hxn := hx.1
  obtain ⟨ok1, ok2, ok3⟩ := hok
  unfold dkC at h2
  dsimp only at h2 ho hg hne hd ok1 ok2 ok3
  obtain ⟨c0, c1, c2, c3, c4, f0⟩ := hcell5 h2
  cases dn
  · rcases Nat.lt_or_ge (65536 - B.length) n with hb | hb
    · have HF := Lib.hid (hR.out (.returned (.int .i64 9)) w (by
        unfold Dk.app
        rw [if_neg (by simp), if_pos (by rw [← hxn]; exact hb)]
        exact ⟨rfl, hh, Kx.refl _ _⟩))
      have i1 : (n : Int) > 65536 - (B.length : Int) := by omega
      have HD := Lib.hid hd
      clear hR h2 ho hg hne hh hx hxn hd
      go_enter Tryz.func294, Tryz.ntmps294
      go_wp2_with (go_at_call 40; (with_reducible refine (HD.out).mono ?_); rintro e w' ⟨rfl, rfl⟩)
      exact HF.out
    · have i1 : ¬ (n : Int) > 65536 - (B.length : Int) := by omega
      have e1 : (({ B := B, safe := sf, down := false, left := lf } : Dk).app x) = (({ B := B ++ x, safe := sf, down := false, left := lf } : Dk).act.1, if ({ B := B ++ x, safe := sf, down := false, left := lf } : Dk).act.2 then 11 else 0) := by
        unfold Dk.app
        rw [if_neg (by simp), if_neg (by dsimp only; omega)]
      rw [e1] at hR
      have HD := Lib.hid hd
      have HO := Lib.hid ho
      have HX := Lib.hid hx
      have Hg := Lib.hid hg
      have Hne := Lib.hid hne
      have Hr := Lib.hid hR
      have Hxn := Lib.hid hxn
      have HS := Lib.hid (fun (A' : Option Addr) (c1 : Nat) (w1 : World) h1 h3 h4 => dsk_app (A' := A') (c1 := c1) (w1 := w1) hu hf ok1 ok2 ok3 hxn hb h2 hg hne ho h1 h3 h4)
      clear hR ho hg hne hx hxn hd e1 hh h2
      go_enter Tryz.func294, Tryz.ntmps294
      go_wp2_with (first
        | (go_at_call 40; (with_reducible refine (HD.out).mono ?_); rintro e w' ⟨rfl, rfl⟩)
        | (at_builtin; refine wpList_app rfl (.tmp 24) (.tmp 25) _ rfl elemBy 0 _ _ _ rfl HO.out _ _ _ _ rfl HX.out.2 (by_one _) (by unfold maxLen; omega) (by omega) (Nat.zero_le _) ?_; intro A' c1' w1 ho1 hg1 hl1; obtain ⟨hq1, hq2, hq3⟩ := HS.out A' c1' w1 ho1 hg1 hl1; obtain ⟨c0, c1, c2, c3, c4, f0⟩ := hcell5 hq1; have HQ2 := Lib.hid hq2; have HQ3 := Lib.hid hq3; clear hq1 hq2 hq3 ho1 hg1 hl1)
        | (go_at_call 70; (with_reducible refine (dact_any _ _ _ _ HQ2.out).mono ?_); rintro e w3 ⟨rfl, hd3, hk3⟩))
      all_goals
        refine Hr.out.out _ _ ⟨?_, hd3, HQ3.out.trans hk3 (fun _ _ e => .inl e)⟩
        first
          | (rw [if_pos (by assumption)]; rfl)
          | (rw [if_neg (by simp [*])]; rfl)
  · have HF := Lib.hid (hR.out (.returned (.int .i64 11)) w (by
      unfold Dk.app
      rw [if_pos rfl]
      exact ⟨rfl, hh, Kx.refl _ _⟩))
    have HD := Lib.hid hd
    clear hR h2 ho hg hne hh hx hxn hd
    go_enter Tryz.func294, Tryz.ntmps294
    go_wp2_with (go_at_call 40; (with_reducible refine (HD.out).mono ?_); rintro e w' ⟨rfl, rfl⟩)
    exact HF.out
set_option maxHeartbeats 2000000 in
theorem dsync_any (w : World) (F : Nat → Prop) (a : Nat) (d : Dk) (h : Dsk w F a d) : Calls Tryz.prog 44 #[.pointer (some ⟨a, 0, none⟩)] w fun e w' => e = .returned (.int .i64 d.sync.2) ∧ Dsk w' F a d.sync.1 ∧ Kx (fun j => j = a) w w' := by
  refine calls_cps ?_
  intro R hR
  have HD := Lib.hid (ready_any w F a _ h)
  have HA := Lib.hid (dact_any w F a _ h)
  cases hdn : d.down
  · have HH := Lib.hid hdn
    rw [hdn] at HD
    unfold Dk.sync at hR
    rw [hdn, if_neg (by simp)] at hR
    have Hr := Lib.hid hR
    clear hR hdn h
    go_enter Tryz.func44, Tryz.ntmps44
    go_wp2_with (first
      | (go_at_call 40; (with_reducible refine (HD.out).mono ?_); rintro e w' ⟨rfl, rfl⟩)
      | (go_at_call 70; (with_reducible refine (HA.out).mono ?_); rintro e w3 ⟨rfl, hd3, hk3⟩; have HD3 := Lib.hid hd3; obtain ⟨-, -, A3, k3, q3, -, -⟩ := hd3; obtain ⟨d0, d1, d2, d3, d4, e3⟩ := hcell5 q3; clear q3))
    · rename_i h1
      exact Hr.out.out _ _ (by rw [if_pos h1]; exact ⟨rfl, HD3.out, hk3⟩)
    · rename_i h1
      have h1 : d.act.2 = false := by simpa using h1
      refine Hr.out.out _ _ ?_
      rw [if_neg (by rw [h1]; decide)]
      refine ⟨rfl, ?_, hk3.trans (kx_put _ a 2 _) (fun _ _ h => h)⟩
      obtain ⟨ok, hf, A, c, h2, ho, hg⟩ := HD3.out
      have hne := own_nea h2 ho (by decide)
      have hd4 : A3 = A ∧ k3 = c := by
        have := (hcell5 h2).2.1
        rw [d1] at this
        simp only [Option.some.injEq, Value.slice.injEq] at this
        exact ⟨this.1, this.2.2⟩
      exact Dsk.set (A := A) (c := c) hf ⟨ok.1, Nat.le_refl _, ok.2.2⟩ h2 rfl ho hg hne
  · have HF := Lib.hid (hR.out (.returned (.int .i64 11)) w (by
      unfold Dk.sync
      rw [if_pos hdn]
      exact ⟨rfl, h, Kx.refl _ _⟩))
    rw [hdn] at HD
    clear hR h hdn HA
    go_enter Tryz.func44, Tryz.ntmps44
    go_wp2_with (go_at_call 40; (with_reducible refine (HD.out).mono ?_); rintro e w' ⟨rfl, rfl⟩)
    exact HF.out
theorem Dsk.mono {w : World} {F G : Nat → Prop} {a : Nat} {d : Dk} (h : Dsk w F a d) (hm : ∀ j, F j → G j) : Dsk w G a d := by
  obtain ⟨h0, h1, A, c, h2, h3, h4⟩ := h
  exact ⟨h0, hm _ h1, A, c, h2, h3, fun g hg => hm _ (h4 g hg)⟩
/-- Where neither the disk's block nor a row of bytes of F is turned. -/
theorem Dsk.kx_ty {w w' : World} {S F : Nat → Prop} {a : Nat} {d : Dk} (h : Dsk w F a d) (k : Kx S w w') (h1 : ∀ C, w.heap[a]? = some (.cells C 109 (0, 0)) → ¬ S a) (h2 : ∀ j C, w.heap[j]? = some (.cells C 5 (0, 0)) → ¬ S j) : Dsk w' F a d := by
  obtain ⟨q0, q1, A, c, q2, q3, q4⟩ := h
  refine ⟨q0, q1, A, c, (k.block a (Array.getElem?_eq_some_iff.1 q2).1 (h1 _ q2)).trans q2, own_heap q3 fun g hg => ?_, q4⟩
  obtain ⟨C, hC⟩ := own_blk q3 hg
  exact k.block g (Array.getElem?_eq_some_iff.1 hC).1 (h2 g C hC)
set_option maxHeartbeats 2000000 in
theorem ndisk_any (w : World) (F : Nat → Prop) (hu : Up w F) : Calls Tryz.prog 18 #[] w fun e w' => e = .returned (.pointer (some ⟨w.heap.size, 0, none⟩)) ∧ Dsk w' F w.heap.size Dk.new ∧ Below w.heap.size w w' := by
  refine calls_cps ?_
  intro R hR
  have HF := Lib.hid (hR.out (.returned (.pointer (some ⟨w.heap.size, 0, none⟩))) (w.alloc (.cells #[.bool true, .slice none 0 0, .int .i64 0, .bool false, .int .i64 0] 109)) ⟨rfl, ⟨⟨by decide, by decide, by decide⟩, hu _ (Nat.le_refl _), none, 0, heap_alloc_new w _, World.ownsRow_nil _ _ _ _, fun g hg => by simp [Value.ownBlock] at hg⟩, below_new w _⟩)
  clear hR
  go_enter Tryz.func18, Tryz.ntmps18
  go_wp2
  exact HF.out
end
end
end Go.Proofs.YtndcijkgaadpgaaGreatDoor
