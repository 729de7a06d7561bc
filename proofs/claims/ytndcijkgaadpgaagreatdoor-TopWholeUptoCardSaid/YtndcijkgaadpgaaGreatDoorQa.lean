/-
  Plain: what a cursor reads; an entry is read back from its bytes, and nothing from a part of them. cursor.take, cursor.number, cursor.text at any bytes; conditions: the cells hold a cursor, the sizes that each theorem states. cursor.number, cursor.text at any bytes; conditions: the cells hold a cursor, the sizes that each theorem states. book.decode at any bytes; conditions: no more than 65536 bytes. Disk.Arm, Disk.Restart, Disk.Cut; conditions: the cells hold a disk, the numbers that each theorem states.
-/
import Derived.Test.YtndcijkgaadpgaaGreatDoorUa
import Derived.Test.YtndcijkgaadpgaaGreatDoorUb
import Derived.Test.YtndcijkgaadpgaaGreatDoorUe
import Derived.Laws.IdiomStrings
namespace Go.Proofs.YtndcijkgaadpgaaGreatDoor
section
/-- A cursor: the bytes that are left, and whether it is over. -/
structure Cu where
  r : List UInt8
  o : Bool
def Cu.take (c : Cu) (n : Nat) : List UInt8 × Cu := if c.o = true ∨ c.r.length < n then (List.replicate n 0, ⟨c.r, true⟩) else (c.r.take n, ⟨c.r.drop n, false⟩)
def beN (l : List UInt8) : Nat := l.foldl (fun a c => a * 256 + c.toNat) 0
def Cu.num (c : Cu) (k : Nat) : Nat × Cu := (beN (c.take k).1, (c.take k).2)
def Cu.text (c : Cu) : List UInt8 × Cu := (c.num 1).2.take (c.num 1).1
def Cu.mv (c : Cu) : Mv × Cu := (⟨⟨c.text.1.toArray⟩, ⟨c.text.2.text.1.toArray⟩, ⟨c.text.2.text.2.text.1.toArray⟩, ((c.text.2.text.2.text.2.num 4).1 : Int)⟩, (c.text.2.text.2.text.2.num 4).2)
def Cu.mvs : Nat → Cu → List Mv × Cu
  | 0, c => ([], c)
  | k + 1, c => ((Cu.mvs k c).1 ++ [((Cu.mvs k c).2.mv).1], ((Cu.mvs k c).2.mv).2)
/-- The first three things that decode reads: how many bytes, their sum, the bytes. -/
def decA (x : List UInt8) : Nat × Cu := Cu.num ⟨x, false⟩ 2
def decB (x : List UInt8) : Nat × Cu := (decA x).2.num 4
def decD (x : List UInt8) : List UInt8 × Cu := (decB x).2.take (decA x).1
def decK (x : List UInt8) : Nat × Cu := Cu.num ⟨(decD x).1, false⟩ 1
def decM (x : List UInt8) : List Mv × Cu := Cu.mvs (decK x).1 (decK x).2
def decP (x : List UInt8) : List Mv × Nat :=
  if (decD x).2.o = true ∨ (decB x).1 ≠ sumL (decD x).1 then ([], 0) else
  if (decM x).2.o = true ∨ 0 < (decM x).2.r.length ∨ enOk (decM x).1 = false then ([], 0) else ((decM x).1, 6 + (decA x).1)
theorem take_got {p s : List UInt8} {n : Nat} (h : p.length = n) : Cu.take ⟨p ++ s, false⟩ n = (p, ⟨s, false⟩) := by
  unfold Cu.take
  rw [if_neg (by rw [List.length_append]; rintro (h0 | h0); (· cases h0); omega), ← h, List.take_left, List.drop_left]
theorem beN_acc (n : Nat) : ∀ (k a : Nat), (putL n k).foldl (fun a c => a * 256 + c.toNat) a = a * 256 ^ k + n % 256 ^ k
  | 0, a => by
    unfold putL
    rw [List.foldl_nil, Nat.pow_zero, Nat.mod_one]
    omega
  | k + 1, a => by
    unfold putL
    have h8 : (UInt8.ofNat (n / 256 ^ k)).toNat = n / 256 ^ k % 256 := UInt8.toNat_ofNat'
    rw [List.foldl_cons, beN_acc n k, Nat.mod_pow_succ, h8, Nat.add_mul, Nat.pow_succ, Nat.mul_assoc, Nat.mul_comm 256 (256 ^ k), Nat.mul_comm (256 ^ k) (n / 256 ^ k % 256)]
    omega
theorem beN_put {n k : Nat} (h : n < 256 ^ k) : beN (putL n k) = n := by
  unfold beN
  rw [beN_acc, Nat.mod_eq_of_lt h]
  omega
theorem num_got {n k : Nat} {s : List UInt8} (h : n < 256 ^ k) : Cu.num ⟨putL n k ++ s, false⟩ k = (n, ⟨s, false⟩) := by
  unfold Cu.num
  rw [take_got (putL_len n k)]
  dsimp only
  rw [beN_put h]
theorem num_one {n : Nat} {s : List UInt8} (h : n < 256) : Cu.num ⟨UInt8.ofNat n :: s, false⟩ 1 = (n, ⟨s, false⟩) := by
  have e : UInt8.ofNat n :: s = putL n 1 ++ s := by
    unfold putL putL
    rw [Nat.pow_zero, Nat.div_one]
    rfl
  rw [e]
  exact num_got (by simpa using h)
theorem text_got {t : ByteArray} {s : List UInt8} (h : t.size < 256) : Cu.text ⟨encS t ++ s, false⟩ = (t.data.toList, ⟨s, false⟩) := by
  unfold Cu.text encS
  rw [List.cons_append, num_one h]
  exact take_got (by rw [Array.length_toList]; rfl)
theorem mv_got {m : Mv} {s : List UInt8} (h : mvOk m = true) : Cu.mv ⟨encM m ++ s, false⟩ = (m, ⟨s, false⟩) := by
  unfold mvOk nameB at h
  simp only [Bool.and_eq_true, decide_eq_true_eq] at h
  have hf : m.f.size < 256 := by omega
  have ht : m.t.size < 256 := by omega
  have hi : m.i.size < 256 := by omega
  have hq : m.q.toNat < 256 ^ 4 := by
    have : (256 : Nat) ^ 4 = 4294967296 := rfl
    omega
  unfold Cu.mv encM
  rw [List.append_assoc, List.append_assoc, List.append_assoc, text_got hf]
  dsimp only
  rw [text_got ht]
  dsimp only
  rw [text_got hi]
  dsimp only
  rw [num_got hq]
  have e : ((m.q.toNat : Nat) : Int) = m.q := by omega
  rw [e]
theorem mvs_got {l : List Mv} {s : List UInt8} (h : ∀ m ∈ l, mvOk m = true) : ∀ k, k ≤ l.length → Cu.mvs k ⟨l.flatMap encM ++ s, false⟩ = (l.take k, ⟨(l.drop k).flatMap encM ++ s, false⟩)
  | 0, _ => rfl
  | k + 1, hk => by
    have hx : k < l.length := hk
    unfold Cu.mvs
    rw [mvs_got h k (by omega)]
    dsimp only
    rw [List.drop_eq_getElem_cons hx, List.flatMap_cons, List.append_assoc, mv_got (h _ (List.getElem_mem hx)), List.take_add_one, List.getElem?_eq_getElem hx]
    rfl
theorem sumL_b (x : List UInt8) : sumL x < 256 ^ 4 := by
  have e : (256 : Nat) ^ 4 = 4294967296 := rfl
  rw [e]
  unfold sumL
  have go : ∀ (x : List UInt8) (s : Nat), s < 4294967296 → x.foldl sumS s < 4294967296 := by
    intro x
    induction x with
    | nil => exact fun s h => h
    | cons c x ih =>
      intro s _
      refine ih _ ?_
      unfold sumS
      omega
  exact go x _ (by omega)
theorem enOk_len {l : List Mv} (h : enOk l = true) : (∀ m ∈ l, mvOk m = true) ∧ 1 ≤ l.length ∧ l.length ≤ 32 ∧ (bodyL l).length < 65536 := by
  unfold enOk at h
  simp only [Bool.and_eq_true, decide_eq_true_eq, List.all_eq_true] at h
  refine ⟨h.1.1, h.1.2, h.2, ?_⟩
  have h1 := encE_len l
  have h2 := nmSz_le h.1.1
  unfold encE at h1
  rw [List.length_append, List.length_append, putL_len, putL_len] at h1
  omega
/-- An entry is read back. -/
theorem dec_entry {l : List Mv} (h : enOk l = true) (s : List UInt8) : decP (encE l ++ s) = (l, (encE l).length) := by
  obtain ⟨h1, h2, h3, h4⟩ := enOk_len h
  have e2 : (256 : Nat) ^ 2 = 65536 := rfl
  have hA : decA (encE l ++ s) = ((bodyL l).length, ⟨putL (sumL (bodyL l)) 4 ++ (bodyL l ++ s), false⟩) := by
    unfold decA encE
    rw [List.append_assoc, List.append_assoc]
    exact num_got (by omega)
  have hB : decB (encE l ++ s) = (sumL (bodyL l), ⟨bodyL l ++ s, false⟩) := by
    unfold decB
    rw [hA]
    exact num_got (sumL_b _)
  have hD : decD (encE l ++ s) = (bodyL l, ⟨s, false⟩) := by
    unfold decD
    rw [hB, hA]
    exact take_got rfl
  have hK : decK (encE l ++ s) = (l.length, ⟨l.flatMap encM ++ [], false⟩) := by
    unfold decK
    rw [hD]
    dsimp only
    unfold bodyL
    rw [List.append_nil]
    exact num_one (by omega)
  have hM : decM (encE l ++ s) = (l, ⟨[], false⟩) := by
    unfold decM
    rw [hK]
    dsimp only
    rw [mvs_got h1 _ (Nat.le_refl _), List.take_length, List.drop_length]
    rfl
  have hl : (encE l).length = 6 + (bodyL l).length := by
    unfold encE
    rw [List.length_append, List.length_append, putL_len, putL_len]
  unfold decP
  rw [hD, hB, hM, hA]
  dsimp only
  rw [if_neg (by simp), if_neg (by simp [h]), hl]
theorem take_over {c : Cu} (n : Nat) (h : c.o = true ∨ c.r.length < n) : (c.take n).2.o = true := by
  unfold Cu.take
  rw [if_pos h]
/-- Nothing is read from a part of an entry. -/
theorem dec_part {l : List Mv} (h : enOk l = true) {k : Nat} (hk : k < (encE l).length) : decP ((encE l).take k) = ([], 0) := by
  obtain ⟨_, _, _, h4⟩ := enOk_len h
  have e2 : (256 : Nat) ^ 2 = 65536 := rfl
  have hl : (encE l).length = 6 + (bodyL l).length := by
    unfold encE
    rw [List.length_append, List.length_append, putL_len, putL_len]
  have ho : (decD ((encE l).take k)).2.o = true := by
    obtain ⟨x, hx⟩ : ∃ x, (encE l).take k = x := ⟨_, rfl⟩
    rw [hx]
    have hxl : x.length = k := by rw [← hx, List.length_take]; omega
    unfold decD
    refine take_over _ ?_
    by_cases h6 : k < 6
    · left
      unfold decB Cu.num
      refine take_over _ ?_
      unfold decA Cu.num Cu.take
      dsimp only
      split
      · exact .inl rfl
      · right
        dsimp only
        rw [List.length_drop]
        omega
    · right
      have ha : decA x = ((bodyL l).length, ⟨x.drop 2, false⟩) := by
        have e : x = putL (bodyL l).length 2 ++ x.drop 2 := by
          have e1 : x.take 2 = putL (bodyL l).length 2 := by
            rw [← hx, List.take_take, Nat.min_eq_left (by omega)]
            unfold encE
            rw [List.append_assoc, List.take_left' (putL_len _ 2)]
          rw [← e1, List.take_append_drop]
        unfold decA
        have := num_got (n := (bodyL l).length) (k := 2) (s := x.drop 2) (by omega)
        rw [← e] at this
        exact this
      have hb : (decB x).2 = ⟨x.drop 6, false⟩ := by
        unfold decB
        rw [ha]
        unfold Cu.num Cu.take
        dsimp only
        rw [if_neg (by rw [List.length_drop]; rintro (h0 | h0); (· cases h0); omega), List.drop_drop]
      rw [hb, ha]
      dsimp only
      rw [List.length_drop]
      omega
  unfold decP
  rw [if_pos (.inl ho)]
theorem dec_nil : decP [] = ([], 0) := by
  unfold decP
  rw [if_pos (.inl rfl)]
end
section
section
open Go.RowKit
/-- Block k is a cursor; its bytes lie below B. -/
def CurS (W : World) (B k : Nat) (c : Cu) : Prop := ∃ A n cp, W.heap[k]? = some (.cells #[.slice A n cp, .bool c.o] 162 (0, 0)) ∧ SlE byE 1 W A n c.r ∧ n ≤ cp ∧ n ≤ 100000 ∧ ∀ a, 0 < n → A = some a → a.block < B
theorem CurS.below {W w : World} {B k : Nat} {c : Cu} (h : CurS W B k c) (b : Below W.heap.size W w) : CurS w B k c := by
  obtain ⟨A, n, cp, h1, h2, h3, h4, h5⟩ := h
  exact ⟨A, n, cp, (b.block _ (Array.getElem?_eq_some_iff.1 h1).1).trans h1, h2.below b, h3, h4, h5⟩
/-- Kept where a row that lies above is turned. -/
theorem CurS.grown {W w : World} {B k : Nat} {c : Cu} (h : CurS W B k c) {row : Option Nat} (hg : W.grownBy w row) (hk : k < B) (hr : ∀ j, row = some j → B ≤ j) : CurS w B k c := by
  obtain ⟨A, n, cp, h1, h2, h3, h4, h5⟩ := h
  refine ⟨A, n, cp, (hg.block k (Array.getElem?_eq_some_iff.1 h1).1 (fun e => ?_)).trans h1, h2.grown hg (fun hn a ha e => ?_), h3, h4, h5⟩
  · have := hr k e.symm
    omega
  · have := hr _ e.symm
    have := h5 a hn ha
    omega
/-- A row of bytes does not lie in a cursor's block. -/
theorem by_ne {W : World} {k : Nat} {u v : Value} {t : TypeId} {A : Option Addr} {n : Nat} {l : List UInt8} (h : W.heap[k]? = some (.cells #[u, v] t (0, 0))) (hu : ∀ x, u ≠ .int .u8 x) (hv : ∀ x, v ≠ .int .u8 x) (hx : SlE byE 1 W A n l) : 0 < n → ∀ a, A = some a → a.block ≠ k := by
  intro hn a ha hk
  obtain ⟨b, o, y, hA, hb, hy, hc⟩ := hx.at_ byE_len hn
  rw [ha, Option.some.injEq] at hA
  have q := hc 0 _ rfl
  subst hA
  dsimp only at hk
  subst hk
  rw [cell_of_row _ _ _ _ _ (0, 0) h] at q
  generalize o + 0 * 1 + 0 = j at q
  match j, q with
  | 0, q => exact hu _ (by simpa using q)
  | 1, q => exact hv _ (by simpa using q)
  | j + 2, q => simp at q
theorem sl_part {w : World} {A : Option Addr} {n m : Nat} {xs ys : List Value} (h : Sl w 1 A n xs) (hm : m ≤ n) (hy : ys = xs.take m) : Sl w 1 A m ys := by
  subst hy
  obtain ⟨h1, h2⟩ := h
  refine ⟨by rw [List.length_take, h1]; omega, fun h0 => ?_⟩
  obtain ⟨b, o, hA, hb, hc⟩ := h2 (by omega)
  exact ⟨b, o, hA, hb, fun j v hj => hc j v (by rw [List.getElem?_take] at hj; split at hj; exact hj; cases hj)⟩
/-- The pointer of a slice that begins k elements later. -/
def tlA (A : Option Addr) (k cp : Nat) : Option Addr := if cp = k then A else A.map (·.add k)
theorem tlA_lt {A : Option Addr} {k n cp B : Nat} (h : ∀ a, 0 < n → A = some a → a.block < B) (hn : 0 < n) {a : Addr} (ha : tlA A k cp = some a) : a.block < B := by
  unfold tlA at ha
  split at ha
  · exact h a hn ha
  · cases A with
    | none => cases ha
    | some x =>
      rw [Option.map_some, Option.some.injEq] at ha
      subst ha
      have e : (x.add k).block = x.block := by unfold Addr.add; split <;> rfl
      rw [e]
      exact h x hn rfl
theorem run_from (A : Option Addr) (n cp k : Nat) (hk : k ≤ n) (W : World) : (Instr.slice 107 (.slice A n cp) (some (.int .i64 (k : Int))) none none).run Tryz.prog W = .ok (.slice (tlA A k cp) (n - k) (cp - k)) W := by
  have ht : Tryz.prog.underlying 107 = some (.slice (Tryz.prog.elem 107)) := by simp [Program.elem, Tryz.underlying107]
  have he : Tryz.prog.elem 107 = 5 := by simp [Program.elem, Tryz.underlying107]
  have hz : ∀ w, (Go.sizeOf 5).run Tryz.prog w = .ok 1 w := fun w => by kernel_rfl
  rw [run_slice_l W 107 _ _ _ ht .i64 _ (by omega) (by omega), he, hz]
  simp [Result.andThen, sliced, tlA]
theorem run_upto (A : Option Addr) (n cp k : Nat) (hk : k ≤ cp) (W : World) : (Instr.slice 107 (.slice A n cp) none (some (.int .i64 (k : Int))) none).run Tryz.prog W = .ok (.slice A k cp) W := by
  have ht : Tryz.prog.underlying 107 = some (.slice (Tryz.prog.elem 107)) := by simp [Program.elem, Tryz.underlying107]
  have he : Tryz.prog.elem 107 = 5 := by simp [Program.elem, Tryz.underlying107]
  have hz : ∀ w, (Go.sizeOf 5).run Tryz.prog w = .ok 1 w := fun w => by kernel_rfl
  rw [run_slice_h W 107 _ _ _ ht .i64 _ (by omega) (by omega), he, hz]
  cases A <;> simp [Result.andThen, sliced, Addr.add]
theorem by_tail {W : World} {A : Option Addr} {n k cp : Nat} {l : List UInt8} (h : SlE byE 1 W A n l) (hk : k ≤ n) (hc : n ≤ cp) : SlE byE 1 W (tlA A k cp) (n - k) (l.drop k) := by
  have hn := h.1
  refine ⟨by rw [List.length_drop]; omega, by rw [flat_length byE_len, List.length_drop]; omega, fun h0 => ?_⟩
  obtain ⟨b, o, hA, hb, hcc⟩ := h.2.2 (by omega)
  subst hA
  have e : (⟨b, o, none⟩ : Addr).add k = ⟨b, o + k, none⟩ := by unfold Addr.add; split <;> simp_all
  refine ⟨b, o + k, by unfold tlA; rw [if_neg (by omega), Option.map_some, e], hb, fun j u hj => ?_⟩
  have hf : (l.drop k).flatMap byE = (l.flatMap byE).drop k := by
    unfold byE
    rw [← List.map_eq_flatMap, ← List.map_eq_flatMap, List.map_drop]
  rw [hf, List.getElem?_drop] at hj
  rw [Nat.add_assoc]
  exact hcc _ _ hj
theorem by_head {W : World} {A : Option Addr} {n k : Nat} {l : List UInt8} (h : SlE byE 1 W A n l) (hk : k ≤ n) : SlE byE 1 W A k (l.take k) := by
  have hn := h.1
  refine ⟨by rw [List.length_take]; omega, sl_part h.2 hk ?_⟩
  unfold byE
  rw [← List.map_eq_flatMap, ← List.map_eq_flatMap, List.map_take]
theorem infoB2 : (Tryz.prog.info? 5).map (fun i => (i.zero, i.size, i.bytes)) = some (some (.int .u8 0), 1, 1) := by kernel_rfl
theorem run_mkB2 (m : Nat) (hm : m ≤ 1000000) (w : World) : (Instr.makeSlice 107 (.int .i64 (m : Int)) (.int .i64 (m : Int))).run Tryz.prog w = .ok (.slice (some ⟨w.heap.size, 0, none⟩) m m) (w.alloc (.cells (madeCells #[.int .u8 0] m) 5)) :=
  run_make_row' 107 5 (.int .u8 0) 1 Tryz.underlying107 infoB2 rfl .i64 .i64 m (by omega) (by omega) w
theorem made_by (m : Nat) : (madeCells #[.int .u8 0] m).toList = (List.replicate m (0 : UInt8)).flatMap byE := by
  unfold byE
  rw [← List.map_eq_flatMap, List.map_replicate]
  refine List.ext_getElem (by simp [madeCells]) fun i h1 h2 => ?_
  simp [madeCells, Nat.mod_one]
set_option maxRecDepth 8000 in
set_option maxHeartbeats 4000000 in
theorem ctake_any (w : World) (B k n : Nat) (c : Cu) (h : CurS w B k c) (hn : n ≤ 70000) :
    Calls Tryz.prog 65 #[.pointer (some ⟨k, 0, none⟩), .int .i64 (n : Int)] w fun e w' => ∃ A' cp', e = .returned (.slice A' n cp') ∧ SlE byE 1 w' A' n (c.take n).1 ∧ n ≤ cp' ∧ CurS w' B k (c.take n).2 ∧ Kx (fun j => j = k) w w' := by
  refine calls_cps ?_
  intro R hR
  obtain ⟨A, m, cp, h1, h2, h3, h4, h5⟩ := h
  obtain ⟨r, o⟩ := c
  have hm := h2.1
  dsimp only at h1 h2 hm
  obtain ⟨c0, c1, f0⟩ := cells2 h1
  have fr0 := f0 0
  have fr1 := f0 1
  have hne := by_ne h1 (by simp) (by simp) h2
  by_cases hov : o = true ∨ m < n
  · have hz := made_by n
    have HF := Lib.hid (hR.out (.returned (.slice (some ⟨w.heap.size, 0, none⟩) n n)) ((w.setCell ⟨k, 1, none⟩ (.bool true)).alloc (.cells (madeCells #[.int .u8 0] n) 5)) (by
      have e : Cu.take ⟨r, o⟩ n = (List.replicate n 0, ⟨r, true⟩) := by
        unfold Cu.take
        dsimp only
        rw [← hm, if_pos hov]
      rw [e]
      have hs : (w.setCell ⟨k, 1, none⟩ (.bool true)).heap.size = w.heap.size := hsize_set _ _ _
      have hn1 := Sl.newAt (w.setCell ⟨k, 1, none⟩ (.bool true)) (madeCells #[.int .u8 0] n) 5 1 n (by simp [madeCells]) hs.symm
      rw [hz] at hn1
      have hh := hset (i := 1) (v := .bool true) h1
      refine ⟨_, n, rfl, ⟨by simp, hn1⟩, Nat.le_refl _, ⟨A, m, cp, (heap_alloc_old _ _ (Array.getElem?_eq_some_iff.1 hh).1).trans hh, ⟨hm, (h2.2.setCell (p := ⟨k, 1, none⟩) hne (.bool true)).alloc _⟩, h3, h4, h5⟩, ?_⟩
      exact (kx_put w k 1 _).below (below_new _ _)))
    have hs : (w.setCell ⟨k, 1, none⟩ (.bool true)).heap.size = w.heap.size := hsize_set _ _ _
    have hmk := run_mkB2 n (by omega)
    clear hR h1 h2 hne hz f0 hm
    cases o
    · have i1 : (n : Int) > (m : Int) := by
        rcases hov with h | h
        · cases h
        · omega
      clear hov hs
      go_enter Tryz.func65, Tryz.ntmps65
      go_wp2
      exact HF.out
    · clear hov hs
      go_enter Tryz.func65, Tryz.ntmps65
      go_wp2
      exact HF.out
  · have ho : o = false := by cases o <;> simp_all
    subst ho
    have hnm : n ≤ m := by omega
    have i1 : ¬ (n : Int) > (m : Int) := by omega
    have hu := run_upto A m cp n (by omega)
    have hf := run_from A m cp n hnm
    have HF := Lib.hid (hR.out (.returned (.slice A n cp)) (w.setCell ⟨k, 0, none⟩ (.slice (tlA A n cp) (m - n) (cp - n))) (by
      have e : Cu.take ⟨r, false⟩ n = (r.take n, ⟨r.drop n, false⟩) := by
        unfold Cu.take
        dsimp only
        rw [← hm, if_neg (by simp; exact hnm)]
      rw [e]
      have hh := hset (i := 0) (v := .slice (tlA A n cp) (m - n) (cp - n)) h1
      have h6 : SlE byE 1 (w.setCell ⟨k, 0, none⟩ (.slice (tlA A n cp) (m - n) (cp - n))) A m r := ⟨h2.1, h2.2.setCell hne _⟩
      exact ⟨_, cp, rfl, by_head h6 hnm, by omega, ⟨_, _, _, hh, by_tail h6 hnm h3, by omega, by omega, fun a ha hA => tlA_lt h5 (by omega) hA⟩, kx_put w k 0 _⟩))
    obtain ⟨A2, hA2⟩ : ∃ A2, tlA A n cp = A2 := ⟨_, rfl⟩
    rw [hA2] at HF hf
    clear hR h1 h2 hne hA2 f0 hm hov
    go_enter Tryz.func65, Tryz.ntmps65
    go_wp2
    exact HF.out
end
end
section
section
open Go.RowKit
theorem beN_snoc (l : List UInt8) (c : UInt8) : beN (l ++ [c]) = beN l * 256 + c.toNat := by
  unfold beN
  rw [List.foldl_append]
  rfl
theorem beN_lt : ∀ (l : List UInt8), beN l < 256 ^ l.length := by
  intro l
  have go : ∀ (l : List UInt8) (a k : Nat), a < 256 ^ k → l.foldl (fun a c => a * 256 + c.toNat) a < 256 ^ (k + l.length) := by
    intro l
    induction l with
    | nil => exact fun a k h => h
    | cons c l ih =>
      intro a k h
      rw [List.foldl_cons, List.length_cons, show k + (l.length + 1) = (k + 1) + l.length by omega]
      refine ih _ _ ?_
      have := c.toNat_lt
      rw [Nat.pow_succ]
      omega
  have := go l 0 0 (by decide)
  rw [Nat.zero_add] at this
  exact this
theorem or_256 (a b : Nat) (hb : b < 256) : (a * 256) ||| b = a * 256 + b := by
  have := Nat.two_pow_add_eq_or_of_lt (i := 8) (b := b) (by simpa using hb) a
  rw [show 2 ^ 8 * a = a * 256 by omega] at this
  exact this.symm
theorem i64_or_small (a b : Nat) (ha : a < 4294967296) (hb : b < 4294967296) : bits BinOp.or IntKind.i64 (a : Int) (b : Int) = ((a ||| b : Nat) : Int) := by
  have hx : a ||| b < 2 ^ 32 := Nat.or_lt_two_pow (by omega) (by omega)
  have h1 : (BitVec.ofInt 64 (a : Int)).toNat = a := by rw [BitVec.ofInt_natCast, BitVec.toNat_ofNat]; exact Nat.mod_eq_of_lt (by omega)
  have h2 : (BitVec.ofInt 64 (b : Int)).toNat = b := by rw [BitVec.ofInt_natCast, BitVec.toNat_ofNat]; exact Nat.mod_eq_of_lt (by omega)
  show IntKind.i64.wrap ((BitVec.ofInt 64 (a : Int) ||| BitVec.ofInt 64 (b : Int)).toNat : Int) = _
  rw [BitVec.toNat_or, h1, h2, IntKind.wrap_i64]
  omega
theorem take_len (c : Cu) (n : Nat) : (c.take n).1.length = n := by
  unfold Cu.take
  split
  · rw [List.length_replicate]
  · rename_i h
    rw [List.length_take]
    omega
theorem ctake_len (c : Cu) (n : Nat) : (c.take n).2.r.length ≤ c.r.length := by
  unfold Cu.take
  split
  · exact Nat.le_refl _
  · rw [List.length_drop]
    exact Nat.sub_le _ _
theorem num_lt (c : Cu) {s : Nat} (hs : s ≤ 4) : (c.num s).1 < 4294967296 := by
  have h := beN_lt (c.take s).1
  rw [take_len] at h
  have e : (256 : Nat) ^ 4 = 4294967296 := rfl
  have : 256 ^ s ≤ 256 ^ 4 := Nat.pow_le_pow_right (by decide) hs
  show beN (c.take s).1 < _
  omega
set_option maxRecDepth 8000 in
set_option maxHeartbeats 4000000 in
theorem cnum_any (w : World) (B k s : Nat) (c : Cu) (h : CurS w B k c) (hs : s ≤ 4) :
    Calls Tryz.prog 64 #[.pointer (some ⟨k, 0, none⟩), .int .i64 (s : Int)] w fun e w' => e = .returned (.int .i64 ((c.num s).1 : Int)) ∧ CurS w' B k (c.num s).2 ∧ Kx (fun j => j = k) w w' := by
  refine calls_cps ?_
  intro R hR
  have HT := Lib.hid (ctake_any w B k s c h (by omega))
  have hlen := take_len c s
  unfold Cu.num at hR
  obtain ⟨P, hP⟩ : ∃ P, c.take s = P := ⟨_, rfl⟩
  rw [hP] at HT hR hlen
  obtain ⟨l, c2⟩ := P
  dsimp only at HT hR hlen
  have HL := Lib.hid hlen
  clear h hP hlen
  go_enter Tryz.func64, Tryz.ntmps64
  go_wp2_with fail
  refine HT.out.mono ?_
  rintro e w1 ⟨A', cp', rfl, hx, -, hc1, hk1⟩
  have Hr := Lib.hid (fun v (hv : v = beN l) => hR.out (.returned (.int .i64 (v : Int))) w1 ⟨by rw [hv], hc1, hk1⟩)
  have HX := Lib.hid hx
  clear hx hc1 hk1 hR HT
  go_wp2_with fail
  go_loopw [5, 12] (fun s5 s12 wr => ∃ (j v : Nat), j ≤ s ∧ s12 = .int .i64 (j : Int) ∧ s5 = .int .i64 (v : Int) ∧ Hid (v < 256 ^ j) ∧ Hid (v = beN (l.take j)) ∧ wr = w1) (fun _ s12 _ => s - (intOf s12).toNat)
  case atStart => exact ⟨0, 0, Nat.zero_le _, rfl, rfl, Lib.hid (by decide), Lib.hid rfl, rfl⟩
  case round =>
    obtain ⟨j, v, hj, rfl, rfl, Hlt, Hv, rfl⟩ := hrel
    by_cases hlt : j < s
    · obtain ⟨b, o, y, rfl, hb, hy, hc⟩ := HX.out.at_ byE_len hlt
      have q0 := hc 0 _ rfl
      have hy256 : (y.toNat : Int) < 256 := by have := y.toNat_lt; omega
      have i1 : (j : Int) < (s : Int) := by omega
      have Hy := Lib.hid hy
      simp only [Nat.mul_one, Nat.add_zero] at q0
      have hv3 : v < 16777216 := by
        have h1 := Hlt.out
        have h2 : 256 ^ j ≤ 256 ^ 3 := Nat.pow_le_pow_right (by decide) (by omega)
        have h3 : (256 : Nat) ^ 3 = 16777216 := rfl
        omega
      clear hc hy
      go_wp2_with fail
      refine ⟨⟨j + 1, v * 256 + y.toNat, hlt, by go_num, ?_, Lib.hid ?_, Lib.hid ?_, by trivial⟩, by simp [intOf] <;> omega⟩
      · have hz : ((v : Int) * 256) = ((v * 256 : Nat) : Int) := by omega
        rw [hz, i64_or_small _ _ (by omega) (by omega), or_256 _ _ (by omega)]
      · have := Hlt.out
        have := y.toNat_lt
        rw [Nat.pow_succ]
        omega
      · rw [List.take_add_one, Hy.out, Hv.out]
        exact (beN_snoc _ _).symm
    · have hkn : j = s := by omega
      subst hkn
      have i1 : ¬ (j : Int) < (j : Int) := by omega
      have Hf := Hr.out v (by rw [Hv.out, List.take_of_length_le (by rw [HL.out]; exact Nat.le_refl _)])
      have HF := Lib.hid Hf
      clear Hr Hf Hv HX Hlt HL
      go_wp2
      exact HF.out
/-- The bytes of a slice, as a string. -/
theorem run_str {w : World} {A : Option Addr} {n : Nat} {l : List UInt8} (h : SlE byE 1 w A n l) (cp : Nat) : (convert 107 9 (.slice A n cp)).run Tryz.prog w = .ok (.string ⟨l.toArray⟩) w := by
  have hn := h.1
  subst hn
  cases A with
  | none =>
    have h0 : l.length = 0 := Nat.eq_zero_of_not_pos fun hp => by
      obtain ⟨b, o, hA, -⟩ := h.2.2 hp
      cases hA
    have hl := List.eq_nil_of_length_eq_zero h0
    subst hl
    rw [run_convert_bytes_string w 107 9 5 none _ cp Tryz.underlying107 Tryz.underlying5 Tryz.underlying9]
    simp [Conv.bytesToString]
    rfl
  | some a =>
    refine run_convert_bytes_back w 107 9 5 a cp l Tryz.underlying107 Tryz.underlying5 Tryz.underlying9 fun j hj => ?_
    obtain ⟨b, o, hA, -, hc⟩ := h.2.2 (by omega)
    cases hA
    have e : (⟨b, o, none⟩ : Addr).add j = ⟨b, o + j, none⟩ := by unfold Addr.add; split <;> simp_all
    rw [e]
    refine hc j _ ?_
    unfold byE
    rw [← List.map_eq_flatMap, List.getElem?_map, List.getElem?_eq_getElem hj]
    rfl
set_option maxRecDepth 8000 in
set_option maxHeartbeats 4000000 in
theorem ctext_any (w : World) (B k : Nat) (c : Cu) (h : CurS w B k c) :
    Calls Tryz.prog 67 #[.pointer (some ⟨k, 0, none⟩)] w fun e w' => e = .returned (.string ⟨c.text.1.toArray⟩) ∧ CurS w' B k c.text.2 ∧ Kx (fun j => j = k) w w' := by
  refine calls_cps ?_
  intro R hR
  have HN := Lib.hid (cnum_any w B k 1 c h (by omega))
  have h1 := beN_lt (c.take 1).1
  rw [take_len] at h1
  have h2 : (c.num 1).1 < 256 := by show beN (c.take 1).1 < 256; omega
  unfold Cu.text at hR
  obtain ⟨P, hP⟩ : ∃ P, c.num 1 = P := ⟨_, rfl⟩
  rw [hP] at HN hR h2
  obtain ⟨n, c2⟩ := P
  dsimp only at HN hR h2
  have Hr := Lib.hid hR
  clear h hP h1 hR
  go_enter Tryz.func67, Tryz.ntmps67
  go_wp2_with fail
  refine HN.out.mono ?_
  rintro e w1 ⟨rfl, hc1, hk1⟩
  have HT := Lib.hid (ctake_any w1 B k n c2 hc1 (by omega))
  have hlen := take_len c2 n
  obtain ⟨Q, hQ⟩ : ∃ Q, c2.take n = Q := ⟨_, rfl⟩
  rw [hQ] at HT hlen Hr
  obtain ⟨l, c3⟩ := Q
  dsimp only at HT hlen Hr
  have HK1 := Lib.hid hk1
  clear hc1 hk1 hQ HN
  go_wp2_with fail
  refine HT.out.mono ?_
  rintro e w2 ⟨A', cp', rfl, hx, -, hc2, hk2⟩
  have HF := Lib.hid (Hr.out.out (.returned (.string ⟨l.toArray⟩)) w2 ⟨rfl, hc2, HK1.out.trans hk2 (fun _ _ h => h)⟩)
  clear HT hlen hc2 hk2 HK1 Hr
  have hcv := run_str hx cp'
  clear hx
  go_wp2_with fail
  exact HF.out
end
end
section
section
open Go.RowKit
theorem mvs_len (c : Cu) : ∀ k, (Cu.mvs k c).1.length = k
  | 0 => rfl
  | k + 1 => by
    unfold Cu.mvs
    rw [List.length_append, mvs_len c k]
    rfl
theorem text_len (c : Cu) : c.text.1.length < 256 := by
  unfold Cu.text
  rw [take_len]
  have h := beN_lt (c.take 1).1
  rw [take_len] at h
  exact h
theorem lt_size {l : List UInt8} {n : Nat} (h : l.length < n) : (⟨l.toArray⟩ : ByteArray).size < n := by
  show l.toArray.size < n
  rw [List.size_toArray]
  exact h
theorem mvs_small (c : Cu) : ∀ k, mvS (Cu.mvs k c).1
  | 0 => fun m hm => by cases hm
  | k + 1 => fun m hm => by
    unfold Cu.mvs at hm
    rcases List.mem_append.1 hm with hm | hm
    · exact mvs_small c k m hm
    · rw [List.mem_singleton] at hm
      subst hm
      unfold Cu.mv
      dsimp only
      have h1 := lt_size (text_len (Cu.mvs k c).2)
      have h2 := lt_size (text_len (Cu.mvs k c).2.text.2)
      have h3 := lt_size (text_len (Cu.mvs k c).2.text.2.text.2)
      exact ⟨by omega, by omega, by omega⟩
theorem CurS.cells {W : World} {B k : Nat} {c : Cu} (h : CurS W B k c) : ∃ A n cp, W.cell? ⟨k, 0, none⟩ = some (.slice A n cp) ∧ W.cell? ⟨k, 1, none⟩ = some (.bool c.o) ∧ n = c.r.length ∧ n ≤ 100000 := by
  obtain ⟨A, n, cp, h1, h2, h3, h4, h5⟩ := h
  obtain ⟨c0, c1, -⟩ := cells2 h1
  exact ⟨A, n, cp, c0, c1, h2.1, h4⟩
theorem cur_new {w : World} {A : Option Addr} {n cp : Nat} {x : List UInt8} (h : SlE byE 1 w A n x) (h1 : n ≤ cp) (h2 : n ≤ 100000) : CurS (w.alloc (.cells #[.slice A n cp, .bool false] 162)) (w.heap.size + 1) w.heap.size ⟨x, false⟩ :=
  ⟨A, n, cp, heap_alloc_new w _, h.alloc _, h1, h2, fun a hn ha => by
    obtain ⟨b, o, hA, hb, -⟩ := h.2.2 hn
    rw [ha, Option.some.injEq] at hA
    subst hA
    show b < _
    omega⟩
/-- Below where a cursor alone is turned. -/
theorem Below.cur {b k : Nat} {w W W' : World} (h : Below b w W) (kx : Kx (fun j => j = k) W W') (hk : b ≤ k) (hb : b ≤ W.heap.size) : Below b w W' := Kx.low h kx (fun j hj => by subst hj; exact hk) hb
theorem own_ge0 {W : World} {B e sz n g : Nat} {v : Value} {xs : List Value} (h : W.ownsRow B e sz v n xs) (hg : v.ownBlock = some g) : B ≤ g := by
  rcases h.2 with ⟨rfl, _⟩ | ⟨g1, c1, cur1, rfl, h1, _⟩
  · simp [Value.ownBlock] at hg
  · have : g1 = g := by simpa [Value.ownBlock] using hg
    omega
theorem own_kx {W w : World} {B k e sz n : Nat} {v : Value} {xs : List Value} (h : W.ownsRow B e sz v n xs) (kx : Kx (fun j => j = k) W w) (hk : k < B) : w.ownsRow B e sz v n xs :=
  own_heap h fun g hg => kx.block g (own_lt h hg) (fun e => by have := own_ge0 h hg; omega)
/-- What a round has. -/
structure DcI (w : World) (k B k2 : Nat) (v : Value) (j : Nat) (l : List Mv) (c : Cu) (W : World) : Prop where
  row : W.ownsRow B 142 4 v j (l.flatMap mvE)
  cur : CurS W B k2 c
  low : Below k w W
  big : B ≤ W.heap.size
theorem DcI.step {w W W' : World} {k B k2 j : Nat} {v : Value} {l : List Mv} {c c' : Cu} (h : DcI w k B k2 v j l c W) (hc : CurS W' B k2 c') (kx : Kx (fun j => j = k2) W W') (hk : k < k2) (hB : k2 < B) : DcI w k B k2 v j l c' W' :=
  ⟨own_kx h.row kx hB, hc, Below.cur h.low kx (by omega) (by have := h.big; omega), Nat.le_trans h.big kx.size⟩
theorem DcI.alloc {w W : World} {k B k2 j : Nat} {v : Value} {l : List Mv} {c : Cu} (h : DcI w k B k2 v j l c W) (hk : k ≤ B) (o : Obj) : DcI w k B k2 v j l c (W.alloc o) :=
  ⟨h.row.alloc o, h.cur.below (below_new W o), h.low.alloc (by have := h.big; omega) o, Nat.le_trans h.big (below_new W o).size⟩
theorem DcI.set {w W : World} {k B k2 j m i : Nat} {v u : Value} {l : List Mv} {c : Cu} (h : DcI w k B k2 v j l c W) (hk : k ≤ B) (hk2 : k2 < B) (hm : B ≤ m) (hg : ∀ g, v.ownBlock = some g → g < m) : DcI w k B k2 v j l c (W.setCell ⟨m, i, none⟩ u) := by
  obtain ⟨A, n, cp, h1, h2, h3, h4, h5⟩ := h.cur
  refine ⟨own_heap h.row fun g e => hset_ne (by have := hg g e; omega), ⟨A, n, cp, (hset_ne (by omega)).trans h1, ⟨h2.1, h2.2.setCell (fun hn a ha => by have := h5 a hn ha; show a.block ≠ m; omega) u⟩, h3, h4, h5⟩, ⟨h.low.os, h.low.tape, h.low.output, by rw [hsize_set]; exact h.low.size, fun b hb => (hset_ne (by omega)).trans (h.low.block b hb)⟩, by rw [hsize_set]; exact h.big⟩
theorem DcI.app {w W W' : World} {k B k2 j : Nat} {v v' : Value} {l l' : List Mv} {c : Cu} (h : DcI w k B k2 v j l c W) (hk : k ≤ B) (hk2 : k2 < B) (ho : W'.ownsRow B 142 4 v' (j + 1) (l'.flatMap mvE)) (hg : W.grownBy W' v.ownBlock) : DcI w k B k2 v' (j + 1) l' c W' :=
  ⟨ho, h.cur.grown hg hk2 (fun g e => own_ge0 h.row e), ⟨hg.os.trans h.low.os, hg.tape.trans h.low.tape, hg.output.trans h.low.output, Nat.le_trans h.low.size hg.size, fun b hb => (hg.block b (by have := h.big; omega) (fun e => by have := own_ge0 h.row e.symm; omega)).trans (h.low.block b hb)⟩, Nat.le_trans h.big hg.size⟩
set_option maxRecDepth 8000 in
set_option maxHeartbeats 8000000 in
theorem decode_any (w : World) (A : Option Addr) (n cp : Nat) (x : List UInt8) (h : SlE byE 1 w A n x) (hc : n ≤ cp) (hn : n ≤ 65536) :
    Calls Tryz.prog 41 #[.slice A n cp] w fun e w' => ∃ A' m' c', e = .returned (.tuple #[.slice A' m' c', .int .i64 ((decP x).2 : Int)]) ∧ m' = (decP x).1.length ∧ w'.ownsRow w.heap.size 142 4 (.slice A' m' c') m' ((decP x).1.flatMap mvE) ∧ Below w.heap.size w w' := by
  refine calls_cps ?_
  intro R hR
  have Hr := Lib.hid hR.out
  have H0 := Lib.hid (cur_new h hc (by omega))
  have HB0 := Lib.hid (below_new w (.cells #[.slice A n cp, .bool false] 162))
  obtain ⟨k, hk⟩ : ∃ k, w.heap.size = k := ⟨_, rfl⟩
  have HK := Lib.hid hk
  have HS0 := Lib.hid (show k + 1 ≤ (w.alloc (.cells #[.slice A n cp, .bool false] 162)).heap.size by simp; omega)
  rw [hk] at H0 HB0 Hr
  clear hR h hk
  go_enter Tryz.func41, Tryz.ntmps41
  go_wp2_with fail
  rw [HK.out]
  refine (cnum_any _ _ k 2 _ H0.out (by omega)).mono ?_
  rintro e w1 ⟨rfl, hc1, hk1⟩
  have H1 := Lib.hid hc1
  have HB1 := Lib.hid (Below.cur HB0.out hk1 (Nat.le_refl _) (by have := HS0.out; omega))
  have HS1 := Lib.hid (Nat.le_trans HS0.out hk1.size)
  clear hc1 hk1 H0 HB0
  have Ha : Hid ((⟨x, false⟩ : Cu).num 2 = decA x) := Lib.hid rfl
  have ha4 := num_lt (⟨x, false⟩ : Cu) (s := 2) (by omega)
  have ha2 : (decA x).1 < 65536 := by
    have h1 := beN_lt ((⟨x, false⟩ : Cu).take 2).1
    rw [take_len] at h1
    exact h1
  rw [Ha.out] at H1 ha4
  rw [show (((⟨x, false⟩ : Cu).num 2).1) = (decA x).1 from rfl]
  clear Ha
  go_wp2_with fail
  refine (cnum_any _ _ k 4 _ H1.out (by omega)).mono ?_
  rintro e w2 ⟨rfl, hc2, hk2⟩
  have H2 := Lib.hid hc2
  have HB2 := Lib.hid (Below.cur HB1.out hk2 (Nat.le_refl _) (by have := HS1.out; omega))
  have HS2 := Lib.hid (Nat.le_trans HS1.out hk2.size)
  have hb4 := num_lt (decA x).2 (s := 4) (by omega)
  clear hc2 hk2 H1 HB1
  rw [show ((decA x).2.num 4) = decB x from rfl] at H2 hb4
  rw [show (((decA x).2.num 4).1) = (decB x).1 from rfl]
  go_wp2_with fail
  refine (ctake_any _ _ k (decA x).1 _ H2.out (by omega)).mono ?_
  rintro e w3 ⟨A3, cp3, rfl, hx3, hcp3, hc3, hk3⟩
  have H3 := Lib.hid hc3
  have HB3 := Lib.hid (Below.cur HB2.out hk3 (Nat.le_refl _) (by have := HS2.out; omega))
  have HS3 := Lib.hid (Nat.le_trans HS2.out hk3.size)
  have HX3 := Lib.hid hx3
  clear hc3 hk3 H2 HB2 hx3
  rw [show ((decB x).2.take (decA x).1) = decD x from rfl] at H3 HX3
  obtain ⟨A4, n4, cp4, -, q1, -, -⟩ := H3.out.cells
  obtain ⟨a1, hA1⟩ : ∃ a1, (decA x).1 = a1 := ⟨_, rfl⟩
  obtain ⟨b1, hB1⟩ : ∃ b1, (decB x).1 = b1 := ⟨_, rfl⟩
  have HA1 := Lib.hid hA1
  have HB1 := Lib.hid hB1
  rw [hA1] at ha2 ha4 HX3
  rw [hB1] at hb4
  simp only [hA1, hB1]
  clear hA1 hB1 H3
  have HSm := Lib.hid (sum_any A3 a1 cp3 _ w3 HX3.out (by omega))
  have hsl := sumL_lt (decD x).1
  have Hno : (decP x) = ([], 0) → Hid (R (.returned (.tuple #[.slice none 0 0, .int .i64 0])) w3) := fun e => Lib.hid (Hr.out _ _ ⟨none, 0, 0, by rw [e]; rfl, by rw [e]; rfl, by rw [e]; exact World.ownsRow_nil _ _ _ _, HB3.out⟩)
  cases ho : (decD x).2.o
  · rw [ho] at q1
    by_cases hsum : b1 = sumL (decD x).1
    · have Hyes : ∀ A' m' c' w', m' = (decM x).1.length → w'.ownsRow k 142 4 (.slice A' m' c') m' ((decM x).1.flatMap mvE) → Below k w w' → ¬ ((decM x).2.o = true ∨ 0 < (decM x).2.r.length ∨ enOk (decM x).1 = false) → R (.returned (.tuple #[.slice A' m' c', .int .i64 ((6 : Int) + (a1 : Int))])) w' := fun A' m' c' w' h1 h2 h3 h4 => Hr.out _ _ ⟨A', m', c', by
          unfold decP
          rw [if_neg (by rw [ho, HB1.out]; simp [hsum]), if_neg h4, HA1.out]
          simp, by
          unfold decP
          rw [if_neg (by rw [ho, HB1.out]; simp [hsum]), if_neg h4]
          exact h1, by
          unfold decP
          rw [if_neg (by rw [ho, HB1.out]; simp [hsum]), if_neg h4]
          exact h2, h3⟩
      have Hbad : ∀ w', Below k w w' → ((decM x).2.o = true ∨ 0 < (decM x).2.r.length ∨ enOk (decM x).1 = false) → R (.returned (.tuple #[.slice none 0 0, .int .i64 0])) w' := fun w' h3 h4 => Hr.out _ _ ⟨none, 0, 0, by
          unfold decP
          rw [if_neg (by rw [ho, HB1.out]; simp [hsum]), if_pos h4]
          rfl, by
          unfold decP
          rw [if_neg (by rw [ho, HB1.out]; simp [hsum]), if_pos h4]
          rfl, by
          unfold decP
          rw [if_neg (by rw [ho, HB1.out]; simp [hsum]), if_pos h4]
          exact World.ownsRow_nil _ _ _ _, h3⟩
      have HYes := Lib.hid Hyes
      have HBad := Lib.hid Hbad
      obtain ⟨s1, hs1⟩ : ∃ s1, sumL (decD x).1 = s1 := ⟨_, rfl⟩
      rw [hs1] at hsum hsl HSm
      have i1 : ((b1 : Int) == (s1 : Int)) = true := by rw [beq_iff_eq]; omega
      have i2 : ((b1 : Int) != (s1 : Int)) = false := by rw [bne_eq_false_iff_eq]; omega
      have hcp4 : a1 ≤ cp3 := by have := HA1.out; omega
      have H4 := Lib.hid (cur_new HX3.out hcp4 (by omega))
      have HB4 := Lib.hid (HB3.out.alloc (by have := HS3.out; omega) (.cells #[.slice A3 a1 cp3, .bool false] 162))
      obtain ⟨B, hB⟩ : ∃ B, w3.heap.size + 1 = B := ⟨_, rfl⟩
      obtain ⟨k2, hk2⟩ : ∃ k2, w3.heap.size = k2 := ⟨_, rfl⟩
      have hkk : k < k2 := by have := HS3.out; omega
      have hkB : k2 + 1 = B := by omega
      have HS4 := Lib.hid (show B ≤ (w3.alloc (.cells #[.slice A3 a1 cp3, .bool false] 162)).heap.size by simp; omega)
      have HK2 := Lib.hid hk2
      rw [hB, hk2] at H4
      clear Hno Hyes Hbad hs1 hsum hB hk2 ho Hr
      go_wp2_with (go_at_call 66; (with_reducible refine HSm.out.mono ?_); rintro e w' ⟨rfl, rfl⟩)
      rw [HK2.out]
      refine (cnum_any _ B k2 1 _ H4.out (by omega)).mono ?_
      rintro e w5 ⟨rfl, hc5, hk5⟩
      have H5 := Lib.hid hc5
      have HB5 := Lib.hid (Below.cur HB4.out hk5 (by omega) (by have := HS4.out; omega))
      have HS5 := Lib.hid (Nat.le_trans HS4.out hk5.size)
      have hK : (decK x).1 < 256 := by
        have h1 := beN_lt ((⟨(decD x).1, false⟩ : Cu).take 1).1
        rw [take_len] at h1
        exact h1
      clear hc5 hk5 H4 HB4 HSm
      rw [show (⟨(decD x).1, false⟩ : Cu).num 1 = decK x from rfl] at H5
      rw [show ((⟨(decD x).1, false⟩ : Cu).num 1).1 = (decK x).1 from rfl]
      have HM := Lib.hid (show Cu.mvs (decK x).1 (decK x).2 = decM x from rfl)
      obtain ⟨c0, hc0⟩ : ∃ c0, (decK x).2 = c0 := ⟨_, rfl⟩
      obtain ⟨K, hKe⟩ : ∃ K, (decK x).1 = K := ⟨_, rfl⟩
      rw [hc0] at H5 HM
      rw [hKe] at hK HM
      simp only [hKe]
      clear hc0 hKe
      go_wp2_with fail
      go_loopw [8, 36] (fun s8 s36 wr => ∃ (j c' : Nat) (A' : Option Addr), j ≤ K ∧ s36 = .int .i64 (j : Int) ∧ s8 = .slice A' j c' ∧ Hid (DcI w k B k2 (.slice A' j c') j (Cu.mvs j c0).1 (Cu.mvs j c0).2 wr)) (fun _ s36 _ => K - (intOf s36).toNat)
      case atStart => exact ⟨0, 0, none, Nat.zero_le _, rfl, rfl, Lib.hid ⟨World.ownsRow_nil _ _ _ _, H5.out, HB5.out, HS5.out⟩⟩
      case round =>
        obtain ⟨j, c', A', hj, rfl, rfl, Hi⟩ := hrel
        by_cases hlt : j < K
        · have i3 : (j : Int) < (K : Int) := by omega
          clear H5 HB5 HS5
          obtain ⟨cj, hcj⟩ : ∃ cj, (Cu.mvs j c0).2 = cj := ⟨_, rfl⟩
          have Hcj := Lib.hid hcj
          rw [hcj] at Hi
          clear hcj
          go_wp2_with fail
          refine (ctext_any _ B k2 _ Hi.out.cur).mono ?_
          rintro e v1 ⟨rfl, hc1, hk1⟩
          have Hi1 := Lib.hid (Hi.out.step hc1 hk1 hkk (by omega))
          clear hc1 hk1 Hi
          go_wp2_with fail
          refine (ctext_any _ B k2 _ Hi1.out.cur).mono ?_
          rintro e v2 ⟨rfl, hc1, hk1⟩
          have Hi2 := Lib.hid (Hi1.out.step hc1 hk1 hkk (by omega))
          clear hc1 hk1 Hi1
          go_wp2_with fail
          refine (ctext_any _ B k2 _ Hi2.out.cur).mono ?_
          rintro e v3 ⟨rfl, hc1, hk1⟩
          have Hi3 := Lib.hid (Hi2.out.step hc1 hk1 hkk (by omega))
          clear hc1 hk1 Hi2
          obtain ⟨sf, hsf⟩ : ∃ sf : ByteArray, ⟨cj.text.1.toArray⟩ = sf := ⟨_, rfl⟩
          obtain ⟨st, hst⟩ : ∃ st : ByteArray, ⟨cj.text.2.text.1.toArray⟩ = st := ⟨_, rfl⟩
          obtain ⟨si, hsi⟩ : ∃ si : ByteArray, ⟨cj.text.2.text.2.text.1.toArray⟩ = si := ⟨_, rfl⟩
          rw [hsf, hst, hsi]
          have Hmv := Lib.hid (show cj.mv = (⟨sf, st, si, ((cj.text.2.text.2.text.2.num 4).1 : Int)⟩, (cj.text.2.text.2.text.2.num 4).2) by rw [← hsf, ← hst, ← hsi]; rfl)
          obtain ⟨m, hm⟩ : ∃ m, v3.heap.size = m := ⟨_, rfl⟩
          have Hgm := Lib.hid (show ∀ g, (Value.slice A' j c').ownBlock = some g → g < m from fun g hg => by rw [← hm]; exact own_lt Hi3.out.row hg)
          have hmB : B ≤ m := by have := Hi3.out.big; omega
          have Hi4 := Lib.hid (Hi3.out.alloc (by omega) (.cells #[.string sf, .string st, .string si, .int .i64 0] 142))
          have hM4 := heap_alloc_new v3 (.cells #[.string sf, .string st, .string si, .int .i64 0] 142)
          rw [hm] at hM4
          have HM4 := Lib.hid hM4
          have Hm := Lib.hid hm
          clear hsf hst hsi hm hM4 Hi3
          go_wp2_with fail
          rw [Hm.out]
          have hq4 := num_lt cj.text.2.text.2.text.2 (s := 4) (by omega)
          refine (cnum_any _ B k2 4 _ Hi4.out.cur (by omega)).mono ?_
          rintro e v5 ⟨rfl, hc1, hk1⟩
          have Hi5 := Lib.hid (Hi4.out.step hc1 hk1 hkk (by omega))
          have hM5 := (hk1.block m (Array.getElem?_eq_some_iff.1 HM4.out).1 (by omega)).trans HM4.out
          obtain ⟨q, hq⟩ : ∃ q, (cj.text.2.text.2.text.2.num 4).1 = q := ⟨_, rfl⟩
          rw [hq] at hq4 Hmv ⊢
          obtain ⟨d0, d1, d2, d3, df⟩ := hcell4 hM5
          have df3 := df 3
          have hM6 := hset (i := 3) (v := .int .i64 (q : Int)) hM5
          have Hi6 := Lib.hid (Hi5.out.set (i := 3) (u := .int .i64 (q : Int)) (by omega) (by omega) hmB Hgm.out)
          have Hi7 := Lib.hid (Hi6.out.alloc (by omega) (.cells #[.string sf, .string st, .string si, .int .i64 (q : Int)] 142))
          have hsz6 : (v5.setCell ⟨m, 3, none⟩ (.int .i64 (q : Int))).heap.size = v5.heap.size := hsize_set _ _ _
          clear hc1 hk1 hq hM5 hM6 df HM4 Hi4
          go_wp2_with (at_builtin; refine wpList_app rfl (.tmp 48) (.tmp 50) _ rfl elemMv B _ _ _ rfl Hi7.out.row _ _ _ _ rfl (Sl.newAt (v5.setCell ⟨m, 3, none⟩ (.int .i64 (q : Int))) #[.string sf, .string st, .string si, .int .i64 (q : Int)] _ 4 1 rfl hsz6.symm) (by simp [Value.oneCell']) (by unfold maxLen; omega) (by omega) Hi7.out.big ?_; intro A2 c2 w2 ho2 hg2 hl2; have HO2 := Lib.hid ho2; have HG2 := Lib.hid hg2; clear ho2 hg2 hl2)
          refine ⟨⟨j + 1, c2, A2, hlt, by go_num, rfl, Lib.hid ?_⟩, by simp [intOf] <;> omega⟩
          have e1 : (Cu.mvs (j + 1) c0).2 = (cj.text.2.text.2.text.2.num 4).2 := by
            show ((Cu.mvs j c0).2.mv).2 = _
            rw [Hcj.out, Hmv.out]
          have e2 : (Cu.mvs (j + 1) c0).1 = (Cu.mvs j c0).1 ++ [⟨sf, st, si, (q : Int)⟩] := by
            show (Cu.mvs j c0).1 ++ [((Cu.mvs j c0).2.mv).1] = _
            rw [Hcj.out, Hmv.out]
          rw [e1, e2]
          exact Hi7.out.app (by omega) (by omega) (by
            have h := HO2.out
            rw [List.flatMap_append]
            exact h) HG2.out
        · have hjK : j = K := by omega
          subst hjK
          have i3 : ¬ (j : Int) < (j : Int) := by omega
          rw [HM.out] at Hi
          have hlen : (decM x).1.length = j := by rw [← HM.out]; exact mvs_len c0 j
          have hsm : mvS (decM x).1 := by rw [← HM.out]; exact mvs_small c0 j
          obtain ⟨A6, n6, cp6, r0, r1, r2, r3⟩ := Hi.out.cur.cells
          have HE := Lib.hid (entry_any A' j c' (decM x).1 wr (SlE.of_own Hi.out.row hlen.symm) hsm (by omega))
          have HLen := Lib.hid hlen
          have HR2 := Lib.hid r2
          clear hsm H5 HB5 HS5 HM hlen r2
          cases ho : (decM x).2.o
          · rw [ho] at r1
            by_cases hn0 : 0 < n6
            · have i4 : (n6 : Int) > 0 := by omega
              have HF := Lib.hid (HBad.out wr Hi.out.low (.inr (.inl (by have := HR2.out; omega))))
              clear HBad HYes hn0
              go_wp2_with fail
              exact HF.out
            · have h0 : n6 = 0 := by omega
              subst h0
              cases hen : enOk (decM x).1
              · rw [hen] at HE
                have HF := Lib.hid (fun w' hb => HBad.out w' hb (.inr (.inr hen)))
                clear HBad HYes hn0
                go_wp2_with (go_at_call 68; (with_reducible refine HE.out.mono ?_); rintro e w' ⟨rfl, hb9⟩; have HB9 := Lib.hid (Hi.out.low.trans (hb9.mono (by have := Hi.out.big; omega))); clear hb9)
                exact HF.out _ HB9.out
              · rw [hen] at HE
                have HF := Lib.hid (fun w' h2 h3 => HYes.out A' j c' w' HLen.out.symm h2 h3 (by rw [ho, hen, ← HR2.out]; simp))
                clear HBad HYes hn0
                go_wp2_with (go_at_call 68; (with_reducible refine HE.out.mono ?_); rintro e w' ⟨rfl, hb9⟩; have HB9 := Lib.hid (Hi.out.low.trans (hb9.mono (by have := Hi.out.big; omega))); have HO9 := Lib.hid (ownsRow_below (own_mono Hi.out.row (show k ≤ B by omega)) hb9); clear hb9)
                exact HF.out _ HO9.out HB9.out
          · rw [ho] at r1
            have HF := Lib.hid (HBad.out wr Hi.out.low (.inl ho))
            clear HBad HYes
            go_wp2_with fail
            exact HF.out
    · have HF := Hno (by unfold decP; rw [if_pos (.inr (by rw [HB1.out]; exact hsum))])
      obtain ⟨s1, hs1⟩ : ∃ s1, sumL (decD x).1 = s1 := ⟨_, rfl⟩
      rw [hs1] at hsum hsl HSm
      have i1 : ((b1 : Int) == (s1 : Int)) = false := by rw [beq_eq_false_iff_ne]; omega
      have i2 : ((b1 : Int) != (s1 : Int)) = true := by rw [bne_iff_ne]; omega
      clear Hno hs1
      go_wp2_with (go_at_call 66; (with_reducible refine HSm.out.mono ?_); rintro e w' ⟨rfl, rfl⟩)
      exact HF.out
  · rw [ho] at q1
    have HF := Hno (by unfold decP; rw [if_pos (.inl ho)])
    clear Hno ho HSm
    go_wp2_with fail
    exact HF.out
end
end
section
section
open Go.RowKit
theorem own_cut {W : World} {B e n m c : Nat} {A : Option Addr} {xs : List Value} (h : W.ownsRow B e 1 (.slice A n c) n xs) (hm : m ≤ n) : W.ownsRow B e 1 (.slice A m c) m (xs.take m) := by
  obtain ⟨h1, h2⟩ := h
  refine ⟨by rw [List.length_take]; omega, ?_⟩
  rcases h2 with ⟨hv, h0⟩ | ⟨g, cap, cur, hv, h3, h4, h5, h6, h7, h8⟩
  · simp only [Value.slice.injEq] at hv
    obtain ⟨rfl, rfl, rfl⟩ := hv
    have : m = 0 := by omega
    subst this
    exact .inl ⟨rfl, rfl⟩
  · simp only [Value.slice.injEq] at hv
    obtain ⟨rfl, -, rfl⟩ := hv
    refine .inr ⟨g, c, cur, rfl, h3, h4, by omega, h6, h7, ?_⟩
    rw [← h8, List.take_take]
    congr 1
    omega
theorem by_take (l : List UInt8) (m : Nat) : (l.take m).flatMap byE = (l.flatMap byE).take m := by
  unfold byE
  rw [← List.map_eq_flatMap, ← List.map_eq_flatMap, List.map_take]
set_option maxRecDepth 8000 in
set_option maxHeartbeats 4000000 in
theorem darm_any (w : World) (F : Nat → Prop) (a : Nat) (d : Dk) (x : Int) (h : Dsk w F a d) (h0 : 0 < x) (h1 : x < 1000000000000) : Calls Tryz.prog 176 #[.pointer (some ⟨a, 0, none⟩), .int .i64 x] w fun e w' => e = .returned (.tuple #[]) ∧ Dsk w' F a (d.arm x) ∧ Kx (fun j => j = a) w w' := by
  refine calls_cps ?_
  intro R hR
  have HD := Lib.hid (ready_any w F a _ h)
  cases hdn : d.down
  · rw [hdn] at HD
    obtain ⟨ok, hf, A, c, h2, ho, hg⟩ := h
    obtain ⟨c0, c1, c2, c3, c4, f0⟩ := hcell5 h2
    have f4 := f0 4
    have hne := own_nea h2 ho (by decide)
    have HF := Lib.hid (hR.out (.returned (.tuple #[])) (w.setCell ⟨a, 4, none⟩ (.int .i64 x)) (by
      unfold Dk.arm
      rw [hdn, if_neg (by simp)]
      refine ⟨rfl, Dsk.set (A := A) (c := c) hf ⟨ok.1, ok.2.1, by show x.toNat < _; omega⟩ h2 ?_ ho hg hne, kx_put w a 4 _⟩
      unfold dkC
      dsimp only
      rw [hdn, show ((x.toNat : Nat) : Int) = x by omega]
      rfl))
    clear hR h2 ho hg hne f0 ok hdn
    go_enter Tryz.func176, Tryz.ntmps176
    go_wp2_with (go_at_call 40; (with_reducible refine (HD.out).mono ?_); rintro e w' ⟨rfl, rfl⟩)
    refine ⟨rfl, .tuple #[], ?_, HF.out⟩
    simp [results, Tryz.results176, go_sem]
  · have HF := Lib.hid (hR.out (.returned (.tuple #[])) w (by
      unfold Dk.arm
      rw [if_pos hdn]
      exact ⟨rfl, h, Kx.refl _ _⟩))
    rw [hdn] at HD
    clear hR h hdn
    go_enter Tryz.func176, Tryz.ntmps176
    go_wp2_with (go_at_call 40; (with_reducible refine (HD.out).mono ?_); rintro e w' ⟨rfl, rfl⟩)
    refine ⟨rfl, .tuple #[], ?_, HF.out⟩
    simp [results, Tryz.results176, go_sem]
set_option maxRecDepth 8000 in
set_option maxHeartbeats 4000000 in
theorem drestart_any (w : World) (F : Nat → Prop) (a : Nat) (d : Dk) (k : Nat) (h : Dsk w F a d) (hk : k ≤ 1000000) : Calls Tryz.prog 177 #[.pointer (some ⟨a, 0, none⟩), .int .i64 (k : Int)] w fun e w' => e = .returned (.tuple #[]) ∧ Dsk w' F a (d.restart (k : Int)) ∧ Kx (fun j => j = a) w w' := by
  refine calls_cps ?_
  intro R hR
  obtain ⟨ok, hf, A, c, h2, ho, hg⟩ := h
  obtain ⟨c0, c1, c2, c3, c4, f0⟩ := hcell5 h2
  have f1 := f0 1
  have f2 := f0 2
  have f3 := f0 3
  have f4 := f0 4
  have hne := own_nea h2 ho (by decide)
  obtain ⟨A0, c9, hsl, hcc⟩ : ∃ A0 c0, (Value.slice A d.B.length c) = .slice A0 d.B.length c0 ∧ d.B.length ≤ c0 := by
    obtain ⟨A0, c0, e, h1, -, -⟩ := own_slice ho
    exact ⟨A0, c0, e, h1⟩
  simp only [Value.slice.injEq, true_and] at hsl
  obtain ⟨rfl, rfl⟩ := hsl
  obtain ⟨K, hK⟩ : ∃ K, d.safe + min k (d.B.length - d.safe) = K := ⟨_, rfl⟩
  have hKl : K ≤ d.B.length := by have := ok.2.1; omega
  have hB := ok.1
  have hS := ok.2.1
  have hd : d.restart (k : Int) = ⟨d.B.take K, K, false, 0⟩ := by
    unfold Dk.restart
    rw [Int.toNat_natCast, hK]
  have HF := Lib.hid (hR.out (.returned (.tuple #[])) ((((w.setCell ⟨a, 1, none⟩ (.slice A K c)).setCell ⟨a, 2, none⟩ (.int .i64 (K : Int))).setCell ⟨a, 3, none⟩ (.bool false)).setCell ⟨a, 4, none⟩ (.int .i64 0)).drew.drew (by
    rw [hd]
    have hl : (d.B.take K).length = K := by rw [List.length_take]; omega
    have g1 := hset (i := 1) (v := .slice A K c) h2
    have g2 := hset (i := 2) (v := .int .i64 (K : Int)) g1
    have g3 := hset (i := 3) (v := .bool false) g2
    have g4 := hset (i := 4) (v := .int .i64 0) g3
    have hoc := own_cut ho hKl
    rw [← by_take] at hoc
    have hg' : ∀ g, (Value.slice A K c).ownBlock = some g → (Value.slice A d.B.length c).ownBlock = some g := fun g e => by
      cases A
      · simp [Value.ownBlock] at e
      · simpa [Value.ownBlock] using e
    have o1 := own_heap (w := w.setCell ⟨a, 1, none⟩ (.slice A K c)) hoc fun g e => hset_ne (hne g (hg' g e))
    have o2 := own_heap (w := (w.setCell ⟨a, 1, none⟩ (.slice A K c)).setCell ⟨a, 2, none⟩ (.int .i64 (K : Int))) o1 fun g e => hset_ne (hne g (hg' g e))
    have o3 := own_heap (w := ((w.setCell ⟨a, 1, none⟩ (.slice A K c)).setCell ⟨a, 2, none⟩ (.int .i64 (K : Int))).setCell ⟨a, 3, none⟩ (.bool false)) o2 fun g e => hset_ne (hne g (hg' g e))
    have o4 := own_heap (w := (((w.setCell ⟨a, 1, none⟩ (.slice A K c)).setCell ⟨a, 2, none⟩ (.int .i64 (K : Int))).setCell ⟨a, 3, none⟩ (.bool false)).setCell ⟨a, 4, none⟩ (.int .i64 0)) o3 fun g e => hset_ne (hne g (hg' g e))
    refine ⟨rfl, ⟨⟨by dsimp only; omega, by dsimp only; omega, by dsimp only; omega⟩, hf, A, c, ?_, by rw [hl]; exact o4, fun g e => hg g (hg' g (by rw [hl] at e; exact e))⟩, (((((kx_put w a 1 _).trans (kx_put _ a 2 _) (fun _ _ h => h)).trans (kx_put _ a 3 _) (fun _ _ h => h)).trans (kx_put _ a 4 _) (fun _ _ h => h)).drewN 1).drewN 1⟩
    refine Eq.trans g4 ?_
    unfold dkC
    dsimp only
    rw [hl]
    rfl))
  have hu := run_upto A d.B.length c K (by omega)
  obtain ⟨L, hL⟩ : ∃ L, d.B.length = L := ⟨_, rfl⟩
  obtain ⟨S, hS2⟩ : ∃ S, d.safe = S := ⟨_, rfl⟩
  rw [hL] at c1 hu hKl hB hS hK
  rw [hS2] at c2 hK hS
  clear hR h2 ho hg hne f0 ok hd hL hS2 hcc
  by_cases hkk : k ≤ L - S
  · have i1 : (k : Int) ≤ (L : Int) - (S : Int) := by omega
    have i2 : (S : Int) + (k : Int) = (K : Int) := by omega
    clear hkk hK
    rcases Nat.eq_zero_or_pos k with rfl | hk0
    · have e : K = S := by omega
      subst e
      go_enter Tryz.func177, Tryz.ntmps177
      go_upto_region 1 with fail
      go_region
      go_upto_region 2 with fail
      go_region
      go_wp2_with fail
      refine ⟨rfl, .tuple #[], ?_, HF.out⟩
      simp [results, Tryz.results177, go_sem]
    · go_enter Tryz.func177, Tryz.ntmps177
      go_upto_region 1 with fail
      go_region
      go_upto_region 2 with fail
      go_region
      go_wp2_with fail
      refine ⟨rfl, .tuple #[], ?_, HF.out⟩
      simp [results, Tryz.results177, go_sem]
  · have i1 : ¬ (k : Int) ≤ (L : Int) - (S : Int) := by omega
    have hk0 : 0 < k := by omega
    have e : K = L := by omega
    subst e
    have i2 : (S : Int) + ((K : Int) - (S : Int)) = (K : Int) := by omega
    clear hkk hK
    go_enter Tryz.func177, Tryz.ntmps177
    go_upto_region 1 with fail
    go_region
    go_upto_region 2 with fail
    go_region
    go_wp2_with fail
    refine ⟨rfl, .tuple #[], ?_, HF.out⟩
    simp [results, Tryz.results177, go_sem]
set_option maxRecDepth 8000 in
set_option maxHeartbeats 4000000 in
theorem dcut_any (w : World) (F : Nat → Prop) (a : Nat) (d : Dk) (m : Nat) (h : Dsk w F a d) (hm : m ≤ d.B.length) (hdn : d.down = false) (hlf : d.left = 0) : Calls Tryz.prog 43 #[.pointer (some ⟨a, 0, none⟩), .int .i64 (m : Int)] w fun e w' => e = .returned (.int .i64 0) ∧ Dsk w' F a { d with B := d.B.take m, safe := min d.safe m } ∧ Kx (fun j => j = a) w w' := by
  refine calls_cps ?_
  intro R hR
  have HD := Lib.hid (ready_any w F a _ h)
  have HA := Lib.hid (dact_any w F a _ h)
  have he : d.act = (d, false) := by unfold Dk.act; rw [if_pos hlf]
  rw [he] at HA
  rw [hdn] at HD
  obtain ⟨A0, c0', c1, _⟩ : ∃ A c, w.cell? ⟨a, 1, none⟩ = some (.slice A d.B.length c) ∧ True := by
    obtain ⟨ok, hf, A, c, h2, ho, hg⟩ := h
    exact ⟨A, c, (hcell5 h2).2.1, trivial⟩
  have Hm := Lib.hid hm
  have Hr := Lib.hid hR
  have i0 : ¬ (m : Int) > ((d.B.length : Nat) : Int) := by omega
  obtain ⟨L, hL⟩ : ∃ L, d.B.length = L := ⟨_, rfl⟩
  have HL := Lib.hid hL
  rw [hL] at c1 i0
  clear hR h he hdn hlf hm hL
  go_enter Tryz.func43, Tryz.ntmps43
  go_wp2_with (go_at_call 40; (with_reducible refine (HD.out).mono ?_); rintro e w' ⟨rfl, rfl⟩)
  refine HA.out.mono ?_
  rintro e w3 ⟨rfl, hd3, hk3⟩
  obtain ⟨ok, hf, A, c, h2, ho, hg⟩ := hd3
  obtain ⟨d0, d1, d2, d3, d4, f0⟩ := hcell5 h2
  have f1 := f0 1
  have f2 := f0 2
  have hne := own_nea h2 ho (by decide)
  have hcc : d.B.length ≤ c := by
    obtain ⟨A0, c0, e, h1, -, -⟩ := own_slice ho
    simp only [Value.slice.injEq, true_and] at e
    rw [e.2]
    exact h1
  obtain ⟨S, hS⟩ : ∃ S, d.safe = S := ⟨_, rfl⟩
  have hml := Hm.out
  have hu := run_upto A L c m (by have := HL.out; omega)
  have HF := Lib.hid (Hr.out.out (.returned (.int .i64 0)) ((w3.setCell ⟨a, 1, none⟩ (.slice A m c)).setCell ⟨a, 2, none⟩ (.int .i64 ((min S m : Nat) : Int))).drew (by
    have hl : (d.B.take m).length = m := by rw [List.length_take]; omega
    have g1 := hset (i := 1) (v := .slice A m c) h2
    have g2 := hset (i := 2) (v := .int .i64 ((min S m : Nat) : Int)) g1
    have hoc := own_cut ho Hm.out
    rw [← by_take] at hoc
    have hg' : ∀ g, (Value.slice A m c).ownBlock = some g → (Value.slice A d.B.length c).ownBlock = some g := fun g e => by
      cases A
      · simp [Value.ownBlock] at e
      · simpa [Value.ownBlock] using e
    have o1 := own_heap (w := w3.setCell ⟨a, 1, none⟩ (.slice A m c)) hoc fun g e => hset_ne (hne g (hg' g e))
    have o2 := own_heap (w := (w3.setCell ⟨a, 1, none⟩ (.slice A m c)).setCell ⟨a, 2, none⟩ (.int .i64 ((min S m : Nat) : Int))) o1 fun g e => hset_ne (hne g (hg' g e))
    refine ⟨rfl, ⟨⟨by have := ok.1; dsimp only; omega, by dsimp only; omega, ok.2.2⟩, hf, A, c, ?_, by rw [hl]; exact o2, fun g e => hg g (hg' g (by rw [hl] at e; exact e))⟩, ((hk3.trans (kx_put w3 a 1 _) (fun _ _ h => h)).trans (kx_put _ a 2 _) (fun _ _ h => h)).drewN 1⟩
    refine Eq.trans g2 ?_
    unfold dkC
    dsimp only
    rw [hl, hS]
    rfl))
  rw [HL.out] at d1
  rw [hS] at d2
  clear h2 ho hg hne f0 ok hS hcc HA Hr hk3
  by_cases hsm : S ≤ m
  · have j1 : (S : Int) ≤ (m : Int) := by omega
    rw [show min S m = S by omega] at HF
    clear hsm
    go_upto_region 8 with fail
    go_region
    go_wp2_with fail
    exact HF.out
  · have j1 : ¬ (S : Int) ≤ (m : Int) := by omega
    have j2 : (m : Int) ≤ (S : Int) := by omega
    rw [show min S m = m by omega] at HF
    clear hsm
    go_upto_region 8 with fail
    go_region
    go_wp2_with fail
    exact HF.out
end
end
end Go.Proofs.YtndcijkgaadpgaaGreatDoor
