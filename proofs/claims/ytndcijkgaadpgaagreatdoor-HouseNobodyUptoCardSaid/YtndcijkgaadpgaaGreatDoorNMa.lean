/-
  Memory words and limb loops of nat; each states its condition.
-/
import Derived.Test.YtndcijkgaadpgaaGreatDoorUa
import Derived.Test.YtndcijkgaadpgaaGreatDoorNPa
import Derived.Lib.BitFns
import Derived.Laws.BitsAllLaws
import Derived.Shelf.Small.Bits
import Derived.Deep.RegionWith
import Derived.IntWalk
namespace Go.Proofs.YtndcijkgaadpgaaGreatDoor
section
open Go.RowKit
def lenOf : Value → Nat | .slice _ n _ => n | _ => 0
/-- The slice's n elements are the limbs f. -/
def RdN (w : World) (A : Option Addr) (n : Nat) (f : Nat → Nat) : Prop :=
  Lm f n ∧ (0 < n → ∃ b o, A = some ⟨b, o, none⟩ ∧ b < w.heap.size ∧ ∀ i, i < n → w.cell? ⟨b, o + i, none⟩ = some (.int .u32 (f i : Nat)))
section
variable {w w' : World} {A : Option Addr} {n : Nat} {f g : Nat → Nat}
theorem RdN.lm (h : RdN w A n f) : Lm f n := h.1
theorem RdN.nil (w : World) (A : Option Addr) (f : Nat → Nat) : RdN w A 0 f := ⟨fun _i h => absurd h (Nat.not_lt_zero _), fun h => absurd h (Nat.lt_irrefl _)⟩
theorem RdN.keep (h : RdN w A n f) (hk : ∀ p : Addr, p.block < w.heap.size → w'.cell? p = w.cell? p) (hs : w.heap.size ≤ w'.heap.size) : RdN w' A n f :=
  ⟨h.1, fun hn => by
    obtain ⟨b, o, e, hb, hc⟩ := h.2 hn
    exact ⟨b, o, e, by omega, fun i hi => (hk _ hb).trans (hc i hi)⟩⟩
theorem RdN.below (h : RdN w A n f) (hb : Below w.heap.size w w') : RdN w' A n f := h.keep (fun _ hp => hb.cell hp) hb.size
theorem RdN.alloc (h : RdN w A n f) (o : Obj) : RdN (w.alloc o) A n f := h.below (below_new w o)
theorem RdN.drewN (h : RdN w A n f) (q : Nat) : RdN (w.drewN q) A n f := h
theorem RdN.kx {S : Nat → Prop} (h : RdN w A n f) (hk : Kx S w w') (hs : 0 < n → ∀ a, A = some a → ¬ S a.block) : RdN w' A n f :=
  ⟨h.1, fun hn => by
    obtain ⟨b, o, e, hb, hc⟩ := h.2 hn
    exact ⟨b, o, e, Nat.lt_of_lt_of_le hb hk.size, fun i hi => (World.cell?_of_block (w := w) (hk.block b hb (hs hn _ e))).trans (hc i hi)⟩⟩
theorem RdN.congr (h : RdN w A n f) (e : ∀ i, i < n → f i = g i) : RdN w A n g :=
  ⟨fun i hi => by rw [← e i hi]; exact h.1 i hi, fun hn => by
    obtain ⟨b, o, e', hb, hc⟩ := h.2 hn
    exact ⟨b, o, e', hb, fun i hi => by rw [← e i hi]; exact hc i hi⟩⟩
theorem RdN.take (h : RdN w A n f) {k : Nat} (hk : k ≤ n) : RdN w A k f :=
  ⟨h.1.mono hk, fun hn => by
    obtain ⟨b, o, e, hb, hc⟩ := h.2 (by omega)
    exact ⟨b, o, e, hb, fun i hi => hc i (by omega)⟩⟩
/-- The slice from k on, where its address is told. -/
theorem RdN.from_ {b o : Nat} (h : RdN w (some ⟨b, o, none⟩) n f) {k m : Nat} (hk : k + m ≤ n) : RdN w (some ⟨b, o + k, none⟩) m (fun i => f (k + i)) :=
  ⟨fun i hi => h.1 _ (by omega), fun hn => by
    obtain ⟨b', o', e, hb, hc⟩ := h.2 (by omega)
    injection e with e
    injection e with e1 e2
    subst e1 e2
    exact ⟨b, o + k, rfl, hb, fun i hi => by rw [Nat.add_assoc]; exact hc (k + i) (by omega)⟩⟩
theorem RdN.at_ (h : RdN w A n f) {k : Nat} (hk : k < n) : ∃ b o, A = some ⟨b, o, none⟩ ∧ b < w.heap.size ∧ w.cell? ⟨b, o + k, none⟩ = some (.int .u32 (f k : Nat)) := by
  obtain ⟨b, o, e, hb, hc⟩ := h.2 (by omega)
  exact ⟨b, o, e, hb, hc k hk⟩
/-- The slice is a number, in as few limbs as there are. -/
def Nm (w : World) (A : Option Addr) (n : Nat) (v : Nat) : Prop := n = ln v ∧ RdN w A n (lim v)
theorem Nm.below {v : Nat} (h : Nm w A n v) (hb : Below w.heap.size w w') : Nm w' A n v := ⟨h.1, h.2.below hb⟩
theorem Nm.alloc {v : Nat} (h : Nm w A n v) (o : Obj) : Nm (w.alloc o) A n v := ⟨h.1, h.2.alloc o⟩
theorem Nm.kx {S : Nat → Prop} {v : Nat} (h : Nm w A n v) (hk : Kx S w w') (hs : 0 < n → ∀ a, A = some a → ¬ S a.block) : Nm w' A n v := ⟨h.1, h.2.kx hk hs⟩
theorem Nm.zero (w : World) (A : Option Addr) : Nm w A 0 0 := ⟨ln_zero.symm, RdN.nil _ _ _⟩
theorem Nm.val {v : Nat} (h : Nm w A n v) : fv (lim v) n = v := fv_lim_eq (by rw [h.1]; exact lt_pw_ln v)
theorem Nm.lt {v : Nat} (h : Nm w A n v) : v < pw n := by rw [h.1]; exact lt_pw_ln v
theorem Nm.top {v : Nat} (h : Nm w A n v) (hn : 0 < n) : lim v (n - 1) ≠ 0 := by rw [h.1] at hn ⊢; exact top_ne hn
/-- Limbs whose zeros at the end are cut off are a number. -/
theorem Nm.of_rd {k : Nat} (h : RdN w A n f) (hk : k ≤ n) (h0 : ∀ i, k ≤ i → i < n → f i = 0) (ht : k = 0 ∨ f (k - 1) ≠ 0) : Nm w A k (fv f n) :=
  ⟨(trim_ln h.1 hk h0 ht).symm, (h.take hk).congr fun i hi => (lim_fv h.1 (by omega)).symm⟩
end
theorem mapU_len (f : Nat → Nat) (n : Nat) : ((List.range n).map fun i => Value.int .u32 (f i : Nat)).length = n := by simp
theorem mapU_get {f : Nat → Nat} {n j : Nat} {u : Value} (h : ((List.range n).map fun i => Value.int .u32 (f i : Nat))[j]? = some u) : j < n ∧ u = .int .u32 (f j : Nat) := by
  rw [List.getElem?_map] at h
  by_cases hj : j < n
  · rw [List.getElem?_range hj] at h
    exact ⟨hj, by simpa using h.symm⟩
  · rw [List.getElem?_eq_none (by simpa using hj)] at h; simp at h
theorem mapU_at {f : Nat → Nat} {n j : Nat} (hj : j < n) : ((List.range n).map fun i => Value.int .u32 (f i : Nat))[j]? = some (.int .u32 (f j : Nat)) := by
  rw [List.getElem?_map, List.getElem?_range hj]; rfl
theorem RdN.sl {w : World} {A : Option Addr} {n : Nat} {f : Nat → Nat} (h : RdN w A n f) : Sl w 1 A n ((List.range n).map fun i => Value.int .u32 (f i : Nat)) :=
  ⟨by simp, fun hn => by
    obtain ⟨b, o, e, hb, hc⟩ := h.2 hn
    exact ⟨b, o, e, hb, fun j u hu => by
      obtain ⟨hj, rfl⟩ := mapU_get hu
      exact hc j hj⟩⟩
theorem RdN.of_sl {w : World} {A : Option Addr} {n : Nat} {f : Nat → Nat} (hl : Lm f n) (h : Sl w 1 A n ((List.range n).map fun i => Value.int .u32 (f i : Nat))) : RdN w A n f :=
  ⟨hl, fun hn => by
    obtain ⟨b, o, e, hb, hc⟩ := h.2 hn
    exact ⟨b, o, e, hb, fun i hi => hc i _ (mapU_at hi)⟩⟩
theorem mapU_one (f : Nat → Nat) (n : Nat) : ∀ u ∈ (List.range n).map fun i => Value.int .u32 (f i : Nat), u.oneCell' = true := by
  intro u hu
  obtain ⟨i, _, rfl⟩ := List.mem_map.1 hu
  rfl
theorem infoU : (Tryz.prog.info? 133).map (fun i => (i.zero, i.size, i.bytes)) = some (some (.int .u32 0), 1, 4) := by kernel_rfl
theorem elemU : ElemOk Tryz.prog 68 133 1 4 := ElemOk.of (z := .int .u32 0) Tryz.underlying68 infoU rfl (by omega)
/-- A block of one's own that begins with the limbs f. -/
def BlkU (W : World) (g n : Nat) (f : Nat → Nat) : Prop := Lm f n ∧ ∃ cs, W.heap[g]? = some (.cells cs 133 (0, 0)) ∧ ∀ i, i < n → cs[i]? = some (.int .u32 (f i : Nat))
section
variable {W W' : World} {g n i : Nat} {f p : Nat → Nat}
theorem BlkU.lt (h : BlkU W g n f) : g < W.heap.size := by
  obtain ⟨cs, hh, _⟩ := h.2
  exact (Array.getElem?_eq_some_iff.1 hh).1
theorem BlkU.cell (h : BlkU W g n f) (hi : i < n) : W.cell? ⟨g, i, none⟩ = some (.int .u32 (f i : Nat)) := by
  obtain ⟨cs, hh, hc⟩ := h.2
  rw [cell_of_row _ _ i _ _ (0, 0) hh]; exact hc i hi
theorem BlkU.frozen (h : BlkU W g n f) (i : Nat) : W.frozen? ⟨g, i, none⟩ = false := by
  obtain ⟨cs, hh, _⟩ := h.2
  simp [World.frozen?, hh]
theorem BlkU.congr (h : BlkU W g n f) (e : ∀ i, i < n → f i = p i) : BlkU W g n p := by
  obtain ⟨cs, hh, hc⟩ := h.2
  exact ⟨fun i hi => by rw [← e i hi]; exact h.1 i hi, cs, hh, fun i hi => by rw [hc i hi, e i hi]⟩
theorem BlkU.set (h : BlkU W g n f) (k x : Nat) (hx : x < 4294967296) : BlkU (W.setCell ⟨g, k, none⟩ (.int .u32 (x : Nat))) g n (upd1 f k x) := by
  obtain ⟨cs, hh, hc⟩ := h.2
  refine ⟨h.1.upd hx, cs.setIfInBounds k (.int .u32 (x : Nat)), ?_, fun i hi => ?_⟩
  · simp only [World.setCell, Array.getElem?_modify, hh]
    simp
  · have hi2 : i < cs.size := by
      have := hc i hi
      exact (Array.getElem?_eq_some_iff.1 this).1
    rw [Array.getElem?_setIfInBounds]
    by_cases hk : k = i
    · subst hk; rw [if_pos rfl, if_pos hi2, upd1_self]
    · rw [if_neg hk, upd1_ne (fun e => hk e.symm)]; exact hc i hi
theorem BlkU.made (h : W.heap[g]? = some (.cells (madeCells #[Value.int .u32 0] n) 133 (0, 0))) : BlkU W g n (fun _ => 0) := by
  refine ⟨fun i _ => by simp, _, h, fun i hi => ?_⟩
  rw [← Array.getElem?_toList, toList_madeCells_one]
  simp [hi]
theorem BlkU.of_own {base c : Nat} (hl : Lm f n) (h : W.ownsRow base 133 1 (.slice (some ⟨g, 0, none⟩) n c) n ((List.range n).map fun i => Value.int .u32 (f i : Nat))) : BlkU W g n f := by
  rcases h.2 with ⟨h', _⟩ | ⟨g', c', cur, h', _, hg, _, _, _, ht⟩
  · simp at h'
  · simp only [Value.slice.injEq, Option.some.injEq, Addr.mk.injEq, and_true, true_and] at h'
    obtain ⟨rfl, rfl⟩ := h'
    refine ⟨hl, cur, hg, fun i hi => ?_⟩
    have h1 := congrArg (fun l => l[i]?) ht
    simp only [Nat.mul_one, List.getElem?_take, if_pos hi, Array.getElem?_toList] at h1
    rw [h1]
    exact mapU_at hi
theorem BlkU.kx {S : Nat → Prop} (h : BlkU W g n f) (hk : Kx S W W') (hs : ¬ S g) : BlkU W' g n f := by
  obtain ⟨cs, hh, hc⟩ := h.2
  exact ⟨h.1, cs, (hk.block g h.lt hs).trans hh, hc⟩
theorem BlkU.below (h : BlkU W g n f) (hb : Below W.heap.size W W') : BlkU W' g n f := by
  obtain ⟨cs, hh, hc⟩ := h.2
  exact ⟨h.1, cs, (hb.block g h.lt).trans hh, hc⟩
theorem BlkU.drewN (h : BlkU W g n f) (q : Nat) : BlkU (W.drewN q) g n f := h
theorem BlkU.rd (h : BlkU W g n f) (o m : Nat) (hm : o + m ≤ n) : RdN W (some ⟨g, o, none⟩) m (fun i => f (o + i)) :=
  ⟨fun i hi => h.1 _ (by omega), fun _ => ⟨g, o, rfl, h.lt, fun i hi => h.cell (by omega)⟩⟩
theorem BlkU.rd0 (h : BlkU W g n f) (m : Nat) (hm : m ≤ n) : RdN W (some ⟨g, 0, none⟩) m f := (h.rd 0 m (by omega)).congr fun i _ => by rw [Nat.zero_add]
end
/-- make of limbs. -/
theorem run_mkU (m : Nat) (hm : m ≤ 4000000) (w : World) (k : IntKind) : (Instr.makeSlice 68 (.int k (m : Int)) (.int k (m : Int))).run Tryz.prog w = .ok (.slice (some ⟨w.heap.size, 0, none⟩) m m) (w.alloc (.cells (madeCells #[Value.int .u32 0] m) 133)) :=
  run_make_row' 68 133 (.int .u32 0) 4 Tryz.underlying68 infoU rfl k k m (by omega) (by omega) w
theorem BlkU.new (w : World) (m : Nat) : BlkU (w.alloc (.cells (madeCells #[Value.int .u32 0] m) 133)) w.heap.size m (fun _ => 0) := BlkU.made (heap_alloc_new w _)
set_option maxHeartbeats 1000000 in
theorem natTrim_any (A : Option Addr) (n c : Nat) (f : Nat → Nat) (w : World) (h : RdN w A n f) (hnc : n ≤ c) (hn : n ≤ 4000000) :
    Calls Tryz.prog 341 #[.slice A n c] w fun e w' => ∃ k, e = .returned (.slice A k c) ∧ k ≤ n ∧ Nm w A k (fv f n) ∧ w = w' := by
  refine calls_cps ?_
  intro R hR
  go_enter Tryz.func341, Tryz.ntmps341
  go_wp2_with fail
  go_loop [0] (fun s0 => ∃ k : Nat, s0 = .slice A k c ∧ k ≤ n ∧ Hid (∀ i, k ≤ i → i < n → f i = 0)) (fun s0 => lenOf s0)
  case atStart => exact ⟨n, rfl, Nat.le_refl _, Lib.hid fun i h1 h2 => by omega⟩
  case round =>
    obtain ⟨k, rfl, hk, H0⟩ := hrel
    rcases k with _ | j
    · have Hf := Lib.hid (hR.out (.returned (.slice A 0 c)) w ⟨0, rfl, hk, Nm.of_rd h hk H0.out (.inl rfl), rfl⟩)
      clear hR H0
      go_wp2_with fail
      exact Hf.out
    · obtain ⟨b, o, rfl, hb, q0⟩ := h.at_ (k := j) (by omega)
      have i0 : (0 : Int) ≤ (j : Int) := by omega
      have i1 : (j : Int) + 1 ≤ (c : Int) := by omega
      by_cases hz : f j = 0
      · rw [hz] at q0
        have HZ := Lib.hid hz
        clear hz
        go_wp2_with fail
        refine ⟨⟨j, by simp, by omega, Lib.hid fun i h1 h2 => ?_⟩, ?_⟩
        · rcases Nat.lt_or_ge j i with h3 | h3
          · exact H0.out i h3 h2
          · obtain rfl : i = j := by omega
            exact HZ.out
        · simp [lenOf]
      · have Hf := Lib.hid (hR.out (.returned (.slice (some ⟨b, o, none⟩) (j + 1) c)) w ⟨j + 1, rfl, hk, Nm.of_rd h hk H0.out (.inr hz), rfl⟩)
        have hz' : (((f j : Nat) : Int) == 0) = false := by simp; omega
        clear hz
        go_wp2_with fail
        exact Hf.out
theorem trim_blk {g N v : Nat} {f : Nat → Nat} {w : World} (h : BlkU w g N f ∧ fv f N = v) (hN : N ≤ 4000000) :
    Calls Tryz.prog 341 #[.slice (some ⟨g, 0, none⟩) N N] w fun e w' => ∃ k, e = .returned (.slice (some ⟨g, 0, none⟩) k N) ∧ k ≤ N ∧ Nm w (some ⟨g, 0, none⟩) k v ∧ w = w' := by
  have h1 := natTrim_any (some ⟨g, 0, none⟩) N N f w (h.1.rd0 N (Nat.le_refl _)) (Nat.le_refl _) hN
  rwa [h.2] at h1
theorem trim_eq (A : Option Addr) (n c v : Nat) (f : Nat → Nat) (w : World) (h : RdN w A n f) (hnc : n ≤ c) (hn : n ≤ 4000000) (hv : fv f n = v) :
    Calls Tryz.prog 341 #[.slice A n c] w fun e w' => e = .returned (.slice A (ln v) c) ∧ w = w' :=
  (natTrim_any A n c f w h hnc hn).mono fun e w' ⟨k, h1, _, h2, h3⟩ => ⟨by rw [h1, h2.1, hv], h3⟩
/-- The limbs of a row, cut to their number. -/
theorem RdN.nm {w : World} {A : Option Addr} {n v : Nat} {f : Nat → Nat} (h : RdN w A n f) (hv : fv f n = v) : Nm w A (ln v) v := by
  have hl : ln v ≤ n := by rw [← hv]; exact (ln_le_iff _ _).2 (fv_lt h.1)
  exact ⟨rfl, (h.take hl).congr fun i hi => by rw [← hv, lim_fv h.1 (by omega)]⟩
theorem Nm.low {w : World} {A : Option Addr} {n v k : Nat} (h : Nm w A n v) (hk : k ≤ n) : Nm w A (ln (v % pw k)) (v % pw k) := (h.2.take hk).nm (fv_lim v k)
theorem Nm.high {w : World} {b o n v k : Nat} (h : Nm w (some ⟨b, o, none⟩) n v) (hk : k ≤ n) : Nm w (some ⟨b, o + k, none⟩) (n - k) (v / pw k) :=
  ⟨by rw [ln_div_pw, h.1], (h.2.from_ (k := k) (m := n - k) (by omega)).congr fun i _ => (lim_div_pw v k i).symm⟩
theorem trim_quiet (A : Option Addr) (n c v : Nat) (f : Nat → Nat) (w : World) (q : Nat) (h : RdN w A n f) (hnc : n ≤ c) (hn : n ≤ 4000000) (hv : fv f n = v) :
    Calls Tryz.prog 341 #[.slice A n c] (w.drewN q) fun e w' => e = .returned (.slice A (ln v) c) ∧ ∃ m, w' = w.drewN m :=
  (trim_eq A n c v f (w.drewN q) (h.drewN q) hnc hn hv).mono fun _ _ ⟨h1, h2⟩ => ⟨h1, q, h2.symm⟩
end
section
open Go.RowKit Go.Shelf
theorem add32_any (x y c : Nat) (w : World) (hx : x < 4294967296) (hy : y < 4294967296) (hc : c ≤ 1) :
    Calls Tryz.prog 396 #[.int .u32 (x : Nat), .int .u32 (y : Nat), .int .u32 (c : Nat)] w fun e w' => e = .returned (.tuple #[.int .u32 (((x + y + c) % 4294967296 : Nat)), .int .u32 (((x + y + c) / 4294967296 : Nat))]) ∧ w = w' := by
  go_enter Tryz.func396, Tryz.ntmps396
  go_wp2
  go_ret2
  exact ⟨by simp [], rfl⟩
theorem add32_zero (x c : Nat) (w : World) (hx : x < 4294967296) (hc : c ≤ 1) :
    Calls Tryz.prog 396 #[.int .u32 (x : Nat), .int .u32 0, .int .u32 (c : Nat)] w fun e w' => e = .returned (.tuple #[.int .u32 (((x + 0 + c) % 4294967296 : Nat)), .int .u32 (((x + 0 + c) / 4294967296 : Nat))]) ∧ w = w' := add32_any x 0 c w hx (by omega) hc
theorem bit31 {x : Nat} (hx : x < 4294967296) : x.testBit 31 = decide (2147483648 ≤ x) := by
  rw [Nat.testBit_eq_decide_div_mod_eq, show 2 ^ 31 = 2147483648 from rfl]
  congr 1
  exact propext (by omega)
theorem top31 {x : Nat} (hx : x < 4294967296) : x / 2147483648 = if x.testBit 31 then 1 else 0 := by
  rw [bit31 hx]
  simp only [decide_eq_true_eq]
  split <;> omega
theorem borrow_bits {x y c d : Nat} (hx : x < 4294967296) (hy : y < 4294967296) (hc : c ≤ 1) (hd : d = (x + 4294967296 - y - c) % 4294967296) :
    (bits .or .u32 (bits .and .u32 (bits .xor .u32 4294967295 (x : Nat)) (y : Nat)) (bits .and .u32 (bits .xor .u32 4294967295 (bits .xor .u32 (x : Nat) (y : Nat))) (d : Nat))) / 2147483648 = ((if x < y + c then 1 else 0 : Nat) : Int) := by
  have hd1 : d < 4294967296 := by omega
  have e1 : bits .xor .u32 4294967295 (x : Nat) = ((4294967295 ^^^ x : Nat) : Int) := u32_xor_nat 4294967295 x (by omega) hx
  have l1 : 4294967295 ^^^ x < 4294967296 := Nat.xor_lt_two_pow (n := 32) (by omega) hx
  have e2 : bits .xor .u32 (x : Nat) (y : Nat) = ((x ^^^ y : Nat) : Int) := u32_xor_nat x y hx hy
  have l2 : x ^^^ y < 4294967296 := Nat.xor_lt_two_pow (n := 32) hx hy
  have e3 : bits .xor .u32 4294967295 ((x ^^^ y : Nat) : Int) = ((4294967295 ^^^ (x ^^^ y) : Nat) : Int) := u32_xor_nat 4294967295 (x ^^^ y) (by omega) l2
  have l3 : 4294967295 ^^^ (x ^^^ y) < 4294967296 := Nat.xor_lt_two_pow (n := 32) (by omega) l2
  rw [e1, e2, e3, u32_and_nat _ _ l1 hy, u32_and_nat _ _ l3 hd1, u32_or_nat _ _ (Nat.lt_of_le_of_lt Nat.and_le_right hy) (Nat.lt_of_le_of_lt Nat.and_le_right hd1)]
  have l4 : ((4294967295 ^^^ x) &&& y) ||| ((4294967295 ^^^ (x ^^^ y)) &&& d) < 4294967296 := Nat.or_lt_two_pow (n := 32) (Nat.lt_of_le_of_lt Nat.and_le_right hy) (Nat.lt_of_le_of_lt Nat.and_le_right hd1)
  have e5 : (((((4294967295 ^^^ x) &&& y) ||| ((4294967295 ^^^ (x ^^^ y)) &&& d) : Nat) : Int) / 2147483648) = (((((4294967295 ^^^ x) &&& y) ||| ((4294967295 ^^^ (x ^^^ y)) &&& d)) / 2147483648 : Nat) : Int) := by omega
  rw [e5, top31 l4]
  congr 1
  simp only [Nat.testBit_or, Nat.testBit_and, Nat.testBit_xor, bit31 hx, bit31 hy, bit31 hd1, bit31 (show (4294967295 : Nat) < 4294967296 by omega)]
  have k : decide (2147483648 ≤ 4294967295) = true := by decide
  rw [k]
  by_cases a : 2147483648 ≤ x <;> by_cases b : 2147483648 ≤ y <;> by_cases e : 2147483648 ≤ d <;> simp [a, b, e] <;> omega
set_option maxHeartbeats 1000000 in
theorem sub32_any (x y c : Nat) (w : World) (hx : x < 4294967296) (hy : y < 4294967296) (hc : c ≤ 1) :
    Calls Tryz.prog 416 #[.int .u32 (x : Nat), .int .u32 (y : Nat), .int .u32 (c : Nat)] w fun e w' => e = .returned (.tuple #[.int .u32 (((x + 4294967296 - y - c) % 4294967296 : Nat)), .int .u32 ((if x < y + c then 1 else 0 : Nat))]) ∧ w = w' := by
  refine calls_cps ?_
  intro R hR
  have ed : ((x : Int) - (y : Int) - (c : Int)) % 4294967296 = (((x + 4294967296 - y - c) % 4294967296 : Nat) : Int) := by omega
  have hb := borrow_bits hx hy hc rfl
  have HR := Lib.hid hR
  have Hed := Lib.hid ed
  have Hb := Lib.hid hb
  clear hR ed hb
  go_enter Tryz.func416, Tryz.ntmps416
  go_wp2
  rw [show IntKind.u32.max = 4294967295 from by decide, Hed.out, Hb.out]
  exact HR.out.out _ _ ⟨rfl, rfl⟩
theorem sub32_zero (x c : Nat) (w : World) (hx : x < 4294967296) (hc : c ≤ 1) :
    Calls Tryz.prog 416 #[.int .u32 (x : Nat), .int .u32 0, .int .u32 (c : Nat)] w fun e w' => e = .returned (.tuple #[.int .u32 (((x + 4294967296 - 0 - c) % 4294967296 : Nat)), .int .u32 ((if x < 0 + c then 1 else 0 : Nat))]) ∧ w = w' := sub32_any x 0 c w hx (by omega) hc
def lenRen : Ren := ⟨fun k => if k = 128 then 259 else if k = 125 then 183 else if k = 129 then 260 else k, fun k => if k = 3 then 3 else if k = 4 then 4 else if k = 5 then 5 else if k = 9 then 9 else if k = 46 then 179 else if k = 51 then 133 else k, fun k => k⟩
theorem lenLays : Lays.n128 Tryz.prog lenRen := {
  mixed := by kernel_rfl
  f128 := by kernel_rfl
  t3 := by kernel_rfl
  a3 := fun _ => by kernel_rfl
  z3 := fun _ => by kernel_rfl
  v3 := fun _ => by kernel_rfl
  t4 := by kernel_rfl
  a4 := fun _ => by kernel_rfl
  z4 := fun _ => by kernel_rfl
  v4 := fun _ => by kernel_rfl
  t5 := by kernel_rfl
  a5 := fun _ => by kernel_rfl
  z5 := fun _ => by kernel_rfl
  v5 := fun _ => by kernel_rfl
  t9 := by kernel_rfl
  a9 := fun _ => by kernel_rfl
  z9 := fun _ => by kernel_rfl
  v9 := fun _ => by kernel_rfl
  t46 := by kernel_rfl
  a46 := fun _ => by kernel_rfl
  z46 := fun _ => by kernel_rfl
  v46 := fun _ => by kernel_rfl
  t51 := by kernel_rfl
  a51 := fun _ => by kernel_rfl
  z51 := fun _ => by kernel_rfl
  v51 := fun _ => by kernel_rfl
}
theorem bitLenAux_two : ∀ (f x : Nat), x < 2 ^ f → Lib.bitLenAux f x = bitsN x
  | 0, x, h => by
    obtain rfl : x = 0 := by simp at h; omega
    rfl
  | f + 1, x, h => by
    unfold Lib.bitLenAux
    split
    · rename_i h0; subst h0; rfl
    · rename_i h0
      have h2 : x / 2 < 2 ^ f := by rw [Nat.pow_succ] at h; omega
      rw [bitLenAux_two f _ h2]
      rcases Nat.eq_zero_or_pos (x / 2) with h3 | h3
      · obtain rfl : x = 1 := by omega
        rfl
      · obtain ⟨j, hj⟩ : ∃ j, bitsN (x / 2) = j + 1 := ⟨bitsN (x / 2) - 1, by have := bitsN_pos h3; omega⟩
        have a1 := two_le_of_bits (v := x / 2) (k := j) (by omega)
        have a2 := lt_two_bits (x / 2)
        rw [hj] at a2
        rw [hj, Nat.add_comm]
        refine (bitsN_eq ?_ ?_).symm
        · rw [Nat.pow_succ]; omega
        · rw [Nat.pow_succ]; omega
theorem bitLen_two {x : Nat} (h : x < 18446744073709551616) : Lib.bitLen x = bitsN x := bitLenAux_two 64 x h
theorem len32_any (x : Nat) (w : World) (hx : x < 4294967296) :
    Calls Tryz.prog 259 #[.int .u32 (x : Nat)] w fun e w' => e = .returned (.int .i64 (bitsN x : Nat)) ∧ w = w' := by
  refine Calls.mono (Any.bits_Len32 lenLays (x : Int) w (by omega) (by omega)) ?_
  rintro e w' ⟨rfl, rfl⟩
  rw [Int.toNat_natCast, bitLen_two (by omega)]
  exact ⟨rfl, rfl⟩
theorem bitsN_32 {x : Nat} (hx : x < 4294967296) : bitsN x ≤ 32 := (bitsN_le_iff x 32).2 hx
theorem lz32_any (x : Nat) (w : World) (hx : x < 4294967296) :
    Calls Tryz.prog 394 #[.int .u32 (x : Nat)] w fun e w' => e = .returned (.int .i64 ((32 - bitsN x : Nat) : Int)) ∧ w = w' := by
  have hb := bitsN_32 hx
  have e : ((32 - bitsN x : Nat) : Int) = 32 - (bitsN x : Int) := by omega
  rw [e]
  clear e
  go_enter Tryz.func394, Tryz.ntmps394
  go_wp2_with (go_at_call 259; (with_reducible refine (len32_any _ _ hx).mono ?_); rintro e w' ⟨rfl, rfl⟩)
  go_ret
  exact ⟨rfl, rfl⟩
end
section
open Go.RowKit
/-- A new number: its limbs lie in a block of its own, or nowhere. -/
def NewNum (w : World) (v : Nat) (e : Ending) (w' : World) : Prop := ∃ A' k c', e = .returned (.slice A' k c') ∧ k ≤ c' ∧ Nm w' A' k v ∧ (∀ ad, A' = some ad → w.heap.size ≤ ad.block) ∧ Below w.heap.size w w'
theorem fresh_at {B g o : Nat} (h : B ≤ g) : ∀ ad : Addr, (some ⟨g, o, none⟩ : Option Addr) = some ad → B ≤ ad.block := fun ad e => by
  injection e with e
  subst e
  exact h
def cmpN (a b : Nat) : Int := if a < b then -1 else if a = b then 0 else 1
set_option maxHeartbeats 1000000 in
theorem own_any (A : Option Addr) (n c : Nat) (f : Nat → Nat) (w : World) (h : RdN w A n f) (hn : n ≤ 1000000) :
    Calls Tryz.prog 347 #[.slice A n c] w fun e w' => ∃ A' c', e = .returned (.slice A' n c') ∧ n ≤ c' ∧ w'.ownsRow w.heap.size 133 1 (.slice A' n c') n ((List.range n).map fun i => Value.int .u32 (f i : Nat)) ∧ Below w.heap.size w w' := by
  refine calls_cps ?_
  intro R hR
  have hown : w.ownsRow w.heap.size 133 1 (.slice none 0 0) 0 [] := ⟨rfl, .inl ⟨rfl, rfl⟩⟩
  go_enter Tryz.func347, Tryz.ntmps347
  go_wp2_with (at_builtin; refine wpList_app rfl _ (.tmp 3) _ rfl elemU w.heap.size _ _ _ rfl hown _ _ _ _ rfl h.sl (mapU_one f n) (by unfold maxLen; omega) (by omega) (Nat.le_refl _) ?_; intro A' c' w1 ho hg _)
  rw [Nat.zero_add, List.nil_append] at ho
  have hc : n ≤ c' := by
    obtain ⟨A2, c2, e, h1, _, _⟩ := own_slice ho
    injection e with _ _ e3
    omega
  have Hf := Lib.hid (hR.out (.returned (.slice A' n c')) w1 ⟨A', c', rfl, hc, ho, below_own (Below.refl _ _) hown (Nat.le_refl _) (Nat.le_refl _) hg⟩)
  clear hR ho
  exact Hf.out
set_option maxHeartbeats 1000000 in
theorem ncompare_any (A B : Option Addr) (n c m d a b : Nat) (w : World) (h1 : Nm w A n a) (h2 : Nm w B m b) (hn : n ≤ 1000000) (hm : m ≤ 1000000) :
    Calls Tryz.prog 340 #[.slice A n c, .slice B m d] w fun e w' => e = .returned (.int .i64 (cmpN a b)) ∧ Qt w w' := by
  refine calls_cps ?_
  intro R hR
  have Hl1 := Lib.hid h1.1
  have Hl2 := Lib.hid h2.1
  have Hlt := Lib.hid (show ∀ W', a < b → Qt w W' → R (.returned (.int .i64 (-1))) W' from fun _ h hq => hR.out _ _ ⟨by unfold cmpN; rw [if_pos h], hq⟩)
  have Hgt := Lib.hid (show ∀ W', b < a → Qt w W' → R (.returned (.int .i64 1)) W' from fun _ h hq => hR.out _ _ ⟨by unfold cmpN; rw [if_neg (by omega), if_neg (by omega)], hq⟩)
  have Heq := Lib.hid (show ∀ W', a = b → Qt w W' → R (.returned (.int .i64 0)) W' from fun _ h hq => hR.out _ _ ⟨by unfold cmpN; rw [if_neg (by omega), if_pos h], hq⟩)
  clear hR
  by_cases hnm : n = m
  · subst hnm
    have hb0 : ((n : Int) != n) = false := by simp
    go_enter Tryz.func340, Tryz.ntmps340
    go_wp2_with fail
    go_loopw [5] (fun i wr => ∃ (k : Nat), k ≤ n ∧ i = .int .i64 ((k : Int) - 1) ∧ Hid (∀ j, k ≤ j → j < n → lim a j = lim b j) ∧ Qt w wr) (fun i _ => (intOf i + 1).toNat)
    case atStart => exact ⟨n, Nat.le_refl _, rfl, Lib.hid (fun j h1 h2 => by omega), Qt.refl _⟩
    case round =>
      obtain ⟨k, hk, rfl, HE, hq⟩ := hrel
      rcases k with _ | k
      · have he : a = b := by
          rw [← h1.val, ← h2.val]
          exact fv_congr fun i hi => HE.out i (Nat.zero_le _) hi
        have Hf := Lib.hid (Heq.out wr he hq)
        clear he
        go_wp2
        exact Hf.out
      · obtain ⟨W2, hW2⟩ : ∃ W2, wr = W2 := ⟨_, rfl⟩
        obtain ⟨bl, o, rfl, hbl, q0⟩ := (show RdN wr A n (lim a) from by obtain ⟨q, rfl⟩ := hq; exact h1.2).at_ (k := k) (by omega)
        obtain ⟨bl', o', rfl, hbl', r0⟩ := (show RdN wr B n (lim b) from by obtain ⟨q, rfl⟩ := hq; exact h2.2).at_ (k := k) (by omega)
        have i1 : (0 : Int) ≤ (k : Int) := by omega
        have i2 : (k : Int) < (n : Int) := by omega
        have Hless := Lib.hid (fun hl => @fv_less (lim a) (lim b) n k h1.2.1 h2.2.1 (by omega) (fun j g1 g2 => HE.out j (by omega) g2) hl)
        have Hmore := Lib.hid (fun hl => @fv_less (lim b) (lim a) n k h2.2.1 h1.2.1 (by omega) (fun j g1 g2 => (HE.out j (by omega) g2).symm) hl)
        rw [h1.val, h2.val] at Hless Hmore
        obtain ⟨x, hx⟩ : ∃ x, lim a k = x := ⟨_, rfl⟩
        obtain ⟨y, hy⟩ : ∃ y, lim b k = y := ⟨_, rfl⟩
        rw [hx] at q0 Hless Hmore
        rw [hy] at r0 Hless Hmore
        have Hx := Lib.hid hx
        have Hy := Lib.hid hy
        clear hx hy hW2
        rcases Nat.lt_trichotomy x y with hl | hl | hl
        · have t1 : (((x : Nat) : Int) != (y : Int)) = true := by simp; omega
          have t2 : decide (((x : Nat) : Int) < (y : Int)) = true := decide_eq_true (by omega)
          have t3 : decide (x < y) = true := decide_eq_true (by omega)
          have Hf := Lib.hid (fun W h => Hlt.out W (Hless.out hl) h)
          clear hl
          go_wp2_with fail
          go_quiet (fail)
          go_wp2_with fail
          go_quiet (fail)
          go_wp2_with fail
          exact Hf.out _ ((hq.step _).step _)
        · have t1 : (((x : Nat) : Int) != (y : Int)) = false := by simp [hl]
          have HL := Lib.hid hl
          clear hl
          go_wp2_with fail
          go_quiet (fail)
          go_wp2_with fail
          refine ⟨⟨k, by omega, by go_num, Lib.hid fun j g1 g2 => ?_, hq.step _⟩, by simp [intOf]⟩
          rcases Nat.lt_or_ge k j with h | h
          · exact HE.out j h g2
          · obtain rfl : j = k := by omega
            rw [Hx.out, Hy.out, HL.out]
        · have t1 : (((x : Nat) : Int) != (y : Int)) = true := by simp; omega
          have t2 : decide (((x : Nat) : Int) < (y : Int)) = false := decide_eq_false (by omega)
          have t3 : decide (x < y) = false := decide_eq_false (by omega)
          have Hf := Lib.hid (fun W h => Hgt.out W (Hmore.out hl) h)
          clear hl
          go_wp2_with fail
          go_quiet (fail)
          go_wp2_with fail
          go_quiet (fail)
          go_wp2_with fail
          exact Hf.out _ ((hq.step _).step _)
  · have hb0 : ((n : Int) != m) = true := by simp; omega
    rcases Nat.lt_or_ge n m with hl | hl
    · have hb1 : decide ((n : Int) < (m : Int)) = true := decide_eq_true (by omega)
      have hb2 : decide (n < m) = true := decide_eq_true (by omega)
      have Hf := Lib.hid (Hlt.out w (lt_of_ln (by rw [← Hl1.out, ← Hl2.out]; exact hl)) (Qt.refl _))
      clear hnm hl
      go_enter Tryz.func340, Tryz.ntmps340
      go_wp2
      exact Hf.out
    · have hb1 : decide ((n : Int) < (m : Int)) = false := decide_eq_false (by omega)
      have hb2 : decide (n < m) = false := decide_eq_false (by omega)
      have Hf := Lib.hid (Hgt.out w (lt_of_ln (by rw [← Hl1.out, ← Hl2.out]; omega)) (Qt.refl _))
      clear hnm hl
      go_enter Tryz.func340, Tryz.ntmps340
      go_wp2
      exact Hf.out
/-- What plus and minus read of a shorter number. -/
theorem Nm.over {w : World} {A : Option Addr} {n v i : Nat} (h : Nm w A n v) (hi : n ≤ i) : lim v i = 0 := lim_ge (Nat.lt_of_lt_of_le h.lt (pw_le hi))
set_option maxHeartbeats 2000000 in
theorem plus_any (A B : Option Addr) (n c m d a b : Nat) (w : World) (h1 : Nm w A n a) (h2 : Nm w B m b) (hn : n ≤ 600000) (hm : m ≤ 600000) :
    Calls Tryz.prog 349 #[.slice A n c, .slice B m d] w (NewNum w (a + b)) := by
  refine calls_cps ?_
  intro R hR
  have HR := Lib.hid (show ∀ A' k c' W', k ≤ c' → Nm W' A' k (a + b) → (∀ ad, A' = some ad → w.heap.size ≤ ad.block) → Below w.heap.size w W' → R (.returned (.slice A' k c')) W' from fun A' k c' W' g1 g2 g3 g4 => hR.out _ _ ⟨A', k, c', rfl, g1, g2, g3, g4⟩)
  clear hR
  go_enter Tryz.func349, Tryz.ntmps349
  go_upto_if 13 with fail
  go_cut [0, 1] (fun s0 s1 wx => ∃ A1 n1 c1 B1 m1 d1 a1 b1, s0 = .slice A1 n1 c1 ∧ s1 = .slice B1 m1 d1 ∧ n1 ≤ 600000 ∧ m1 ≤ n1 ∧ Hid (Nm w A1 n1 a1 ∧ Nm w B1 m1 b1 ∧ a1 + b1 = a + b) ∧ w = wx)
  case first =>
    rcases Nat.lt_or_ge n m with hl | hl
    · have hb1 : decide ((n : Int) < (m : Int)) = true := decide_eq_true (by omega)
      have hb2 : decide (n < m) = true := decide_eq_true hl
      go_wp2_with fail
      go_meet
      exact ⟨B, m, d, A, n, c, b, a, rfl, rfl, hm, by omega, Lib.hid ⟨h2, h1, Nat.add_comm _ _⟩, rfl⟩
    · have hb1 : decide ((n : Int) < (m : Int)) = false := decide_eq_false (by omega)
      have hb2 : decide (n < m) = false := decide_eq_false (by omega)
      go_wp2_with fail
      go_meet
      exact ⟨A, n, c, B, m, d, a, b, rfl, rfl, hn, hl, Lib.hid ⟨h1, h2, rfl⟩, rfl⟩
  case rest =>
    clear h1 h2 hn hm
    obtain ⟨A1, n1, c1, B1, m1, d1, a1, b1, e1, e2, hn, hm, H, e3⟩ := hcut
    subst e1 e2 e3
    have hmk : (Instr.makeSlice 68 (.int .i64 ((n1 : Int) + 1)) (.int .i64 ((n1 : Int) + 1))).run Tryz.prog w = .ok (.slice (some ⟨w.heap.size, 0, none⟩) (n1 + 1) (n1 + 1)) (w.alloc (.cells (madeCells #[Value.int .u32 0] (n1 + 1)) 133)) := run_mkU (n1 + 1) (by omega) w .i64
    have HB := Lib.hid (BlkU.new w (n1 + 1))
    have Hb := Lib.hid (below_new w (.cells (madeCells #[Value.int .u32 0] (n1 + 1)) 133))
    obtain ⟨W1, hW1⟩ : ∃ W1, w.alloc (.cells (madeCells #[Value.int .u32 0] (n1 + 1)) 133) = W1 := ⟨_, rfl⟩
    obtain ⟨g, hg⟩ : ∃ g, w.heap.size = g := ⟨_, rfl⟩
    rw [hW1] at HB Hb hmk
    rw [hg] at HB Hb hmk
    have Hg := Lib.hid hg
    clear hW1 hg
    go_wp2_with fail
    go_loopw [6, 22] (fun s6 s22 wr => ∃ (i cy : Nat) (o : Nat → Nat), s6 = .int .u32 (cy : Nat) ∧ s22 = .int .i64 (i : Nat) ∧ i ≤ n1 ∧ cy ≤ 1 ∧ Hid (BlkU wr g (n1 + 1) o ∧ fv o i + cy * pw i = fv (lim a1) i + fv (lim b1) i) ∧ Hid (Below g w wr)) (fun _ s22 _ => n1 - (intOf s22).toNat)
    case atStart => exact ⟨0, 0, fun _ => 0, rfl, rfl, Nat.zero_le _, Nat.zero_le _, Lib.hid ⟨HB.out, rfl⟩, Hb⟩
    case round =>
      obtain ⟨i, cy, o, rfl, rfl, hi, hcy, HI, HW⟩ := hrel
      by_cases hlt : i < n1
      · have i1 : (i : Int) < (n1 : Int) := by omega
        have i2 : (i : Int) < ((n1 : Int) + 1) := by omega
        have hA := (H.out.1.2.below (by rw [Hg.out]; exact HW.out)).at_ hlt
        obtain ⟨bl, oa, rfl, hbl, q0⟩ := hA
        have f0 := HI.out.1.frozen
        have c0 := HI.out.1.cell (i := i) (by omega)
        have hx := lim_lt a1 i
        obtain ⟨x, hxx⟩ : ∃ x, lim a1 i = x := ⟨_, rfl⟩
        rw [hxx] at q0 hx
        have Hxx := Lib.hid hxx
        clear hxx
        have Hnext := Lib.hid (show ∀ y, lim b1 i = y → ∀ v c', v = (x + y + cy) % 4294967296 → c' = (x + y + cy) / 4294967296 → BlkU (wr.setCell ⟨g, i, none⟩ (.int .u32 (v : Nat))) g (n1 + 1) (upd1 o i v) ∧ fv (upd1 o i v) (i + 1) + c' * pw (i + 1) = fv (lim a1) (i + 1) + fv (lim b1) (i + 1) from fun y hy v c' hv hc' => by
          subst hv hc'
          refine ⟨HI.out.1.set i _ (Nat.mod_lt _ (by omega)), ?_⟩
          have h := plus_step (f := upd1 o i ((x + y + cy) % 4294967296)) (a := lim a1) (b := lim b1) (i := i) (c := cy) (c' := (x + y + cy) / 4294967296) (s := (x + y + cy) % 4294967296) (V := fv (lim a1) i + fv (lim b1) i) (by rw [fv_upd_out (Nat.le_refl _)]; exact HI.out.2) (by rw [Hxx.out, hy]; exact Nat.mod_add_div _ _) (upd1_self _ _ _)
          rw [h, fv_succ, fv_succ]; omega)
        by_cases hm2 : i < m1
        · have i3 : (i : Int) < (m1 : Int) := by omega
          obtain ⟨bl2, ob, rfl, hbl2, r0⟩ := (H.out.2.1.2.below (by rw [Hg.out]; exact HW.out)).at_ hm2
          have hy := lim_lt b1 i
          obtain ⟨y, hyy⟩ : ∃ y, lim b1 i = y := ⟨_, rfl⟩
          rw [hyy] at r0 hy
          have Hn := Lib.hid (Hnext.out y hyy _ _ rfl rfl)
          clear hyy Hnext
          go_wp2_with ((with_reducible refine (add32_any x y cy _ hx hy hcy).mono ?_); rintro e w' ⟨rfl, rfl⟩)
          refine ⟨⟨i + 1, (x + y + cy) / 4294967296, _, by simp, by go_num, by omega, ?_, Hn, Lib.hid (HW.out.setCell (by simp) _)⟩, by simp [intOf]; omega⟩
          clear Hn
          omega
        · have i3 : (m1 : Int) ≤ (i : Int) := by omega
          have Hn := Lib.hid (Hnext.out 0 (H.out.2.1.over (by omega)) _ _ rfl rfl)
          clear Hnext
          go_wp2_with ((with_reducible refine (add32_zero x cy _ hx hcy).mono ?_); rintro e w' ⟨rfl, rfl⟩)
          refine ⟨⟨i + 1, (x + 0 + cy) / 4294967296, _, by simp, by go_num, by omega, ?_, Hn, Lib.hid (HW.out.setCell (by simp) _)⟩, by simp [intOf]; omega⟩
          clear Hn
          omega
      · obtain rfl : n1 = i := by omega
        have f0 := HI.out.1.frozen
        have c0 := HI.out.1.cell (i := n1) (by omega)
        have Hset := Lib.hid (show BlkU (wr.setCell ⟨g, n1, none⟩ (.int .u32 (cy : Nat))) g (n1 + 1) (upd1 o n1 cy) ∧ fv (upd1 o n1 cy) (n1 + 1) = a + b from
          ⟨HI.out.1.set n1 cy (by omega), by rw [fv_succ, upd1_self, fv_upd_out (Nat.le_refl _), HI.out.2, H.out.1.val, ← H.out.2.2, fv_lim_eq (Nat.lt_of_lt_of_le H.out.2.1.lt (pw_le hm))]⟩)
        have Hbs := Lib.hid (show Below g w (wr.setCell ⟨g, n1, none⟩ (.int .u32 (cy : Nat))) from HW.out.setCell (by simp) _)
        go_wp2_with fail
        refine (trim_blk Hset.out (by omega)).mono ?_
        rintro e w' ⟨k, rfl, hk, hnm, rfl⟩
        have Hf := Lib.hid (HR.out _ k _ _ hk hnm (fresh_at (Nat.le_of_eq Hg.out)) (by rw [Hg.out]; exact Hbs.out))
        clear hnm
        go_wp2_with fail
        exact Hf.out
/-- One limb of a difference, as Sub32 gives it. -/
theorem sub_digit {x y c : Nat} (hx : x < 4294967296) (hy : y < 4294967296) (hc : c ≤ 1) : (x + 4294967296 - y - c) % 4294967296 + y + c = x + 4294967296 * (if x < y + c then 1 else 0) := by
  split <;> omega
set_option maxHeartbeats 2000000 in
theorem minus_any (A B : Option Addr) (n c m d a b : Nat) (w : World) (h1 : Nm w A n a) (h2 : Nm w B m b) (hn : n ≤ 1000000) (hba : b ≤ a) :
    Calls Tryz.prog 414 #[.slice A n c, .slice B m d] w (NewNum w (a - b)) := by
  refine calls_cps ?_
  intro R hR
  have HR := Lib.hid (show ∀ A' k c' W', k ≤ c' → Nm W' A' k (a - b) → (∀ ad, A' = some ad → w.heap.size ≤ ad.block) → Below w.heap.size w W' → R (.returned (.slice A' k c')) W' from fun A' k c' W' g1 g2 g3 g4 => hR.out _ _ ⟨A', k, c', rfl, g1, g2, g3, g4⟩)
  have hm : m ≤ n := by rw [h1.1, h2.1]; exact ln_mono hba
  have Hba := Lib.hid hba
  have H := Lib.hid (And.intro h1 h2)
  clear hR hba h1 h2
  have hmk : (Instr.makeSlice 68 (.int .i64 (n : Int)) (.int .i64 (n : Int))).run Tryz.prog w = .ok (.slice (some ⟨w.heap.size, 0, none⟩) n n) (w.alloc (.cells (madeCells #[Value.int .u32 0] n) 133)) := run_mkU n (by omega) w .i64
  have HB := Lib.hid (BlkU.new w n)
  have Hb := Lib.hid (below_new w (.cells (madeCells #[Value.int .u32 0] n) 133))
  obtain ⟨W1, hW1⟩ : ∃ W1, w.alloc (.cells (madeCells #[Value.int .u32 0] n) 133) = W1 := ⟨_, rfl⟩
  obtain ⟨g, hg⟩ : ∃ g, w.heap.size = g := ⟨_, rfl⟩
  rw [hW1] at HB Hb hmk
  rw [hg] at HB Hb hmk
  have Hg := Lib.hid hg
  clear hW1 hg
  go_enter Tryz.func414, Tryz.ntmps414
  go_wp2_with fail
  go_loopw [6, 14] (fun s6 s14 wr => ∃ (i cy : Nat) (o : Nat → Nat), s6 = .int .u32 (cy : Nat) ∧ s14 = .int .i64 (i : Nat) ∧ i ≤ n ∧ cy ≤ 1 ∧ Hid (BlkU wr g n o ∧ fv o i + fv (lim b) i = fv (lim a) i + cy * pw i) ∧ Hid (Below g w wr)) (fun _ s14 _ => n - (intOf s14).toNat)
  case atStart => exact ⟨0, 0, fun _ => 0, rfl, rfl, Nat.zero_le _, Nat.zero_le _, Lib.hid ⟨HB.out, rfl⟩, Hb⟩
  case round =>
    obtain ⟨i, cy, o, rfl, rfl, hi, hcy, HI, HW⟩ := hrel
    by_cases hlt : i < n
    · have i1 : (i : Int) < (n : Int) := by omega
      have hA := (H.out.1.2.below (by rw [Hg.out]; exact HW.out)).at_ hlt
      obtain ⟨bl, oa, rfl, hbl, q0⟩ := hA
      have f0 := HI.out.1.frozen
      have c0 := HI.out.1.cell (i := i) (by omega)
      have hx := lim_lt a i
      obtain ⟨x, hxx⟩ : ∃ x, lim a i = x := ⟨_, rfl⟩
      rw [hxx] at q0 hx
      have Hxx := Lib.hid hxx
      clear hxx
      have Hnext := Lib.hid (show ∀ y, lim b i = y → y < 4294967296 → ∀ v c', v = (x + 4294967296 - y - cy) % 4294967296 → c' = (if x < y + cy then 1 else 0) → BlkU (wr.setCell ⟨g, i, none⟩ (.int .u32 (v : Nat))) g n (upd1 o i v) ∧ fv (upd1 o i v) (i + 1) + fv (lim b) (i + 1) = fv (lim a) (i + 1) + c' * pw (i + 1) from fun y hy hy2 v c' hv hc' => by
        subst hv hc'
        refine ⟨HI.out.1.set i _ (Nat.mod_lt _ (by omega)), ?_⟩
        exact minus_step (f := upd1 o i ((x + 4294967296 - y - cy) % 4294967296)) (a := lim a) (b := lim b) (i := i) (c := cy) (c' := if x < y + cy then 1 else 0) (s := (x + 4294967296 - y - cy) % 4294967296) (by rw [fv_upd_out (Nat.le_refl _)]; exact HI.out.2) (by rw [Hxx.out, hy]; exact sub_digit hx hy2 hcy) (upd1_self _ _ _))
      by_cases hm2 : i < m
      · have i3 : (i : Int) < (m : Int) := by omega
        obtain ⟨bl2, ob, rfl, hbl2, r0⟩ := (H.out.2.2.below (by rw [Hg.out]; exact HW.out)).at_ hm2
        have hy := lim_lt b i
        obtain ⟨y, hyy⟩ : ∃ y, lim b i = y := ⟨_, rfl⟩
        rw [hyy] at r0 hy
        have Hn := Lib.hid (Hnext.out y hyy hy _ _ rfl rfl)
        clear hyy Hnext
        go_wp2_with ((with_reducible refine (sub32_any x y cy _ hx hy hcy).mono ?_); rintro e w' ⟨rfl, rfl⟩)
        refine ⟨⟨i + 1, if x < y + cy then 1 else 0, _, by simp, by go_num, by omega, ?_, Hn, Lib.hid (HW.out.setCell (by simp) _)⟩, by simp [intOf]; omega⟩
        clear Hn
        split <;> omega
      · have i3 : (m : Int) ≤ (i : Int) := by omega
        have Hn := Lib.hid (Hnext.out 0 (H.out.2.over (by omega)) (by omega) _ _ rfl rfl)
        clear Hnext
        go_wp2_with ((with_reducible refine (sub32_zero x cy _ hx hcy).mono ?_); rintro e w' ⟨rfl, rfl⟩)
        refine ⟨⟨i + 1, if x < 0 + cy then 1 else 0, _, by simp, by go_num, by omega, ?_, Hn, Lib.hid (HW.out.setCell (by simp) _)⟩, by simp [intOf]; omega⟩
        clear Hn
        split <;> omega
    · obtain rfl : n = i := by omega
      have Hset := Lib.hid (show BlkU wr g n o ∧ fv o n = a - b from ⟨HI.out.1, by
        have h := HI.out.2
        rw [H.out.1.val, fv_lim_eq (Nat.lt_of_lt_of_le H.out.2.lt (pw_le hm))] at h
        have hf := fv_lt HI.out.1.1
        have hl := H.out.1.lt
        have hcy2 : cy = 0 := Nat.eq_zero_of_not_pos fun hp => by
          obtain rfl : cy = 1 := by omega
          have := Hba.out
          omega
        rw [hcy2] at h
        omega⟩)
      go_wp2_with fail
      refine (trim_blk Hset.out (by omega)).mono ?_
      rintro e w' ⟨k, rfl, hk, hnm, rfl⟩
      have Hf := Lib.hid (HR.out _ k _ _ hk hnm (fresh_at (Nat.le_of_eq Hg.out)) (by rw [Hg.out]; exact HW.out))
      clear hnm
      go_wp2_with fail
      exact Hf.out
theorem length_any (A : Option Addr) (n c a : Nat) (w : World) (h1 : Nm w A n a) (hn : n ≤ 1000000) :
    Calls Tryz.prog 336 #[.slice A n c] w fun e w' => e = .returned (.int .i64 (bitsN a : Nat)) ∧ w = w' := by
  refine calls_cps ?_
  intro R hR
  have HR := Lib.hid hR
  have Hl := Lib.hid h1.1
  clear hR
  rcases n with _ | n
  · have h0 : a = 0 := ln_eq_zero.1 Hl.out.symm
    have Hf := Lib.hid (HR.out.out (.returned (.int .i64 0)) w ⟨by rw [h0]; rfl, rfl⟩)
    clear h0
    go_enter Tryz.func336, Tryz.ntmps336
    go_wp2
    exact Hf.out
  · obtain ⟨b, o, rfl, hb, q0⟩ := h1.2.at_ (k := n) (by omega)
    have hx := lim_lt a n
    have Hb := Lib.hid (bitsN_top Hl.out.symm)
    have hb32 := bitsN_32 hx
    have i0 : (0 : Int) ≤ (n : Int) := by omega
    go_enter Tryz.func336, Tryz.ntmps336
    go_wp2_with (go_at_call 259; (with_reducible refine (len32_any _ _ hx).mono ?_); rintro e w' ⟨rfl, rfl⟩)
    refine HR.out.out _ _ ⟨?_, rfl⟩
    rw [Hb.out]
    simp
end
section
open Go.RowKit
theorem school_alg {i j x bj V F : Nat} : F + x * pw i * V + x * bj * pw (i + j) = F + x * pw i * (V + bj * pw j) := by
  rw [pw_add, Nat.mul_add (x * pw i), Nat.add_assoc]
  congr 2
  ac_rfl
set_option maxHeartbeats 2000000 in
theorem school_any (A B : Option Addr) (n c m d a b : Nat) (w : World) (h1 : Nm w A n a) (h2 : Nm w B m b) (hn : n ≤ 600000) (hm : m ≤ 600000) :
    Calls Tryz.prog 389 #[.slice A n c, .slice B m d] w (NewNum w (a * b)) := by
  refine calls_cps ?_
  intro R hR
  have HR := Lib.hid (show ∀ A' k c' W', k ≤ c' → Nm W' A' k (a * b) → (∀ ad, A' = some ad → w.heap.size ≤ ad.block) → Below w.heap.size w W' → R (.returned (.slice A' k c')) W' from fun A' k c' W' g1 g2 g3 g4 => hR.out _ _ ⟨A', k, c', rfl, g1, g2, g3, g4⟩)
  have H := Lib.hid (And.intro h1 h2)
  clear hR h1 h2
  have hmk : (Instr.makeSlice 68 (.int .i64 ((n : Int) + (m : Int))) (.int .i64 ((n : Int) + (m : Int)))).run Tryz.prog w = .ok (.slice (some ⟨w.heap.size, 0, none⟩) (n + m) (n + m)) (w.alloc (.cells (madeCells #[Value.int .u32 0] (n + m)) 133)) := by
    have h := run_mkU (n + m) (by omega) w .i64
    rwa [Int.natCast_add] at h
  have HB := Lib.hid (BlkU.new w (n + m))
  have Hb := Lib.hid (below_new w (.cells (madeCells #[Value.int .u32 0] (n + m)) 133))
  obtain ⟨W1, hW1⟩ : ∃ W1, w.alloc (.cells (madeCells #[Value.int .u32 0] (n + m)) 133) = W1 := ⟨_, rfl⟩
  obtain ⟨g, hg⟩ : ∃ g, w.heap.size = g := ⟨_, rfl⟩
  rw [hW1] at HB Hb hmk
  rw [hg] at HB Hb hmk
  have Hg := Lib.hid hg
  clear hW1 hg
  go_enter Tryz.func389, Tryz.ntmps389
  go_wp2_with fail
  go_loopw [20] (fun s20 wr => ∃ (i : Nat) (o : Nat → Nat), s20 = .int .i64 (i : Nat) ∧ i ≤ n ∧ Hid (BlkU wr g (n + m) o ∧ fv o (n + m) = fv (lim a) i * b ∧ (∀ k, i + m ≤ k → k < n + m → o k = 0)) ∧ Hid (Below g w wr)) (fun s20 _ => n - (intOf s20).toNat)
  case atStart => exact ⟨0, fun _ => 0, rfl, Nat.zero_le _, Lib.hid ⟨HB.out, by rw [fv_zero]; simp [fv], fun _ _ _ => rfl⟩, Hb⟩
  case round =>
    obtain ⟨i, o, rfl, hi, HI, HW⟩ := hrel
    obtain ⟨wo, rfl⟩ : ∃ wo : World, wo = wr := ⟨_, rfl⟩
    by_cases hlt : i < n
    · have i1 : (i : Int) < (n : Int) := by omega
      obtain ⟨bl, oa, rfl, hbl, q0⟩ := (H.out.1.2.below (by rw [Hg.out]; exact HW.out)).at_ hlt
      have hx := lim_lt a i
      obtain ⟨x, hxx⟩ : ∃ x, lim a i = x := ⟨_, rfl⟩
      rw [hxx] at q0 hx
      have Hxx := Lib.hid hxx
      clear hxx
      go_wp2_with fail
      clear q0
      go_loopw [8, 27] (fun s8 s27 wr => ∃ (j cy : Nat) (o : Nat → Nat), s8 = .int .u64 (cy : Nat) ∧ s27 = .int .i64 (j : Nat) ∧ j ≤ m ∧ cy < 4294967296 ∧ Hid (BlkU wr g (n + m) o ∧ fv o (n + m) + cy * pw (i + j) = fv (lim a) i * b + x * pw i * fv (lim b) j ∧ (∀ k, i + m ≤ k → k < n + m → o k = 0)) ∧ Hid (Below g w wr)) (fun _ s27 _ => m - (intOf s27).toNat)
      case atStart => exact ⟨0, 0, o, rfl, rfl, Nat.zero_le _, by omega, Lib.hid ⟨HI.out.1, by rw [HI.out.2.1]; simp [fv], HI.out.2.2⟩, HW⟩
      case round =>
        obtain ⟨j, cy, o2, rfl, rfl, hj, hcy, HI2, HW2⟩ := hrel
        by_cases hjt : j < m
        · have j1 : (j : Int) < (m : Int) := by omega
          obtain ⟨bl2, ob, rfl, hbl2, r0⟩ := (H.out.2.2.below (by rw [Hg.out]; exact HW2.out)).at_ hjt
          have hy := lim_lt b j
          obtain ⟨y, hyy⟩ : ∃ y, lim b j = y := ⟨_, rfl⟩
          rw [hyy] at r0 hy
          have f0 := HI2.out.1.frozen
          have c0 := HI2.out.1.cell (i := i + j) (by omega)
          have hz := HI2.out.1.1 (i + j) (by omega)
          obtain ⟨z, hzz⟩ : ∃ z, o2 (i + j) = z := ⟨_, rfl⟩
          rw [hzz] at c0 hz
          have hmb := mul_bound hx hy hz hcy
          obtain ⟨t, ht⟩ : ∃ t, x * y + z + cy = t := ⟨_, rfl⟩
          have hxy : (x : Int) * (y : Int) + (z : Int) + (cy : Int) ≤ 18446744073709551615 := by
            have : ((x * y + z + cy : Nat) : Int) ≤ 18446744073709551615 := by omega
            simpa using this
          have hxy0 : 0 ≤ (x : Int) * (y : Int) := Int.mul_nonneg (by omega) (by omega)
          have Hyy := Lib.hid hyy
          have Hzz := Lib.hid hzz
          have Ht := Lib.hid ht
          clear hyy hzz ht hmb
          have Hn := Lib.hid (show BlkU (wr.setCell ⟨g, i + j, none⟩ (.int .u32 ((t % 4294967296 : Nat) : Int))) g (n + m) (upd1 o2 (i + j) (t % 4294967296)) ∧ fv (upd1 o2 (i + j) (t % 4294967296)) (n + m) + t / 4294967296 * pw (i + (j + 1)) = fv (lim a) i * b + x * pw i * fv (lim b) (j + 1) ∧ (∀ k, i + m ≤ k → k < n + m → upd1 o2 (i + j) (t % 4294967296) k = 0) from by
            refine ⟨HI2.out.1.set _ _ (Nat.mod_lt _ (by omega)), ?_, fun k k1 k2 => by rw [upd1_ne (by omega)]; exact HI2.out.2.2 k k1 k2⟩
            rw [← Nat.add_assoc, row_step (x := x) (bj := y) (by omega) HI2.out.2.1 (by rw [← Ht.out, Hzz.out]), fv_succ, Hyy.out, school_alg])
          have e1 : ((t % 4294967296 : Nat) : Int) = ((x : Int) * (y : Int) + (z : Int) + (cy : Int)) % 4294967296 := by rw [← Ht.out]; simp
          have e2 : ((t / 4294967296 : Nat) : Int) = ((x : Int) * (y : Int) + (z : Int) + (cy : Int)) / 4294967296 := by rw [← Ht.out]; simp
          have ht2 : t / 4294967296 < 4294967296 := by
            have := mul_bound hx hy hz hcy
            rw [Ht.out] at this
            omega
          rw [e1] at Hn
          have He2 := Lib.hid e2
          clear e1 e2
          go_wp2_with fail
          exact ⟨⟨j + 1, t / 4294967296, _, by rw [He2.out], by go_num, by omega, ht2, Hn, Lib.hid (HW2.out.setCell (by simp) _)⟩, by simp [intOf]; omega⟩
        · obtain rfl : m = j := by omega
          have f0 := HI2.out.1.frozen
          have c0 := HI2.out.1.cell (i := i + m) (by omega)
          have Hn := Lib.hid (show BlkU (wr.setCell ⟨g, i + m, none⟩ (.int .u32 (cy : Nat))) g (n + m) (upd1 o2 (i + m) cy) ∧ fv (upd1 o2 (i + m) cy) (n + m) = fv (lim a) (i + 1) * b ∧ (∀ k, i + 1 + m ≤ k → k < n + m → upd1 o2 (i + m) cy k = 0) from by
            refine ⟨HI2.out.1.set _ _ hcy, ?_, fun k k1 k2 => by rw [upd1_ne (by omega)]; exact HI2.out.2.2 k (by omega) k2⟩
            have h := fv_upd (f := o2) (k := i + m) (x := cy) (n := n + m) (by omega)
            rw [HI2.out.2.2 (i + m) (Nat.le_refl _) (by omega), Nat.zero_mul, Nat.add_zero] at h
            rw [h, HI2.out.2.1, H.out.2.val, fv_succ, Hxx.out, Nat.add_mul])
          go_wp2_with fail
          exact ⟨⟨i + 1, _, by go_num, by omega, Hn, Lib.hid (HW2.out.setCell (by simp) _)⟩, by simp [intOf]; omega⟩
    · obtain rfl : n = i := by omega
      have Hset := Lib.hid (show BlkU wo g (n + m) o ∧ fv o (n + m) = a * b from ⟨HI.out.1, by rw [HI.out.2.1, H.out.1.val]⟩)
      go_wp2_with fail
      refine (trim_blk Hset.out (by omega)).mono ?_
      rintro e w' ⟨k, rfl, hk, hnm, rfl⟩
      have Hf := Lib.hid (HR.out _ k _ _ hk hnm (fresh_at (Nat.le_of_eq Hg.out)) (by rw [Hg.out]; exact HW.out))
      clear hnm
      go_wp2_with fail
      exact Hf.out
set_option maxHeartbeats 4000000 in
/-- A number is added into a row of limbs, some limbs up; the row has room. -/
theorem addAt_any (g N k : Nat) (B : Option Addr) (m d x : Nat) (f : Nat → Nat) (w : World) (h : BlkU w g N f) (h2 : Nm w B m x) (hne : 0 < m → ∀ a, B = some a → a.block ≠ g) (hN : N ≤ 4000000) (hk : k + m ≤ N) (hroom : fv f N + x * pw k < pw N) :
    Calls Tryz.prog 412 #[.slice (some ⟨g, 0, none⟩) N N, .slice B m d, .int .i64 (k : Nat)] w fun e w' => e = .returned (.tuple #[]) ∧ ∃ o, BlkU w' g N o ∧ fv o N = fv f N + x * pw k ∧ Kx (fun j => j = g) w w' := by
  refine calls_cps ?_
  intro R hR
  have HR := Lib.hid (show ∀ W' o, BlkU W' g N o → fv o N = fv f N + x * pw k → Kx (fun j => j = g) w W' → R (.returned (.tuple #[])) W' from fun W' o g1 g2 g3 => hR.out _ _ ⟨rfl, o, g1, g2, g3⟩)
  have HB := Lib.hid h
  have H2 := Lib.hid h2
  have Hne := Lib.hid hne
  have Hroom := Lib.hid hroom
  clear hR h h2 hne hroom
  go_enter Tryz.func412, Tryz.ntmps412
  go_wp2_with fail
  go_loopw [6, 11] (fun s6 s11 wr => ∃ (i cy : Nat) (o : Nat → Nat), s6 = .int .u32 (cy : Nat) ∧ s11 = .int .i64 (i : Nat) ∧ i ≤ m ∧ cy ≤ 1 ∧ Hid (BlkU wr g N o ∧ fv o N + cy * pw (k + i) = fv f N + fv (lim x) i * pw k) ∧ Hid (Kx (fun j => j = g) w wr)) (fun _ s11 _ => m - (intOf s11).toNat)
  case atStart => exact ⟨0, 0, f, rfl, rfl, Nat.zero_le _, Nat.zero_le _, Lib.hid ⟨HB.out, by simp [fv]⟩, Lib.hid (Kx.refl _ _)⟩
  case round =>
    obtain ⟨i, cy, o, rfl, rfl, hi, hcy, HI, HK⟩ := hrel
    by_cases hlt : i < m
    · have i1 : (i : Int) < (m : Int) := by omega
      have i2 : ((k : Int) + (i : Int)) < (N : Int) := by omega
      obtain ⟨bl, oa, rfl, hbl, q0⟩ := (H2.out.2.kx HK.out Hne.out).at_ hlt
      have hx := lim_lt x i
      obtain ⟨y, hyy⟩ : ∃ y, lim x i = y := ⟨_, rfl⟩
      rw [hyy] at q0 hx
      have f0 := HI.out.1.frozen
      have c0 := HI.out.1.cell (i := k + i) (by omega)
      have hz := HI.out.1.1 (k + i) (by omega)
      obtain ⟨z, hzz⟩ : ∃ z, o (k + i) = z := ⟨_, rfl⟩
      rw [hzz] at c0 hz
      have Hn := Lib.hid (show BlkU (wr.setCell ⟨g, k + i, none⟩ (.int .u32 (((z + y + cy) % 4294967296 : Nat)))) g N (upd1 o (k + i) ((z + y + cy) % 4294967296)) ∧ fv (upd1 o (k + i) ((z + y + cy) % 4294967296)) N + (z + y + cy) / 4294967296 * pw (k + (i + 1)) = fv f N + fv (lim x) (i + 1) * pw k from by
        refine ⟨HI.out.1.set _ _ (Nat.mod_lt _ (by omega)), ?_⟩
        have h := row_step (o := o) (n := N) (i := k) (j := i) (x := 1) (bj := y) (c := cy) (t := z + y + cy) (by omega) HI.out.2 (by rw [hzz]; omega)
        rw [← Nat.add_assoc k i 1, h, fv_succ, hyy, Nat.add_mul, Nat.one_mul, pw_add, Nat.mul_comm (pw k), Nat.mul_assoc, Nat.add_assoc])
      have Hyy := Lib.hid hyy
      have Hzz := Lib.hid hzz
      clear hyy hzz
      have z0 : (0 : Int) ≤ (k : Int) + (i : Int) := by omega
      have z1 : IntKind.i64.wrap ((k : Int) + (i : Int)) = (k : Int) + (i : Int) := IntWalk.i64_in _ (by omega)
      have z2 : ((k : Int) + (i : Int)).toNat = k + i := by omega
      go_wp2_with fail
      go_region_with ((with_reducible refine (add32_any z y cy _ hz hx hcy).mono ?_); rintro e w' ⟨rfl, rfl⟩)
      all_goals go_wp2_with fail
      all_goals exact ⟨⟨i + 1, (z + y + cy) / 4294967296, _, by simp, by go_num, by omega, by omega, Lib.hid Hn.out, Lib.hid ((kx_set HK.out rfl _ _).drewN 1)⟩, by simp [intOf]; omega⟩
    · obtain rfl : m = i := by omega
      have Hq := Lib.hid (show fv f N + fv (lim x) m * pw k = fv f N + x * pw k from by rw [H2.out.val])
      go_wp2_with fail
      go_loopw [6, 8] (fun s6 s8 wr => ∃ (p cy : Nat) (o : Nat → Nat), s6 = .int .u32 (cy : Nat) ∧ s8 = .int .i64 (p : Nat) ∧ k + m ≤ p ∧ p ≤ N ∧ cy ≤ 1 ∧ Hid (BlkU wr g N o ∧ fv o N + cy * pw p = fv f N + x * pw k) ∧ Hid (Kx (fun j => j = g) w wr)) (fun _ s8 _ => N - (intOf s8).toNat)
      case atStart => exact ⟨k + m, cy, o, rfl, by go_num, Nat.le_refl _, hk, hcy, Lib.hid ⟨HI.out.1, HI.out.2.trans Hq.out⟩, HK⟩
      case round =>
        obtain ⟨p, cy2, o2, rfl, rfl, hp1, hp2, hcy2, HI2, HK2⟩ := hrel
        rcases Nat.eq_zero_or_pos cy2 with hc0 | hc0
        · subst hc0
          have Hf := Lib.hid (HR.out _ o2 HI2.out.1 (by have := HI2.out.2; omega) HK2.out)
          go_wp2_with fail
          go_end0
          exact Hf.out
        · have hc1 : cy2 = 1 := by omega
          have Hc1 := Lib.hid hc1
          have i0 : (0 : Int) < (cy2 : Int) := by omega
          have hpN : p < N := by
            rcases Nat.lt_or_ge p N with h | h
            · exact h
            · obtain rfl : p = N := by omega
              have h1 := HI2.out.2
              rw [hc1] at h1
              have h2 := Hroom.out
              omega
          clear hc1
          have f0 := HI2.out.1.frozen
          have c0 := HI2.out.1.cell hpN
          have hz := HI2.out.1.1 p hpN
          obtain ⟨z, hzz⟩ : ∃ z, o2 p = z := ⟨_, rfl⟩
          rw [hzz] at c0 hz
          have Hn := Lib.hid (show BlkU (wr.setCell ⟨g, p, none⟩ (.int .u32 (((z + 0 + cy2) % 4294967296 : Nat)))) g N (upd1 o2 p ((z + 0 + cy2) % 4294967296)) ∧ fv (upd1 o2 p ((z + 0 + cy2) % 4294967296)) N + (z + 0 + cy2) / 4294967296 * pw (p + 1) = fv f N + x * pw k from by
            refine ⟨HI2.out.1.set _ _ (Nat.mod_lt _ (by omega)), ?_⟩
            have h := row_step (o := o2) (n := N) (i := p) (j := 0) (x := 1) (bj := 0) (c := cy2) (t := z + 0 + cy2) (by omega) HI2.out.2 (by rw [Nat.add_zero p, hzz]; omega)
            simpa using h)
          have Hzz := Lib.hid hzz
          clear hzz
          have i2 : (p : Int) < (N : Int) := by omega
          go_wp2_with ((with_reducible refine (add32_zero z cy2 _ hz hcy2).mono ?_); rintro e w' ⟨rfl, rfl⟩)
          refine ⟨⟨p + 1, (z + 0 + cy2) / 4294967296, _, by simp, by go_num, by omega, by omega, by omega, Lib.hid Hn.out, Lib.hid (kx_set HK2.out rfl _ _)⟩, by simp [intOf]; omega⟩
/-- What split hands back. -/
def SplitP (w : World) (k v c : Nat) (e : Ending) (w' : World) : Prop := ∃ A1 A2 n1 n2 c1 c2, e = .returned (.tuple #[.slice A1 n1 c1, .slice A2 n2 c2]) ∧ n1 ≤ c1 ∧ c1 ≤ c ∧ n2 ≤ c2 ∧ c2 ≤ c ∧ Nm w A1 n1 (v % pw k) ∧ Nm w A2 n2 (v / pw k) ∧ Qt w w'
theorem nsplit_any (A : Option Addr) (n c k v : Nat) (w : World) (h : Nm w A n v) (hnc : n ≤ c) (hn : n ≤ 600000) :
    Calls Tryz.prog 413 #[.slice A n c, .int .i64 (k : Nat)] w (SplitP w k v c) := by
  refine calls_cps ?_
  intro R hR
  have HR := Lib.hid hR
  have H := Lib.hid h
  clear hR
  rcases Nat.lt_or_ge k n with hl | hl
  · obtain ⟨b, o, rfl, hb, _⟩ := h.2.at_ hl
    have i0 : (0 : Int) ≤ (k : Int) := by omega
    have i1 : (k : Int) < (n : Int) := by omega
    have i2 : (k : Int) ≤ (c : Int) := by omega
    have i3 : (k : Int) < (c : Int) := by omega
    have i4 : (n : Int) ≤ (c : Int) := by omega
    have i5 : k < c := by omega
    clear h
    go_enter Tryz.func413, Tryz.ntmps413
    go_wp2_with fail
    go_quiet ((go_at_call 341; exact trim_quiet (some ⟨b, o, none⟩) k c (v % pw k) (lim v) _ _ (H.out.2.take (by omega)) (by omega) (by omega) (fv_lim v k)))
    go_wp2_with fail
    exact HR.out.out _ _ ⟨some ⟨b, o, none⟩, some ⟨b, o + k, none⟩, ln (v % pw k), n - k, c, c - k, rfl, Nat.le_trans ((ln_le_iff k _).2 (Nat.mod_lt _ (pw_pos k))) (by omega), Nat.le_refl _, by omega, Nat.sub_le _ _, H.out.low (by omega), H.out.high (by omega), ⟨_, rfl⟩⟩
  · have Hf := Lib.hid (HR.out.out (.returned (.tuple #[.slice A n c, .slice none 0 0])) w ⟨A, none, n, 0, c, 0, rfl, hnc, Nat.le_refl _, Nat.le_refl _, Nat.zero_le _, by rw [Nat.mod_eq_of_lt (Nat.lt_of_lt_of_le h.lt (pw_le hl))]; exact h, by rw [Nat.div_eq_of_lt (Nat.lt_of_lt_of_le h.lt (pw_le hl))]; exact Nm.zero _ _, Qt.refl _⟩)
    have i1 : decide ((n : Int) ≤ (k : Int)) = true := decide_eq_true (by omega)
    have i2 : decide (n ≤ k) = true := decide_eq_true (by omega)
    clear h
    go_enter Tryz.func413, Tryz.ntmps413
    go_wp2_with fail
    exact Hf.out
end
end Go.Proofs.YtndcijkgaadpgaaGreatDoor
