/-
  Contract of the set's root: it hands back the root of the note's label, and halves paths; condition: parents that keep labels.
-/
import Derived.Test.YtojbldoekalbnaaGreatTIns
namespace Go.Proofs.YtojbldoekalbnaaGreat
open Go.RowKit
/-- The block of the parents. -/
def BlkA (W : World) (g : Nat) (p : Nat → Nat) : Prop := W.heap[g]? = some (.cells ((List.range 64).map fun i => Value.int .i64 (p i : Nat)).toArray 128 (0, 0))
theorem BlkA.lt {W : World} {g : Nat} {p : Nat → Nat} (h : BlkA W g p) : g < W.heap.size := (Array.getElem?_eq_some_iff.1 h).1
theorem BlkA.cell {W : World} {g i : Nat} {p : Nat → Nat} (h : BlkA W g p) (hi : i < 64) : W.cell? ⟨g, i, none⟩ = some (.int .i64 (p i : Nat)) := by
  rw [cell_of_row _ _ i _ _ (0, 0) h]; simp [hi]
theorem BlkA.frozen {W : World} {g : Nat} {p : Nat → Nat} (h : BlkA W g p) (i : Nat) : W.frozen? ⟨g, i, none⟩ = false := by
  have h' : W.heap[g]? = some _ := h
  simp [World.frozen?, h']
theorem BlkA.set {W : World} {g : Nat} {p : Nat → Nat} (h : BlkA W g p) (k v : Nat) : BlkA (W.setCell ⟨g, k, none⟩ (.int .i64 (v : Nat))) g (upd p k v) := by
  have h' : W.heap[g]? = some _ := h
  have e : (((List.range 64).map fun i => Value.int .i64 (p i : Nat))).set k (.int .i64 (v : Nat)) = (List.range 64).map fun i => Value.int .i64 (upd p k v i : Nat) := by
    refine List.ext_getElem (by simp) fun i h1 h2 => ?_
    rw [List.getElem_set]
    simp only [List.getElem_map, List.getElem_range, upd]
    by_cases hk : k = i
    · subst hk; simp
    · rw [if_neg hk, if_neg (Ne.symm hk)]
  unfold BlkA
  simp only [World.setCell, Array.getElem?_modify, h']
  simp only [← e]
  simp
theorem BlkA.drewN {W : World} {g : Nat} {p : Nat → Nat} (h : BlkA W g p) (q : Nat) : BlkA (W.drewN q) g p := h
set_option maxRecDepth 8000 in
set_option maxHeartbeats 4000000 in
theorem root_any (g : Nat) (p c h : Nat → Nat) (n : Nat) (hn : n < 64) (w : World) (hB : BlkA w g p) (hU : UF p c h) :
    Calls Tryz.prog 86 #[.pointer (some ⟨g, 0, none⟩), .int .i64 (n : Nat)] w
      fun e w' => ∃ r p', e = .returned (.int .i64 (r : Nat)) ∧ r < 64 ∧ p r = r ∧ c r = c n ∧ BlkA w' g p' ∧ UF p' c h ∧ Rts p p' ∧ Kx (fun j => j = g) w w' := by
  refine calls_cps ?_
  intro R hR
  have HB := Lib.hid hB
  have HU := Lib.hid hU
  clear hB hU
  go_enter Tryz.func86, Tryz.ntmps86
  go_wp2_with fail
  go_loopw [1] (fun s1 wr => ∃ (m : Nat) (q : Nat → Nat), s1 = .int .i64 (m : Nat) ∧ m < 64 ∧ Hid (BlkA wr g q ∧ UF q c h ∧ Rts p q ∧ c m = c n) ∧ Kx (fun j => j = g) w wr) (fun i _ => h (intOf i).toNat)
  case atStart => exact ⟨n, p, rfl, hn, Lib.hid ⟨HB.out, HU.out, Rts.refl p, rfl⟩, Kx.refl _ _⟩
  case round =>
    obtain ⟨m, q, rfl, hm, HI, hk⟩ := hrel
    have Hk := Lib.hid hk
    clear hk
    have g0 := HI.out.1.cell hm
    have hm0 : (0 : Int) ≤ (m : Int) := by omega
    have hm6 : (m : Int) < 64 := by omega
    by_cases hq : q m = m
    · have hd : ((q m : Nat) : Int) = (m : Int) := by omega
      have Hf := Lib.hid (hR.out (.returned (.int .i64 (m : Nat))) wr ⟨m, q, rfl, hm, (HI.out.2.2.1 m hm).2 hq, HI.out.2.2.2, HI.out.1, HI.out.2.1, HI.out.2.2.1, Hk.out⟩)
      clear hR
      rw [hd] at g0
      go_wp2_with fail
      exact Hf.out
    · have hd : ¬ ((q m : Nat) : Int) = (m : Int) := by omega
      have hl := HI.out.2.1.lt m hm
      have g1 := HI.out.1.cell hl
      have f0 := HI.out.1.frozen
      have hv := HI.out.2.1.halve hm hq
      have hl2 := HI.out.2.1.lt _ hl
      have Hv := Lib.hid hv
      have Hl2 := Lib.hid hl2
      obtain ⟨x, hx⟩ : ∃ x, q m = x := ⟨_, rfl⟩
      rw [hx] at g0 g1 hl hd
      obtain ⟨y, hy⟩ : ∃ y, q x = y := ⟨_, rfl⟩
      rw [hy] at g1
      rw [hx, hy] at hl2 hv
      have hvh := hv.2.2
      clear hv
      have Hx := Lib.hid hx
      have Hy := Lib.hid hy
      have hx0 : (0 : Int) ≤ (x : Int) := by omega
      have hx6 : (x : Int) < 64 := by omega
      clear hx hy
      go_wp2_with fail
      go_region
      have e0 : (wr.setCell ⟨g, m, none⟩ (.int .i64 (y : Nat))).cell? ⟨g, m, none⟩ = some (.int .i64 (y : Nat)) := by
        have := (HI.out.1.set m y).cell hm
        simpa [upd] using this
      have Hb := Lib.hid (HI.out.1.set m y)
      have Hk2 := Lib.hid (kx_setg Hk.out m (.int .i64 (y : Nat)))
      obtain ⟨W2, hW2⟩ : ∃ W2, wr.setCell ⟨g, m, none⟩ (.int .i64 (y : Nat)) = W2 := ⟨_, rfl⟩
      rw [hW2] at Hb Hk2 e0 ⊢
      clear hW2 g0 g1 f0
      go_wp2_with fail
      refine ⟨⟨y, upd q m y, rfl, hl2, Lib.hid ⟨Hb.out.drewN 1, ?_, ?_, ?_⟩, Hk2.out.drewN 1⟩, by simpa [intOf] using hvh⟩
      · have := Hv.out.1; rwa [Hx.out, Hy.out] at this
      · have := HI.out.2.2.1.trans Hv.out.2.1; rwa [Hx.out, Hy.out] at this
      · rw [← HI.out.2.2.2, ← Hy.out, HI.out.2.1.lab x hl, ← Hx.out, HI.out.2.1.lab m hm]
end Go.Proofs.YtojbldoekalbnaaGreat
