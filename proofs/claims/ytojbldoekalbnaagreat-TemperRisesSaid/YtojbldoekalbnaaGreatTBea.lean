/-
  Contracts of temper.Bearings: bad arguments, and a valid plan of at most as many links as the sort's contract takes.
-/
import Derived.Test.YtojbldoekalbnaaGreatTIso
namespace Go.Proofs.YtojbldoekalbnaaGreat
open Go.RowKit
theorem krun_len (L : List Lk) (stop : List Int → (Nat → Nat) → Bool) : ∀ (r : List Int) (c : Nat → Nat) (T : List Int), (krun L stop r c T).1.length ≤ T.length + r.length
  | [], c, T => by simp [krun]
  | i :: r, c, T => by
    have ih := krun_len L stop r
    unfold krun
    split
    · have := ih c T; simp only [List.length_cons]; omega
    · rename_i l hl
      split
      · have := ih c T; simp only [List.length_cons]; omega
      · split
        · simp only [List.length_append, List.length_cons, List.length_nil]; omega
        · have := ih (relab c (c l.a.toNat) (c l.b.toNat)) (T ++ [i]); simp only [List.length_append, List.length_cons, List.length_nil] at this ⊢; omega
theorem kruL_len (L : List Lk) (stop : List Int → (Nat → Nat) → Bool) : (kruL L stop).1.length ≤ L.length := by
  have := krun_len L stop (srt L (idxs L.length)) id []
  rw [(srt_perm L _).length_eq, idxs_len] at this
  simpa [kruL] using this
theorem Pln.lks {notes : Int} {L : List Lk} (h : Pln notes L) : Lks L :=
  ⟨fun l hl => (h.lk l hl).2.2, fun l hl => by have := h.lk l hl; have := h.hi; omega, fun l hl => by have := h.lk l hl; have := h.hi; omega⟩
theorem own_low {W : World} {b b' e sz n : Nat} {v : Value} {xs : List Value} (h : W.ownsRow b e sz v n xs) (hb : b' ≤ b) : W.ownsRow b' e sz v n xs := by
  refine ⟨h.1, ?_⟩
  rcases h.2 with h3 | ⟨g, cap, cur, e, h4, r⟩
  · exact .inl h3
  · exact .inr ⟨g, cap, cur, e, Nat.le_trans hb h4, r⟩
set_option maxRecDepth 8000 in
set_option maxHeartbeats 8000000 in
theorem bear_bad (notes : Int) (A : Option Addr) (n c : Nat) (L : List Lk) (w : World) (hS : SlE linkE 3 w A n L) (hn : n ≤ 9223372036854775807) (hp : planB notes L = false) :
    Calls Tryz.prog 27 #[.int .i64 notes, .slice A n c] w fun e w' => e = .returned (.tuple #[.slice none 0 0, .int .i64 1]) ∧ Below w.heap.size w w' := by
  refine calls_cps ?_
  intro R hR
  have hb1 := below_new w (.cells #[.int .i64 notes] 3)
  have hal := heap_alloc_new w (.cells #[.int .i64 notes] 3)
  have hpl := plan_any notes A n c L (w.alloc (.cells #[.int .i64 notes] 3)) (hS.below hb1) hn
  rw [hp] at hpl
  have Hpl := Lib.hid hpl
  have Hb1 := Lib.hid hb1
  clear hpl hS hb1 hp
  go_enter Tryz.func27, Tryz.ntmps27
  go_wp2_with (go_at_call 51; refine Hpl.out.mono ?_; rintro e w2 ⟨rfl, hb2⟩; have Hb2 := Lib.hid hb2; clear hb2)
  have Hf := Lib.hid (hR.out _ w2 ⟨rfl, Hb1.out.trans (Hb2.out.mono (by simp))⟩)
  clear hR
  exact Hf.out
set_option maxRecDepth 8000 in
set_option maxHeartbeats 8000000 in
theorem bear_ok (notes : Int) (A : Option Addr) (n c : Nat) (L : List Lk) (w : World) (hS : SlE linkE 3 w A n L) (hp : Pln notes L) (hLn : L.length ≤ SB) (T : List Int) (hT : (kruL L (stopB notes)).1 = T) :
    Calls Tryz.prog 27 #[.int .i64 notes, .slice A n c] w fun e w' => Below w.heap.size w w' ∧ (((T.length : Int) < notes - 1 ∧ e = .returned (.tuple #[.slice none 0 0, .int .i64 6])) ∨
      (¬ (T.length : Int) < notes - 1 ∧ ∃ A' c', e = .returned (.tuple #[.slice A' T.length c', .int .i64 0]) ∧ w'.ownsRow w.heap.size 3 1 (.slice A' T.length c') T.length ((isrt T).flatMap intE))) := by
  refine calls_cps ?_
  intro R hR
  have HTl := Lib.hid (show T.length ≤ 19 from by rw [← hT]; exact Nat.le_trans (kruL_len _ _) hLn)
  have hb1 := below_new w (.cells #[.int .i64 notes] 3)
  have hal := heap_alloc_new w (.cells #[.int .i64 notes] 3)
  have hn : n ≤ 19 := by rw [hS.1]; exact hLn
  have hpl := plan_any notes A n c L (w.alloc (.cells #[.int .i64 notes] 3)) (hS.below hb1) (by omega)
  rw [(planB_iff _ _).2 hp] at hpl
  have Hpl := Lib.hid hpl
  have Hb1 := Lib.hid hb1
  have Hal := Lib.hid hal
  have HS := Lib.hid hS
  have Hp := Lib.hid hp
  have HT := Lib.hid hT
  clear hpl hS hb1 hp hal hT
  go_enter Tryz.func27, Tryz.ntmps27
  go_upto_region 3 with (go_at_call 51; refine Hpl.out.mono ?_; rintro e w2 ⟨rfl, hb2⟩; have Hb2 := Lib.hid hb2; clear hb2)
  have hz1 : (w.alloc (.cells #[.int .i64 notes] 3)).heap.size = w.heap.size + 1 := by simp
  have hz2 := Hb2.out.size
  rw [hz1] at hz2
  have hbn := (Hb2.out.block w.heap.size (by omega)).trans Hal.out
  have hbw2 : Below w.heap.size w w2 := Hb1.out.trans (Hb2.out.mono (by omega))
  have ho3 := heap_alloc_new w2 (.cells #[.slice none 0 0] 22)
  have hb3 := below_new w2 (.cells #[.slice none 0 0] 22)
  obtain ⟨bn, hbn0⟩ : ∃ bn, w.heap.size = bn := ⟨_, rfl⟩
  obtain ⟨bo, hbo0⟩ : ∃ bo, w2.heap.size = bo := ⟨_, rfl⟩
  obtain ⟨w3, hw3⟩ : ∃ w3, w2.alloc (.cells #[.slice none 0 0] 22) = w3 := ⟨_, rfl⟩
  have hS3 := (HS.out.below hbw2).below hb3
  rw [hw3] at ho3 hb3 hS3
  rw [hbo0] at ho3 hz2 hb3
  rw [hbn0] at hz2 hbn
  have hbn3 := (hb3.block bn (by omega)).trans hbn
  have hsz3 : w3.heap.size = bo + 1 := by rw [← hw3, ← hbo0]; simp
  have hkr := krB_any notes L Hp.out.lks hLn A n c bo bn w3 hS3 (by omega) ho3 (fun h0 a ha => by
    obtain ⟨b', o', e', hb', _⟩ := HS.out.2.2 h0
    rw [ha] at e'; injection e' with e'; subst e'; show b' ≠ bo; omega) hbn3 Hp.out.lo Hp.out.hi
  rw [HT.out, hsz3] at hkr
  have Hkr := Lib.hid hkr
  have Hb3 := Lib.hid hb3
  have Hbn3 := Lib.hid hbn3
  have Hbw2 := Lib.hid hbw2
  have h1 := Hp.out.lo
  have h2 := Hp.out.hi
  clear hkr hb3 hbn3 hbw2 hS3 ho3 hbn Hal Hpl HS Hb1 Hb2
  subst hw3
  go_upto_region 5 with (go_at_call 52; refine Hkr.out.mono ?_; rintro e w4 ⟨rfl, hn4, hk4⟩; have Hn4 := Lib.hid hn4; have Hk4 := Lib.hid hk4; clear hn4 hk4)
  obtain ⟨A', c', hc, ho⟩ := Hn4.out
  have c0 := (cells1 hc).1
  have n0 := (cells1 ((Hk4.out.block bn (by omega) (by omega)).trans Hbn3.out)).1
  have hbw4 : Below w.heap.size w w4 := (Hbw2.out.trans (Hb3.out.mono (by omega))).trans (Below.refl _ _) |> fun h => Kx.low h Hk4.out (fun j hj => by omega) (by omega)
  have hu : IntKind.i64.wrap (notes - 1) = notes - 1 := IntWalk.i64_in _ (by omega)
  by_cases hlt : (T.length : Int) < notes - 1
  · have Hf := Lib.hid (hR.out _ w4 ⟨hbw4, .inl ⟨hlt, rfl⟩⟩)
    clear hR hc ho hbw4
    go_wp2_with fail
    exact Hf.out
  · have HR := Lib.hid (fun e w' h => hR.out e w' h)
    have Hi := Lib.hid (isort_any A' T.length c' (bo + 1) T w4 ho rfl (by have := HTl.out; omega))
    have Hc := Lib.hid hc
    have Hbw4 := Lib.hid hbw4
    have hbo4 : bo < w4.heap.size := (Array.getElem?_eq_some_iff.1 hc).1
    clear hR hc ho hbw4
    go_wp2_with (go_at_call 54; refine Hi.out.mono ?_; rintro e w5 ⟨rfl, ho5, hk5⟩; have c5 := (cells1 ((hk5.block bo hbo4 (by omega)).trans Hc.out)).1; have Hf := Lib.hid (fun e h => HR.out e w5 ⟨Kx.low Hbw4.out hk5 (fun j hj => by omega) (by have := Hbw4.out.size; omega), .inr ⟨hlt, A', c', h, own_low ho5 (by omega)⟩⟩); clear ho5 hk5)
    exact Hf.out _ rfl
end Go.Proofs.YtojbldoekalbnaaGreat
