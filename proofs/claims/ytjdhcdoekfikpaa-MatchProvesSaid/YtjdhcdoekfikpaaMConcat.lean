/-
  The contracts of slices.Grow of nil and slices.Concat of two slices, of ints and of slices of ints; and of slices.Contains of ints.
-/
import Derived.Test.YtjdhcdoekfikpaaMCut
import Derived.Lib.AppendZerosOnto
namespace Go.Proofs.Ytjdhcdoekfikpaa
open Go.RowKit

theorem infoGrI : (Try.prog.info? 3).map (fun i => (i.zero, i.size, i.bytes)) = some (some (Value.int .i64 0), 1, 8) := by kernel_rfl
theorem elemGrI : ElemOk Try.prog 26 3 1 8 := ElemOk.of (z := Value.int .i64 0) Try.underlying26 infoGrI rfl (by omega)
set_option maxRecDepth 100000 in
set_option maxHeartbeats 2000000 in
theorem growI_any (n : Nat) (hn : n ≤ 1000) (w : World) : Calls Try.prog 69 #[.slice none 0 0, .int .i64 (n : Int)] w fun e w' => ∃ A c, e = .returned (.slice A 0 c) ∧ w'.ownsRow w.heap.size 3 1 (.slice A 0 c) 0 [] ∧ Below w.heap.size w w' := by
  refine calls_cps ?_
  intro R hR
  by_cases h0 : n = 0
  · subst h0
    have Hf := Lib.hid (hR.out (.returned (.slice none 0 0)) w ⟨none, 0, rfl, ⟨rfl, .inl ⟨rfl, rfl⟩⟩, Below.refl _ _⟩)
    clear hR
    go_enter Try.func69, Try.ntmps69
    go_wp2
    exact Hf.out
  · obtain ⟨i0, hi0, hz0, hs0, hb0⟩ := info_parts infoGrI
    have hrz : ∀ ty, (Builtin.append_ #[26, 3] ty #[.slice none 0 0, .int .i64 ((n : Nat) : Int)]).run Try.prog w = .ok (.slice (some ⟨w.heap.size, 0, none⟩) n (grownCap w n 0 3)) (w.drew.alloc (.cells (#[] ++ Builtin.zeroCells (Value.int .i64 0).cells n ++ Builtin.zeroCells (Value.int .i64 0).cells (grownCap w n 0 3 - n)) 3)) := fun ty => by
      have h := Lib.run_append_grow_zeros w 26 3 ty 3 i0 (Value.int .i64 0) .i64 .i64 Try.underlying26 Try.underlying3 hi0 hz0 none 0 0 [] (run_firstCells_none w.drew i0.size 0 0 0) n (by omega) (by omega) (by omega) (by omega) (by rw [hb0]; omega) (by rw [hb0]; exact growslice_fits (by omega) (by omega))
      simpa using h
    obtain ⟨G, hG⟩ : ∃ G, grownCap w n 0 3 = G := ⟨_, rfl⟩
    have hGn : n ≤ G := by have := grownCap_ge w n 0 3; omega
    have hG63 : G ≤ maxLen := by rw [← hG]; exact grownCap_le_maxLen w n 0 3 (by unfold maxLen; omega)
    have hG64 : G ≤ 9223372036854775807 := hG63
    rw [hG] at hrz
    obtain ⟨cs, hcs⟩ : ∃ cs, #[] ++ Builtin.zeroCells (Value.int .i64 0).cells n ++ Builtin.zeroCells (Value.int .i64 0).cells (G - n) = cs := ⟨_, rfl⟩
    have hsz : cs.size = G := by rw [← hcs]; simp [size_zeroCells, Value.cells]; omega
    rw [hcs] at hrz
    have hb : Below w.heap.size w (w.drew.alloc (.cells cs 3)) := (Below.refl _ _).drew.alloc (Nat.le_refl _) _
    have Hf := Lib.hid (hR.out (.returned (.slice (some ⟨w.heap.size, 0, none⟩) 0 G)) _ ⟨_, _, rfl, ⟨rfl, .inr ⟨w.heap.size, G, cs, rfl, Nat.le_refl _, heap_alloc_new w.drew _, Nat.zero_le _, hG63, by rw [hsz, Nat.mul_one], by simp⟩⟩, hb⟩)
    have i1 : (0 : Int) < (n : Int) := by omega
    have i2 : (0 : Int) ≤ (n : Int) := by omega
    clear hR hcs hsz hb hG hi0 hz0 hs0 hb0 hG63
    go_enter Try.func69, Try.ntmps69
    go_wp2_with (at_builtin; refine Lib.wpList_append_run _ rfl _ _ _ _ rfl _ _ rfl rfl _ _ (hrz _) ?_)
    exact Hf.out
set_option maxRecDepth 100000 in
set_option maxHeartbeats 4000000 in
theorem concatI_any (b o cV : Nat) (A B : Option Addr) (n c m d : Nat) (xs ys : List Value) (w : World) (hb : b < w.heap.size) (h0 : w.cell? ⟨b, o, none⟩ = some (.slice A n c)) (h1 : w.cell? ⟨b, o + 1, none⟩ = some (.slice B m d))
    (hA : Sl w 1 A n xs) (hB : Sl w 1 B m ys) (ox : ∀ u ∈ xs, u.oneCell' = true) (oy : ∀ u ∈ ys, u.oneCell' = true) (hn : n ≤ 400) (hm : m ≤ 400) :
    Calls Try.prog 60 #[.slice (some ⟨b, o, none⟩) 2 cV] w fun e w' => ∃ A' c', e = .returned (.slice A' (n + m) c') ∧ w'.ownsRow w.heap.size 3 1 (.slice A' (n + m) c') (n + m) (xs ++ ys) ∧ Below w.heap.size w w' := by
  refine calls_cps ?_
  intro R hR
  have HA := Lib.hid hA
  have HB := Lib.hid hB
  have Hox := Lib.hid ox
  have Hoy := Lib.hid oy
  clear hA hB ox oy
  go_enter Try.func60, Try.ntmps60
  go_wp2_with fail
  go_loop [3, 5, 11] (fun s3 s5 s11 => ∃ k : Nat, k ≤ 2 ∧ s11 = .int .i64 ((k : Nat) : Int) ∧ (k = 0 ∧ s3 = .int .i64 0 ∨ k = 1 ∧ s3 = .int .i64 (n : Int) ∨ k = 2 ∧ s3 = .int .i64 ((n + m : Nat) : Int))) (fun _ _ s11 => 2 - (intOf s11).toNat)
  case atStart => exact ⟨0, by omega, rfl, .inl ⟨rfl, rfl⟩⟩
  case round =>
    obtain ⟨k, hk, rfl, h⟩ := hrel
    rcases h with ⟨rfl, rfl⟩ | ⟨rfl, rfl⟩ | ⟨rfl, rfl⟩
    · go_wp2
      exact ⟨⟨1, by omega, rfl, .inr (.inl ⟨rfl, by go_num⟩)⟩, by simp [intOf]⟩
    · have hnn : (0 : Int) ≤ (n : Int) := by omega
      have hmm : (0 : Int) ≤ (m : Int) := by omega
      go_wp2
      exact ⟨⟨2, by omega, rfl, .inr (.inr ⟨rfl, by go_num⟩)⟩, by simp [intOf]⟩
    · go_wp2_with fail
      refine (growI_any (n + m) (by omega) _).mono ?_
      rintro e w1 ⟨A0, c0, rfl, ho, hb1⟩
      have HO := Lib.hid ho
      have Hb1 := Lib.hid hb1
      clear ho hb1
      go_wp2_with fail
      go_loopg [6, 8, 27] 2 (fun gk s6 s8 s27 wr => ∃ (k : Nat) (A' : Option Addr) (c' q : Nat) (zs : List Value), k + gk = 2 ∧ s27 = .int .i64 ((k : Nat) : Int) ∧ s6 = .slice A' q c' ∧ wr.ownsRow w.heap.size 3 1 (.slice A' q c') q zs ∧ Below w.heap.size w wr ∧ Hid (k = 0 ∧ q = 0 ∧ zs = [] ∨ k = 1 ∧ q = n ∧ zs = xs ∨ k = 2 ∧ q = n + m ∧ zs = xs ++ ys))
      case atStart => exact ⟨0, A0, c0, 0, [], rfl, rfl, rfl, HO.out, Hb1.out, Lib.hid (.inl ⟨rfl, rfl, rfl⟩)⟩
      case round =>
        obtain ⟨k, A', c', q, zs, hgk, rfl, rfl, ho, hbr, hc⟩ := hrel
        obtain ⟨wi, rfl⟩ : ∃ wi : World, wi = wr := ⟨_, rfl⟩
        have q0 : wi.cell? ⟨b, o, none⟩ = some (.slice A n c) := (hbr.cell (p := ⟨b, o, none⟩) hb).trans h0
        have q1 : wi.cell? ⟨b, o + 1, none⟩ = some (.slice B m d) := (hbr.cell (p := ⟨b, o + 1, none⟩) hb).trans h1
        have HO2 := Lib.hid ho
        have Hbr := Lib.hid hbr
        have hsz := hbr.size
        clear ho hbr
        rcases hc.out with ⟨rfl, rfl, rfl⟩ | ⟨rfl, rfl, rfl⟩ | ⟨rfl, rfl, rfl⟩
        · have HX := Lib.hid (HA.out.below Hbr.out)
          go_wp2_with (at_builtin; refine wpList_app rfl (.tmp 31) (.tmp 32) _ rfl elemGrI w.heap.size _ _ _ rfl HO2.out _ _ _ _ rfl HX.out Hox.out (by unfold maxLen; omega) (by omega) hsz ?_; intro A2 c2 w2 ho2 hg2 _)
          rw [Nat.zero_add, List.nil_append] at ho2
          have HB2 := Lib.hid (below_own Hbr.out HO2.out (Nat.le_refl _) hsz hg2)
          have HO3 := Lib.hid ho2
          clear ho2 hg2
          go_roundg (gk - 1)
          case measure => omega
          case rel => exact ⟨1, A2, c2, n, xs, by omega, by go_num, rfl, HO3.out, HB2.out, Lib.hid (.inr (.inl ⟨rfl, rfl, rfl⟩))⟩
        · have HX := Lib.hid (HB.out.below Hbr.out)
          go_wp2_with (at_builtin; refine wpList_app rfl (.tmp 31) (.tmp 32) _ rfl elemGrI w.heap.size _ _ _ rfl HO2.out _ _ _ _ rfl HX.out Hoy.out (by unfold maxLen; omega) (by omega) hsz ?_; intro A2 c2 w2 ho2 hg2 _)
          have HB2 := Lib.hid (below_own Hbr.out HO2.out (Nat.le_refl _) hsz hg2)
          have HO3 := Lib.hid ho2
          clear ho2 hg2
          go_roundg (gk - 1)
          case measure => omega
          case rel => exact ⟨2, A2, c2, q + m, zs ++ ys, by omega, by go_num, rfl, HO3.out, HB2.out, Lib.hid (.inr (.inr ⟨rfl, rfl, rfl⟩))⟩
        · have Hf := Lib.hid (hR.out (.returned (.slice A' (n + m) c')) wi ⟨A', c', rfl, HO2.out, Hbr.out⟩)
          go_wp2
          exact Hf.out
theorem infoGrR : (Try.prog.info? 26).map (fun i => (i.zero, i.size, i.bytes)) = some (some (Value.slice none 0 0), 1, 24) := by kernel_rfl
theorem elemGrR : ElemOk Try.prog 22 26 1 24 := ElemOk.of (z := Value.slice none 0 0) Try.underlying22 infoGrR rfl (by omega)
set_option maxRecDepth 100000 in
set_option maxHeartbeats 2000000 in
theorem growR_any (n : Nat) (hn : n ≤ 1000) (w : World) : Calls Try.prog 68 #[.slice none 0 0, .int .i64 (n : Int)] w fun e w' => ∃ A c, e = .returned (.slice A 0 c) ∧ w'.ownsRow w.heap.size 26 1 (.slice A 0 c) 0 [] ∧ Below w.heap.size w w' := by
  refine calls_cps ?_
  intro R hR
  by_cases h0 : n = 0
  · subst h0
    have Hf := Lib.hid (hR.out (.returned (.slice none 0 0)) w ⟨none, 0, rfl, ⟨rfl, .inl ⟨rfl, rfl⟩⟩, Below.refl _ _⟩)
    clear hR
    go_enter Try.func68, Try.ntmps68
    go_wp2
    exact Hf.out
  · obtain ⟨i0, hi0, hz0, hs0, hb0⟩ := info_parts infoGrR
    have hrz : ∀ ty, (Builtin.append_ #[22, 3] ty #[.slice none 0 0, .int .i64 ((n : Nat) : Int)]).run Try.prog w = .ok (.slice (some ⟨w.heap.size, 0, none⟩) n (grownCap w n 0 26)) (w.drew.alloc (.cells (#[] ++ Builtin.zeroCells (Value.slice none 0 0).cells n ++ Builtin.zeroCells (Value.slice none 0 0).cells (grownCap w n 0 26 - n)) 26)) := fun ty => by
      have h := Lib.run_append_grow_zeros w 22 3 ty 26 i0 (Value.slice none 0 0) .i64 .i64 Try.underlying22 Try.underlying3 hi0 hz0 none 0 0 [] (run_firstCells_none w.drew i0.size 0 0 0) n (by omega) (by omega) (by omega) (by omega) (by rw [hb0]; omega) (by rw [hb0]; exact growslice_fits (by omega) (by omega))
      simpa using h
    obtain ⟨G, hG⟩ : ∃ G, grownCap w n 0 26 = G := ⟨_, rfl⟩
    have hGn : n ≤ G := by have := grownCap_ge w n 0 26; omega
    have hG63 : G ≤ maxLen := by rw [← hG]; exact grownCap_le_maxLen w n 0 26 (by unfold maxLen; omega)
    have hG64 : G ≤ 9223372036854775807 := hG63
    rw [hG] at hrz
    obtain ⟨cs, hcs⟩ : ∃ cs, #[] ++ Builtin.zeroCells (Value.slice none 0 0).cells n ++ Builtin.zeroCells (Value.slice none 0 0).cells (G - n) = cs := ⟨_, rfl⟩
    have hsz : cs.size = G := by rw [← hcs]; simp [size_zeroCells, Value.cells]; omega
    rw [hcs] at hrz
    have hb : Below w.heap.size w (w.drew.alloc (.cells cs 26)) := (Below.refl _ _).drew.alloc (Nat.le_refl _) _
    have Hf := Lib.hid (hR.out (.returned (.slice (some ⟨w.heap.size, 0, none⟩) 0 G)) _ ⟨_, _, rfl, ⟨rfl, .inr ⟨w.heap.size, G, cs, rfl, Nat.le_refl _, heap_alloc_new w.drew _, Nat.zero_le _, hG63, by rw [hsz, Nat.mul_one], by simp⟩⟩, hb⟩)
    have i1 : (0 : Int) < (n : Int) := by omega
    have i2 : (0 : Int) ≤ (n : Int) := by omega
    clear hR hcs hsz hb hG hi0 hz0 hs0 hb0 hG63
    go_enter Try.func68, Try.ntmps68
    go_wp2_with (at_builtin; refine Lib.wpList_append_run _ rfl _ _ _ _ rfl _ _ rfl rfl _ _ (hrz _) ?_)
    exact Hf.out
set_option maxRecDepth 100000 in
set_option maxHeartbeats 4000000 in
theorem concatR_any (b o cV : Nat) (A B : Option Addr) (n c m d : Nat) (xs ys : List Value) (w : World) (hb : b < w.heap.size) (h0 : w.cell? ⟨b, o, none⟩ = some (.slice A n c)) (h1 : w.cell? ⟨b, o + 1, none⟩ = some (.slice B m d))
    (hA : Sl w 1 A n xs) (hB : Sl w 1 B m ys) (ox : ∀ u ∈ xs, u.oneCell' = true) (oy : ∀ u ∈ ys, u.oneCell' = true) (hn : n ≤ 400) (hm : m ≤ 400) :
    Calls Try.prog 59 #[.slice (some ⟨b, o, none⟩) 2 cV] w fun e w' => ∃ A' c', e = .returned (.slice A' (n + m) c') ∧ w'.ownsRow w.heap.size 26 1 (.slice A' (n + m) c') (n + m) (xs ++ ys) ∧ Below w.heap.size w w' := by
  refine calls_cps ?_
  intro R hR
  have HA := Lib.hid hA
  have HB := Lib.hid hB
  have Hox := Lib.hid ox
  have Hoy := Lib.hid oy
  clear hA hB ox oy
  go_enter Try.func59, Try.ntmps59
  go_wp2_with fail
  go_loop [3, 5, 11] (fun s3 s5 s11 => ∃ k : Nat, k ≤ 2 ∧ s11 = .int .i64 ((k : Nat) : Int) ∧ (k = 0 ∧ s3 = .int .i64 0 ∨ k = 1 ∧ s3 = .int .i64 (n : Int) ∨ k = 2 ∧ s3 = .int .i64 ((n + m : Nat) : Int))) (fun _ _ s11 => 2 - (intOf s11).toNat)
  case atStart => exact ⟨0, by omega, rfl, .inl ⟨rfl, rfl⟩⟩
  case round =>
    obtain ⟨k, hk, rfl, h⟩ := hrel
    rcases h with ⟨rfl, rfl⟩ | ⟨rfl, rfl⟩ | ⟨rfl, rfl⟩
    · go_wp2
      exact ⟨⟨1, by omega, rfl, .inr (.inl ⟨rfl, by go_num⟩)⟩, by simp [intOf]⟩
    · have hnn : (0 : Int) ≤ (n : Int) := by omega
      have hmm : (0 : Int) ≤ (m : Int) := by omega
      go_wp2
      exact ⟨⟨2, by omega, rfl, .inr (.inr ⟨rfl, by go_num⟩)⟩, by simp [intOf]⟩
    · go_wp2_with fail
      refine (growR_any (n + m) (by omega) _).mono ?_
      rintro e w1 ⟨A0, c0, rfl, ho, hb1⟩
      have HO := Lib.hid ho
      have Hb1 := Lib.hid hb1
      clear ho hb1
      go_wp2_with fail
      go_loopg [6, 8, 27] 2 (fun gk s6 s8 s27 wr => ∃ (k : Nat) (A' : Option Addr) (c' q : Nat) (zs : List Value), k + gk = 2 ∧ s27 = .int .i64 ((k : Nat) : Int) ∧ s6 = .slice A' q c' ∧ wr.ownsRow w.heap.size 26 1 (.slice A' q c') q zs ∧ Below w.heap.size w wr ∧ Hid (k = 0 ∧ q = 0 ∧ zs = [] ∨ k = 1 ∧ q = n ∧ zs = xs ∨ k = 2 ∧ q = n + m ∧ zs = xs ++ ys))
      case atStart => exact ⟨0, A0, c0, 0, [], rfl, rfl, rfl, HO.out, Hb1.out, Lib.hid (.inl ⟨rfl, rfl, rfl⟩)⟩
      case round =>
        obtain ⟨k, A', c', q, zs, hgk, rfl, rfl, ho, hbr, hc⟩ := hrel
        obtain ⟨wi, rfl⟩ : ∃ wi : World, wi = wr := ⟨_, rfl⟩
        have q0 : wi.cell? ⟨b, o, none⟩ = some (.slice A n c) := (hbr.cell (p := ⟨b, o, none⟩) hb).trans h0
        have q1 : wi.cell? ⟨b, o + 1, none⟩ = some (.slice B m d) := (hbr.cell (p := ⟨b, o + 1, none⟩) hb).trans h1
        have HO2 := Lib.hid ho
        have Hbr := Lib.hid hbr
        have hsz := hbr.size
        clear ho hbr
        rcases hc.out with ⟨rfl, rfl, rfl⟩ | ⟨rfl, rfl, rfl⟩ | ⟨rfl, rfl, rfl⟩
        · have HX := Lib.hid (HA.out.below Hbr.out)
          go_wp2_with (at_builtin; refine wpList_app rfl (.tmp 31) (.tmp 32) _ rfl elemGrR w.heap.size _ _ _ rfl HO2.out _ _ _ _ rfl HX.out Hox.out (by unfold maxLen; omega) (by omega) hsz ?_; intro A2 c2 w2 ho2 hg2 _)
          rw [Nat.zero_add, List.nil_append] at ho2
          have HB2 := Lib.hid (below_own Hbr.out HO2.out (Nat.le_refl _) hsz hg2)
          have HO3 := Lib.hid ho2
          clear ho2 hg2
          go_roundg (gk - 1)
          case measure => omega
          case rel => exact ⟨1, A2, c2, n, xs, by omega, by go_num, rfl, HO3.out, HB2.out, Lib.hid (.inr (.inl ⟨rfl, rfl, rfl⟩))⟩
        · have HX := Lib.hid (HB.out.below Hbr.out)
          go_wp2_with (at_builtin; refine wpList_app rfl (.tmp 31) (.tmp 32) _ rfl elemGrR w.heap.size _ _ _ rfl HO2.out _ _ _ _ rfl HX.out Hoy.out (by unfold maxLen; omega) (by omega) hsz ?_; intro A2 c2 w2 ho2 hg2 _)
          have HB2 := Lib.hid (below_own Hbr.out HO2.out (Nat.le_refl _) hsz hg2)
          have HO3 := Lib.hid ho2
          clear ho2 hg2
          go_roundg (gk - 1)
          case measure => omega
          case rel => exact ⟨2, A2, c2, q + m, zs ++ ys, by omega, by go_num, rfl, HO3.out, HB2.out, Lib.hid (.inr (.inr ⟨rfl, rfl, rfl⟩))⟩
        · have Hf := Lib.hid (hR.out (.returned (.slice A' (n + m) c')) wi ⟨A', c', rfl, HO2.out, Hbr.out⟩)
          go_wp2
          exact Hf.out
theorem idxL_contains (v : Int) (l : List Int) : decide (0 ≤ idxL v l 0) = decide (v ∈ l) := by
  rcases idxL_spec v l 0 with ⟨h1, h2⟩ | ⟨j, h1, h2⟩
  · rw [h1]; simp [h2]
  · rw [h1, decide_eq_true (by omega), decide_eq_true (List.mem_of_getElem? h2)]
set_option maxHeartbeats 1000000 in
theorem contains_any (A : Option Addr) (n c : Nat) (l : List Int) (v : Int) (w : World) (hA : SlE intE 1 w A n l) (hn : n ≤ 9223372036854775807) :
    Calls Try.prog 61 #[.slice A n c, .int .i64 v] w fun e w' => e = .returned (.bool (decide (v ∈ l))) ∧ w = w' := by
  refine calls_cps ?_
  intro R hR
  have Hf := Lib.hid (hR.out (.returned (.bool (decide (v ∈ l)))) w ⟨rfl, rfl⟩)
  rw [← idxL_contains] at Hf
  obtain ⟨t, ht⟩ : ∃ t, idxL v l 0 = t := ⟨_, rfl⟩
  have hI := index_any A n c l v w hA hn
  rw [ht] at Hf hI
  have HI := Lib.hid hI
  clear hR hA hI ht
  go_enter Try.func61, Try.ntmps61
  go_wp2_with fail
  refine HI.out.mono ?_
  rintro e w1 ⟨rfl, rfl⟩
  go_wp2
  exact Hf.out
end Go.Proofs.Ytjdhcdoekfikpaa
