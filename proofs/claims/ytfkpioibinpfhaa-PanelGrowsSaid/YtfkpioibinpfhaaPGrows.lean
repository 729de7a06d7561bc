/-
  The contract of clavecinlaw08.PanelGrows: true at every input.
-/
import Derived.Test.YtfkpioibinpfhaaPTables
import Derived.Deep.Slices
namespace Go.Proofs.Ytfkpioibinpfhaa
open Go.RowKit

/-- A table of ints in memory, its addresses by name. -/
structure TabM (w : World) (b o M N : Nat) (f : Nat → Nat → Int) (rb ro rc : Nat → Nat) : Prop where
  blt : b < w.heap.size
  rlt : ∀ i, i < M → rb i < w.heap.size
  row : ∀ i, i < M → w.cell? ⟨b, o + i, none⟩ = some (.slice (some ⟨rb i, ro i, none⟩) N (rc i))
  cell : ∀ i j, i < M → j < N → w.cell? ⟨rb i, ro i + j, none⟩ = some (.int .i64 (f i j))
theorem TabM.below {w w' : World} {b o M N : Nat} {f : Nat → Nat → Int} {rb ro rc : Nat → Nat} (t : TabM w b o M N f rb ro rc) (hb : Below w.heap.size w w') : TabM w' b o M N f rb ro rc :=
  ⟨Nat.lt_of_lt_of_le t.blt hb.size, fun i h => Nat.lt_of_lt_of_le (t.rlt i h) hb.size, fun i h => (hb.cell (p := ⟨b, _, none⟩) t.blt).trans (t.row i h), fun i j h h' => (hb.cell (p := ⟨rb i, _, none⟩) (t.rlt i h)).trans (t.cell i j h h')⟩
theorem TabM.of {w : World} {A : Option Addr} {M N : Nat} {rows : List (List Int)} (hS : SlR w A M rows) (hM : 0 < M) (hN : 0 < N) (f : Nat → Nat → Int) (hr : ∀ i, i < M → ∃ r, rows[i]? = some r ∧ r.length = N ∧ ∀ j, j < N → r[j]? = some (f i j)) :
    ∃ b o rb ro rc, A = some ⟨b, o, none⟩ ∧ TabM w b o M N f rb ro rc := by
  obtain ⟨_, hc⟩ := hS
  obtain ⟨b, o, hA, hb, hcell⟩ := hc hM
  have key : ∀ i, i < M → ∃ x : Nat × Nat × Nat, x.1 < w.heap.size ∧ w.cell? ⟨b, o + i, none⟩ = some (.slice (some ⟨x.1, x.2.1, none⟩) N x.2.2) ∧ ∀ j, j < N → w.cell? ⟨x.1, x.2.1 + j, none⟩ = some (.int .i64 (f i j)) := by
    intro i hi
    obtain ⟨r, h1, h2, h3⟩ := hr i hi
    obtain ⟨Ai, ci, h4, h5⟩ := hcell i r h1
    obtain ⟨b', o', x, hA', hb', hx, _⟩ := h5.at1 (k := 0) (by omega)
    subst hA'
    refine ⟨(b', o', ci), hb', by rw [h4, h2], fun j hj => ?_⟩
    obtain ⟨b2, o2, y, hA2, _, hy, hc2⟩ := h5.at1 (k := j) (by omega)
    simp only [Option.some.injEq, Addr.mk.injEq, and_true] at hA2
    obtain ⟨rfl, rfl⟩ := hA2
    rw [h3 j hj] at hy
    injection hy with hy
    subst hy
    exact hc2
  obtain ⟨g, hg⟩ := Go.Deep.choose_lt key
  exact ⟨b, o, fun i => (g i).1, fun i => (g i).2.1, fun i => (g i).2.2, hA, hb, fun i hi => (hg i hi).1, fun i hi => (hg i hi).2.1, fun i j hi hj => (hg i hi).2.2 j hj⟩
theorem tabV_rows (k : Int) (ss : List Shp) (M N : Nat) : ∀ i, i < M → ∃ r, (tabV k ss M N)[i]? = some r ∧ r.length = N ∧ ∀ j, j < N → r[j]? = some (val k ss ((i : Int) + 1) ((j : Int) + 1)) :=
  fun i hi => ⟨_, tabV_get k ss M N i hi, rowV_len k ss N i, fun j hj => rowV_get k ss N i j hj⟩
theorem w64 {n : Int} (h1 : -9223372036854775808 ≤ n) (h2 : n ≤ 9223372036854775807) : IntKind.i64.wrap n = n := IntWalk.i64_in _ ⟨h1, h2⟩
theorem mod_idx (a : Int) (M : Nat) (hM : 1 ≤ M) : ∃ i : Nat, (a.tmod M + M).tmod M = (i : Int) ∧ i < M := by
  have h1 : -(M : Int) < a.tmod M ∧ a.tmod M < M := by
    have := Int.tmod_lt_of_pos a (show (0 : Int) < M by omega)
    have := Int.lt_tmod_of_pos a (show (0 : Int) < M by omega)
    omega
  have h2 : 0 ≤ (a.tmod M + M).tmod M := Int.tmod_nonneg _ (by omega)
  have h3 : (a.tmod M + M).tmod M < M := Int.tmod_lt_of_pos _ (by omega)
  exact ⟨((a.tmod M + M).tmod M).toNat, by omega, by omega⟩
theorem tmod_in (a : Int) (M : Nat) (hM : 1 ≤ M) (hM2 : M ≤ 64) : -9223372036854775808 ≤ a.tmod M + M ∧ a.tmod M + M ≤ 9223372036854775807 := by
  have := Int.tmod_lt_of_pos a (show (0 : Int) < M by omega)
  have := Int.lt_tmod_of_pos a (show (0 : Int) < M by omega)
  omega
/-- What stays as it is through all loops of PanelGrows. -/
structure Gr (w wr : World) (b bx : Nat) (M N : Nat) (K : Int) (A1 : Option Addr) (c1 L : Nat) (s1 : List Shp) (a0 a1 a2 : Int) (tb o : Nat) (f : Nat → Nat → Int) (rb ro rc : Nat → Nat) : Prop where
  pn : Pn w wr b M N K A1 c1 L s1
  tab : TabM wr tb o M N f rb ro rc
  box : wr.heap[bx]? = some (.cells #[.int .i64 a0, .int .i64 a1, .int .i64 a2] 46 (0, 0))
theorem Gr.below {w wr w' : World} {b bx M N : Nat} {K : Int} {A1 : Option Addr} {c1 L : Nat} {s1 : List Shp} {a0 a1 a2 : Int} {tb o : Nat} {f : Nat → Nat → Int} {rb ro rc : Nat → Nat}
    (t : Gr w wr b bx M N K A1 c1 L s1 a0 a1 a2 tb o f rb ro rc) (hb : Below wr.heap.size wr w') : Gr w w' b bx M N K A1 c1 L s1 a0 a1 a2 tb o f rb ro rc :=
  ⟨t.pn.below hb, t.tab.below hb, (hb.block bx (Array.getElem?_eq_some_iff.1 t.box).1).trans t.box⟩
theorem below_drewN' (w : World) (q : Nat) : Below w.heap.size w (w.drewN q) := ⟨rfl, rfl, rfl, Nat.le_refl _, fun _ _ => rfl⟩
theorem below_drewN1 (w : World) (o : Obj) (q : Nat) : Below w.heap.size w ((w.alloc o).drewN q) := (below_new w o).trans ((below_drewN' _ q).mono (by simp))
set_option maxRecDepth 100000 in
set_option maxHeartbeats 8000000 in
theorem grows_any (W H K : Int) (a0 a1 a2 : Int) (A : Option Addr) (n c : Nat) (ss : List Shp) (w : World) (hS : SlE Shp.enc 4 w A n ss) (hnc : n ≤ c) (hc : c ≤ 9223372036854775807) :
    Calls Try.prog 7 #[.agg #[.int .i64 W, .int .i64 H, .int .i64 K, .slice A n c], .agg #[.int .i64 a0, .int .i64 a1, .int .i64 a2]] w fun e w' => e = .returned (.bool true) ∧ Below w.heap.size w w' := by
  refine calls_cps ?_
  intro R hR
  obtain ⟨s1, es⟩ : ∃ s, ss.take 17 = s := ⟨_, rfl⟩
  obtain ⟨L, hL⟩ : ∃ L, s1.length = L := ⟨_, rfl⟩
  have hLm : L ≤ 17 := by rw [← hL, ← es, List.length_take]; omega
  obtain ⟨W1, eW⟩ : ∃ x, fewV W = x := ⟨_, rfl⟩
  obtain ⟨H1, eH⟩ : ∃ x, fewV H = x := ⟨_, rfl⟩
  have HL := Lib.hid hL
  have Hes := Lib.hid es
  have HW := Lib.hid eW
  have HH := Lib.hid eH
  clear hL es eW eH
  by_cases hp : panOk W1 H1 K s1 = true
  · obtain ⟨hW1, hW2, hH1, hH2, hk0, hk8, hss, hok⟩ := panOk_ok hp
    obtain ⟨M, rfl⟩ : ∃ M : Nat, W1 = (M : Int) := ⟨W1.toNat, by omega⟩
    obtain ⟨N, rfl⟩ : ∃ N : Nat, H1 = (N : Int) := ⟨H1.toNat, by omega⟩
    have Hp := Lib.hid hp
    have Hok := Lib.hid hok
    obtain ⟨f, hf⟩ : ∃ f : Nat → Nat → Int, ∀ i j, f i j = val K s1 ((i : Int) + 1) ((j : Int) + 1) := ⟨_, fun _ _ => rfl⟩
    have Hf := Lib.hid hf
    have Hf0 := Lib.hid (show ∀ i j, 0 ≤ f i j from fun i j => by rw [hf]; exact val_nonneg _ _ _ _)
    have HfM := Lib.hid (show ∀ i j, i < M → j < N → f i j ≤ 4096000000 from fun i j hi hj => by rw [hf]; exact val_small K s1 hk0 (fun s hs => by have := hok s hs; omega) _ _ (by omega) (by omega))
    have Hup := Lib.hid (show ∀ i i' j, i ≤ i' → f i j ≤ f i' j from fun i i' j h => by rw [hf, hf]; exact val_wider hk0 _ _ _ (by omega))
    have Hri := Lib.hid (show ∀ i j j', j ≤ j' → f i j ≤ f i j' from fun i j j' h => by rw [hf, hf]; exact val_higher hk0 _ _ _ (by omega))
    have Hac := Lib.hid (show ∀ c r i j : Nat, (r : Int) + c + 1 + K = i → 0 ≤ K → f c j + f r j ≤ f i j from fun c r i j h _ => by
      rw [hf, hf, hf]
      have := val_across (ss := s1) hk0 ((i : Int) + 1) ((j : Int) + 1) ((c : Int) + 1) (by omega) (by omega) (by omega) (by omega)
      rwa [show (i : Int) + 1 - ((c : Int) + 1) - K = (r : Int) + 1 by omega] at this)
    have Hdn := Lib.hid (show ∀ c r i j : Nat, (r : Int) + c + 1 + K = j → 0 ≤ K → f i c + f i r ≤ f i j from fun c r i j h _ => by
      rw [hf, hf, hf]
      have := val_down (ss := s1) hk0 ((i : Int) + 1) ((j : Int) + 1) ((c : Int) + 1) (by omega) (by omega) (by omega) (by omega)
      rwa [show (j : Int) + 1 - ((c : Int) + 1) - K = (r : Int) + 1 by omega] at this)
    clear hp hok hf
    go_enter Try.func7, Try.ntmps7
    go_wp2_with fail
    refine (few_any _ _ _ _ _ _ ss _ ((hS.alloc _).alloc _) hnc hc).mono ?_
    rw [Hes.out, HL.out, HW.out, HH.out]
    rintro e w1 ⟨A1, c1, rfl, ho1, hb1⟩
    have hf1 : Below w.heap.size w w1 := (below_two w _ _).trans (hb1.mono (by simp; omega))
    have hbx : w1.heap[w.heap.size + 1]? = some (.cells #[.int .i64 a0, .int .i64 a1, .int .i64 a2] 46 (0, 0)) := by
      refine (hb1.block (w.heap.size + 1) (by simp)).trans ?_
      have := heap_alloc_new (w.alloc (.cells #[.int .i64 W, .int .i64 H, .int .i64 K, .slice A n c] 24)) (.cells #[.int .i64 a0, .int .i64 a1, .int .i64 a2] 46)
      rwa [World.size_alloc] at this
    have hP : Pn w (w1.alloc (.cells #[.int .i64 M, .int .i64 N, .int .i64 K, .slice A1 L c1] 24)) w1.heap.size M N K A1 c1 L s1 :=
      ⟨(SlE.of_own ho1 HL.out.symm).alloc _, heap_alloc_new w1 _, hf1.alloc hf1.size _⟩
    have hbx1 := (Below.heap_alloc w1 (.cells #[.int .i64 M, .int .i64 N, .int .i64 K, .slice A1 L c1] 24) _ (Array.getElem?_eq_some_iff.1 hbx).1).trans hbx
    clear ho1 hb1 hf1 hbx
    go_wp2_with fail
    refine (table_ok M N K A1 L c1 s1 _ hP.sl Hp.out).mono ?_
    rw [Int.toNat_natCast, Int.toNat_natCast]
    rintro e w3 ⟨A3, c3, rfl, hs3, hb⟩
    obtain ⟨tb, o, rb, ro, rc, rfl, hT⟩   := TabM.of (N := N) hs3 (by omega) (by omega) f (fun i hi => by
      obtain ⟨r, h1, h2, h3⟩ := tabV_rows K s1 M N i hi
      exact ⟨r, h1, h2, fun j hj => by rw [h3 j hj, Hf.out]⟩)
    have hG : Gr w w3 w1.heap.size (w.heap.size + 1) M N K A1 c1 L s1 a0 a1 a2 tb o f rb ro rc := ⟨hP.below hb, hT, (hb.block _ (Array.getElem?_eq_some_iff.1 hbx1).1).trans hbx1⟩
    clear hb hs3 hT hP hbx1
    obtain ⟨q0, q1, q2, q3, q4⟩ := cells4 hG.pn.box
    go_wp2_with fail
    refine (refCheck_any M N K A1 L c1 s1 _ hG.pn.sl (by omega)).mono ?_
    rw [Hp.out]
    rintro e w4 ⟨rfl, hb⟩
    have hG4 := hG.below hb
    clear hb hG q0 q1 q2 q3 q4
    obtain ⟨q0, q1, q2, q3, q4⟩ := cells4 hG4.pn.box
    go_wp2_with fail
    refine (lives_any _).mono ?_
    rintro e w5 ⟨rfl, hb⟩
    have hG5 := hG4.below hb
    clear hb hG4 q0 q1 q2 q3 q4
    go_wp2_with fail
    go_loopw [8] (fun i wr => ∃ (i0 : Nat), i0 ≤ M ∧ i = .int .i64 i0 ∧ Gr w wr w1.heap.size (w.heap.size + 1) M N K A1 c1 L s1 a0 a1 a2 tb o f rb ro rc) (fun i _ => M - (intOf i).toNat)
    case atStart => exact ⟨0, by omega, rfl, hG5⟩
    case round =>
      clear hG5
      obtain ⟨i0, hi0, rfl, hG⟩ := hrel
      obtain ⟨q0, q1, q2, q3, q4⟩ := cells4 hG.pn.box
      obtain ⟨wo, rfl⟩ : ∃ wo : World, wo = wr := ⟨_, rfl⟩
      by_cases hlt : i0 < M
      · have t0 := hG.tab.row i0 hlt
        have j1 : (i0 : Int) < (M : Int) := by omega
        go_wp2_with fail
        go_quiet (fail)
        go_wp2_with fail
        generalize hwd : wo.drewN _ = wd
        have hG1 : Gr w wd w1.heap.size (w.heap.size + 1) M N K A1 c1 L s1 a0 a1 a2 tb o f rb ro rc := by rw [← hwd]; exact hG.below (below_drewN' _ _)
        clear hwd hG q0 q1 q2 q3 q4 t0
        go_loopw [9] (fun j wr => ∃ (j0 : Nat), j0 ≤ N ∧ j = .int .i64 j0 ∧ Gr w wr w1.heap.size (w.heap.size + 1) M N K A1 c1 L s1 a0 a1 a2 tb o f rb ro rc) (fun j _ => N - (intOf j).toNat)
        case atStart => exact ⟨0, by omega, rfl, hG1⟩
        case round =>
          clear hG1
          obtain ⟨j0, hj0, rfl, hG⟩ := hrel
          obtain ⟨q0, q1, q2, q3, q4⟩ := cells4 hG.pn.box
          obtain ⟨wi, rfl⟩ : ∃ wi : World, wi = wr := ⟨_, rfl⟩
          by_cases hltj : j0 < N
          · have t0 := hG.tab.row i0 hlt
            have t1 := hG.tab.cell i0 j0 hlt hltj
            have j2 : (j0 : Int) < (N : Int) := by omega
            have v0 := Hf0.out i0 j0
            as_aux_lemma =>
              by_cases hi1 : 0 < i0
              · by_cases hj1 : 0 < j0
                · obtain ⟨i1, hie⟩ : ∃ i1, i0 = i1 + 1 := ⟨i0 - 1, by omega⟩
                  have s0 := hG.tab.row i1 (by omega)
                  have s2 := hG.tab.cell i1 j0 (by omega) hltj
                  have v1 := Hup.out i1 i0 j0 (by omega)
                  have k1 : IntKind.i64.wrap ((i0 : Int) - 1) = (i0 : Int) - 1 := w64 (by omega) (by omega)
                  have k3 : ((i0 : Int) - 1).toNat = i1 := by omega
                  have k5 : 0 < (i0 : Int) := by omega
                  have k5' : 0 ≤ (i0 : Int) - 1 := by omega
                  have k5'' : 1 ≤ (i0 : Int) := by omega
                  have k7 : (i0 : Int) - 1 < (M : Int) := by omega
                  have d2 : decide (f i0 j0 < f i1 j0) = false := by simp; omega
                  clear hie
                  obtain ⟨j1', hje⟩ : ∃ j1, j0 = j1 + 1 := ⟨j0 - 1, by omega⟩
                  have u1 := hG.tab.cell i0 j1' hlt (by omega)
                  have v2 := Hri.out i0 j1' j0 (by omega)
                  have k2 : IntKind.i64.wrap ((j0 : Int) - 1) = (j0 : Int) - 1 := w64 (by omega) (by omega)
                  have k4 : ((j0 : Int) - 1).toNat = j1' := by omega
                  have k6 : 0 < (j0 : Int) := by omega
                  have k6' : 0 ≤ (j0 : Int) - 1 := by omega
                  have k6'' : 1 ≤ (j0 : Int) := by omega
                  have k8 : (j0 : Int) - 1 < (N : Int) := by omega
                  have d3 : decide (f i0 j0 < f i0 j1') = false := by simp; omega
                  clear hje
                  have d1 : decide (f i0 j0 < 0) = false := by simp; omega
                  go_wp2_with fail
                  go_quiet (fail)
                  clear d1 d2 k1 k3 k7 d3 k2 k4 k8 k5 k6
                  go_wp2
                  exact ⟨⟨j0 + 1, by omega, by go_num, hG.below (below_drewN' _ _)⟩, by simp [intOf]; omega⟩
                · obtain ⟨i1, hie⟩ : ∃ i1, i0 = i1 + 1 := ⟨i0 - 1, by omega⟩
                  have s0 := hG.tab.row i1 (by omega)
                  have s2 := hG.tab.cell i1 j0 (by omega) hltj
                  have v1 := Hup.out i1 i0 j0 (by omega)
                  have k1 : IntKind.i64.wrap ((i0 : Int) - 1) = (i0 : Int) - 1 := w64 (by omega) (by omega)
                  have k3 : ((i0 : Int) - 1).toNat = i1 := by omega
                  have k5 : 0 < (i0 : Int) := by omega
                  have k5' : 0 ≤ (i0 : Int) - 1 := by omega
                  have k5'' : 1 ≤ (i0 : Int) := by omega
                  have k7 : (i0 : Int) - 1 < (M : Int) := by omega
                  have d2 : decide (f i0 j0 < f i1 j0) = false := by simp; omega
                  clear hie
                  have k6 : decide (0 < (j0 : Int)) = false := by simp; omega
                  have d1 : decide (f i0 j0 < 0) = false := by simp; omega
                  go_wp2_with fail
                  go_quiet (fail)
                  clear d1 d2 k1 k3 k7 k5 k6
                  go_wp2
                  exact ⟨⟨j0 + 1, by omega, by go_num, hG.below (below_drewN' _ _)⟩, by simp [intOf]; omega⟩
              · by_cases hj1 : 0 < j0
                · have k5 : decide (0 < (i0 : Int)) = false := by simp; omega
                  obtain ⟨j1', hje⟩ : ∃ j1, j0 = j1 + 1 := ⟨j0 - 1, by omega⟩
                  have u1 := hG.tab.cell i0 j1' hlt (by omega)
                  have v2 := Hri.out i0 j1' j0 (by omega)
                  have k2 : IntKind.i64.wrap ((j0 : Int) - 1) = (j0 : Int) - 1 := w64 (by omega) (by omega)
                  have k4 : ((j0 : Int) - 1).toNat = j1' := by omega
                  have k6 : 0 < (j0 : Int) := by omega
                  have k6' : 0 ≤ (j0 : Int) - 1 := by omega
                  have k6'' : 1 ≤ (j0 : Int) := by omega
                  have k8 : (j0 : Int) - 1 < (N : Int) := by omega
                  have d3 : decide (f i0 j0 < f i0 j1') = false := by simp; omega
                  clear hje
                  have d1 : decide (f i0 j0 < 0) = false := by simp; omega
                  go_wp2_with fail
                  go_quiet (fail)
                  clear d1 d3 k2 k4 k8 k5 k6
                  go_wp2
                  exact ⟨⟨j0 + 1, by omega, by go_num, hG.below (below_drewN' _ _)⟩, by simp [intOf]; omega⟩
                · have k5 : decide (0 < (i0 : Int)) = false := by simp; omega
                  have k6 : decide (0 < (j0 : Int)) = false := by simp; omega
                  have d1 : decide (f i0 j0 < 0) = false := by simp; omega
                  go_wp2_with fail
                  go_quiet (fail)
                  clear d1 k5 k6
                  go_wp2
                  exact ⟨⟨j0 + 1, by omega, by go_num, hG.below (below_drewN' _ _)⟩, by simp [intOf]; omega⟩
          · obtain rfl : N = j0 := by omega
            go_wp2
            exact ⟨⟨i0 + 1, by omega, by go_num, hG⟩, by simp [intOf]; omega⟩
      · obtain rfl : M = i0 := by omega
        clear hi0 hlt
        go_wp2_with fail
        go_loopw [10] (fun i wr => ∃ (j : Nat), j ≤ L ∧ i = .int .i64 j ∧ Gr w wr w1.heap.size (w.heap.size + 1) M N K A1 c1 L s1 a0 a1 a2 tb o f rb ro rc) (fun i _ => L - (intOf i).toNat)
        case atStart => exact ⟨0, by omega, rfl, hG⟩
        case round =>
          clear hG q0 q1 q2 q3 q4
          obtain ⟨j, hj, rfl, hG⟩ := hrel
          obtain ⟨q0, q1, q2, q3, q4⟩ := cells4 hG.pn.box
          obtain ⟨wi, rfl⟩ : ∃ wi : World, wi = wr := ⟨_, rfl⟩
          by_cases hlt : j < L
          · obtain ⟨bs, os, s, rfl, hbl, hs, e0, e1, e2, e3⟩ := hG.pn.sl.at4 hlt
            have hsm := List.mem_of_getElem? hs
            obtain ⟨⟨x1, x2⟩, ⟨y1, y2⟩, z1, z2⟩ := Hok.out s hsm
            have HvA := Lib.hid (show s.W ≤ (M : Int) → s.H ≤ (N : Int) → s.V ≤ f (s.W - 1).toNat (s.H - 1).toNat from fun _ _ => by
              rw [Hf.out]
              have h := val_shape (k := K) hk0 hsm x1 y1
              rwa [show s.W = ((s.W - 1).toNat : Int) + 1 by omega, show s.H = ((s.H - 1).toNat : Int) + 1 by omega] at h)
            have HvB := Lib.hid (show s.T = true → s.H ≤ (M : Int) → s.W ≤ (N : Int) → s.V ≤ f (s.H - 1).toNat (s.W - 1).toNat from fun ht _ _ => by
              rw [Hf.out]
              have h := val_shape_turned (k := K) hk0 hsm ht x1 y1
              rwa [show s.W = ((s.W - 1).toNat : Int) + 1 by omega, show s.H = ((s.H - 1).toNat : Int) + 1 by omega] at h)
            clear hs hsm
            obtain ⟨sw, sh, sv, st⟩ := s
            dsimp only at e0 e1 e2 e3 x1 x2 y1 y2 z1 z2 HvA HvB
            have hbz := hG.pn.lt
            have htb := hG.tab.blt
            obtain ⟨wA, hwA⟩ : ∃ wA, (sw - 1).toNat = wA := ⟨_, rfl⟩
            obtain ⟨hA, hhA⟩ : ∃ hA, (sh - 1).toNat = hA := ⟨_, rfl⟩
            rw [hwA, hhA] at HvA HvB
            have k1 : IntKind.i64.wrap (sw - 1) = sw - 1 := w64 (by omega) (by omega)
            have k2 : IntKind.i64.wrap (sh - 1) = sh - 1 := w64 (by omega) (by omega)
            have l1 : 0 ≤ sw - 1 := by omega
            have l2 : 0 ≤ sh - 1 := by omega
            have Hend := Lib.hid (fun q => hG.below (below_drewN1 wi (.cells #[.int .i64 sw, .int .i64 sh, .int .i64 sv, .bool st] 37) q))
            cases st
            · as_aux_lemma =>
                by_cases c1 : sw ≤ (M : Int)
                · by_cases c2 : sh ≤ (N : Int)
                  · have g1 : sw ≤ (M : Int) := by omega
                    have g1' : sw - 1 < (M : Int) := by omega
                    have g2 : sh ≤ (N : Int) := by omega
                    have g2' : sh - 1 < (N : Int) := by omega
                    have v1 := HvA.out g1 g2
                    have t0 := hG.tab.row wA (by omega)
                    have t1 := hG.tab.cell wA hA (by omega) (by omega)
                    have r1 := hG.tab.rlt wA (by omega)
                    have dA : decide (f wA hA < sv) = false := by simp; omega
                    go_wp2_with fail
                    go_quiet (fail)
                    clear k1 k2 hwA hhA dA
                    go_wp2
                    exact ⟨⟨j + 1, by omega, by go_num, Hend.out _⟩, by simp [intOf]; omega⟩
                  · have g1 : sw ≤ (M : Int) := by omega
                    have g1' : sw - 1 < (M : Int) := by omega
                    have g2 : decide (sh ≤ (N : Int)) = false := by simp; omega
                    go_wp2_with fail
                    go_quiet (fail)
                    clear k1 k2 hwA hhA
                    go_wp2
                    exact ⟨⟨j + 1, by omega, by go_num, Hend.out _⟩, by simp [intOf]; omega⟩
                · have g1 : decide (sw ≤ (M : Int)) = false := by simp; omega
                  go_wp2_with fail
                  go_quiet (fail)
                  clear k1 k2 hwA hhA
                  go_wp2
                  exact ⟨⟨j + 1, by omega, by go_num, Hend.out _⟩, by simp [intOf]; omega⟩
            · as_aux_lemma =>
                by_cases c1 : sw ≤ (M : Int)
                · by_cases c2 : sh ≤ (N : Int)
                  · by_cases c3 : sh ≤ (M : Int)
                    · by_cases c4 : sw ≤ (N : Int)
                      · have g1 : sw ≤ (M : Int) := by omega
                        have g1' : sw - 1 < (M : Int) := by omega
                        have g2 : sh ≤ (N : Int) := by omega
                        have g2' : sh - 1 < (N : Int) := by omega
                        have v1 := HvA.out g1 g2
                        have t0 := hG.tab.row wA (by omega)
                        have t1 := hG.tab.cell wA hA (by omega) (by omega)
                        have r1 := hG.tab.rlt wA (by omega)
                        have dA : decide (f wA hA < sv) = false := by simp; omega
                        have g3 : sh ≤ (M : Int) := by omega
                        have g3' : sh - 1 < (M : Int) := by omega
                        have g4 : sw ≤ (N : Int) := by omega
                        have g4' : sw - 1 < (N : Int) := by omega
                        have v2 := HvB.out rfl g3 g4
                        have u0 := hG.tab.row hA (by omega)
                        have u1 := hG.tab.cell hA wA (by omega) (by omega)
                        have r2 := hG.tab.rlt hA (by omega)
                        have dB : decide (f hA wA < sv) = false := by simp; omega
                        go_wp2_with fail
                        go_quiet (fail)
                        clear k1 k2 hwA hhA dA dB
                        go_wp2
                        exact ⟨⟨j + 1, by omega, by go_num, Hend.out _⟩, by simp [intOf]; omega⟩
                      · have g1 : sw ≤ (M : Int) := by omega
                        have g1' : sw - 1 < (M : Int) := by omega
                        have g2 : sh ≤ (N : Int) := by omega
                        have g2' : sh - 1 < (N : Int) := by omega
                        have v1 := HvA.out g1 g2
                        have t0 := hG.tab.row wA (by omega)
                        have t1 := hG.tab.cell wA hA (by omega) (by omega)
                        have r1 := hG.tab.rlt wA (by omega)
                        have dA : decide (f wA hA < sv) = false := by simp; omega
                        have g3 : sh ≤ (M : Int) := by omega
                        have g3' : sh - 1 < (M : Int) := by omega
                        have g4 : decide (sw ≤ (N : Int)) = false := by simp; omega
                        go_wp2_with fail
                        go_quiet (fail)
                        clear k1 k2 hwA hhA dA
                        go_wp2
                        exact ⟨⟨j + 1, by omega, by go_num, Hend.out _⟩, by simp [intOf]; omega⟩
                    · have g1 : sw ≤ (M : Int) := by omega
                      have g1' : sw - 1 < (M : Int) := by omega
                      have g2 : sh ≤ (N : Int) := by omega
                      have g2' : sh - 1 < (N : Int) := by omega
                      have v1 := HvA.out g1 g2
                      have t0 := hG.tab.row wA (by omega)
                      have t1 := hG.tab.cell wA hA (by omega) (by omega)
                      have r1 := hG.tab.rlt wA (by omega)
                      have dA : decide (f wA hA < sv) = false := by simp; omega
                      have g3 : decide (sh ≤ (M : Int)) = false := by simp; omega
                      go_wp2_with fail
                      go_quiet (fail)
                      clear k1 k2 hwA hhA dA
                      go_wp2
                      exact ⟨⟨j + 1, by omega, by go_num, Hend.out _⟩, by simp [intOf]; omega⟩
                  · by_cases c3 : sh ≤ (M : Int)
                    · by_cases c4 : sw ≤ (N : Int)
                      · have g1 : sw ≤ (M : Int) := by omega
                        have g1' : sw - 1 < (M : Int) := by omega
                        have g2 : decide (sh ≤ (N : Int)) = false := by simp; omega
                        have g3 : sh ≤ (M : Int) := by omega
                        have g3' : sh - 1 < (M : Int) := by omega
                        have g4 : sw ≤ (N : Int) := by omega
                        have g4' : sw - 1 < (N : Int) := by omega
                        have v2 := HvB.out rfl g3 g4
                        have u0 := hG.tab.row hA (by omega)
                        have u1 := hG.tab.cell hA wA (by omega) (by omega)
                        have r2 := hG.tab.rlt hA (by omega)
                        have dB : decide (f hA wA < sv) = false := by simp; omega
                        go_wp2_with fail
                        go_quiet (fail)
                        clear k1 k2 hwA hhA dB
                        go_wp2
                        exact ⟨⟨j + 1, by omega, by go_num, Hend.out _⟩, by simp [intOf]; omega⟩
                      · have g1 : sw ≤ (M : Int) := by omega
                        have g1' : sw - 1 < (M : Int) := by omega
                        have g2 : decide (sh ≤ (N : Int)) = false := by simp; omega
                        have g3 : sh ≤ (M : Int) := by omega
                        have g3' : sh - 1 < (M : Int) := by omega
                        have g4 : decide (sw ≤ (N : Int)) = false := by simp; omega
                        go_wp2_with fail
                        go_quiet (fail)
                        clear k1 k2 hwA hhA
                        go_wp2
                        exact ⟨⟨j + 1, by omega, by go_num, Hend.out _⟩, by simp [intOf]; omega⟩
                    · have g1 : sw ≤ (M : Int) := by omega
                      have g1' : sw - 1 < (M : Int) := by omega
                      have g2 : decide (sh ≤ (N : Int)) = false := by simp; omega
                      have g3 : decide (sh ≤ (M : Int)) = false := by simp; omega
                      go_wp2_with fail
                      go_quiet (fail)
                      clear k1 k2 hwA hhA
                      go_wp2
                      exact ⟨⟨j + 1, by omega, by go_num, Hend.out _⟩, by simp [intOf]; omega⟩
                · by_cases c3 : sh ≤ (M : Int)
                  · by_cases c4 : sw ≤ (N : Int)
                    · have g1 : decide (sw ≤ (M : Int)) = false := by simp; omega
                      have g3 : sh ≤ (M : Int) := by omega
                      have g3' : sh - 1 < (M : Int) := by omega
                      have g4 : sw ≤ (N : Int) := by omega
                      have g4' : sw - 1 < (N : Int) := by omega
                      have v2 := HvB.out rfl g3 g4
                      have u0 := hG.tab.row hA (by omega)
                      have u1 := hG.tab.cell hA wA (by omega) (by omega)
                      have r2 := hG.tab.rlt hA (by omega)
                      have dB : decide (f hA wA < sv) = false := by simp; omega
                      go_wp2_with fail
                      go_quiet (fail)
                      clear k1 k2 hwA hhA dB
                      go_wp2
                      exact ⟨⟨j + 1, by omega, by go_num, Hend.out _⟩, by simp [intOf]; omega⟩
                    · have g1 : decide (sw ≤ (M : Int)) = false := by simp; omega
                      have g3 : sh ≤ (M : Int) := by omega
                      have g3' : sh - 1 < (M : Int) := by omega
                      have g4 : decide (sw ≤ (N : Int)) = false := by simp; omega
                      go_wp2_with fail
                      go_quiet (fail)
                      clear k1 k2 hwA hhA
                      go_wp2
                      exact ⟨⟨j + 1, by omega, by go_num, Hend.out _⟩, by simp [intOf]; omega⟩
                  · have g1 : decide (sw ≤ (M : Int)) = false := by simp; omega
                    have g3 : decide (sh ≤ (M : Int)) = false := by simp; omega
                    go_wp2_with fail
                    go_quiet (fail)
                    clear k1 k2 hwA hhA
                    go_wp2
                    exact ⟨⟨j + 1, by omega, by go_num, Hend.out _⟩, by simp [intOf]; omega⟩
          · obtain rfl : L = j := by omega
            obtain ⟨r0, r1, r2, r3⟩ := cells3 hG.box
            have hm1 : ¬ ((M : Int) = 0) := by omega
            have hn1 : ¬ ((N : Int) = 0) := by omega
            have hm2 : 1 ≤ (M : Int) := by omega
            have hn2 : 1 ≤ (N : Int) := by omega
            obtain ⟨ii, hii0, hii1⟩ := mod_idx a0 M (by omega)
            obtain ⟨jj, hjj0, hjj1⟩ := mod_idx a1 N (by omega)
            clear hj hlt
            have Hii := Lib.hid hii0
            have Hjj := Lib.hid hjj0
            clear hii0 hjj0
            go_wp2_with fail
            go_quiet (fail)
            have e12 : (wrap64 (a0.tmod (M : Int) + M)).tmod M = (ii : Int) := by rw [IntWalk.wrap64_in _ (tmod_in a0 M (by omega) (by omega))]; exact Hii.out
            have e13 : (wrap64 (a1.tmod (N : Int) + N)).tmod N = (jj : Int) := by rw [IntWalk.wrap64_in _ (tmod_in a1 N (by omega) (by omega))]; exact Hjj.out
            simp only [e12, e13]
            clear e12 e13 Hii Hjj
            generalize hwd : wi.drewN _ = wd
            have hG1 : Gr w wd w1.heap.size (w.heap.size + 1) M N K A1 c1 L s1 a0 a1 a2 tb o f rb ro rc := by rw [← hwd]; exact hG.below (below_drewN' _ _)
            clear hwd hG q0 q1 q2 q3 q4 r0 r1 r2 r3
            have hG := hG1
            clear hG1
            go_wp2_with fail
            go_loopw [14] (fun i wr => ∃ (c0 : Nat), c0 ≤ ii ∧ i = .int .i64 c0 ∧ Gr w wr w1.heap.size (w.heap.size + 1) M N K A1 c1 L s1 a0 a1 a2 tb o f rb ro rc) (fun i _ => ii - (intOf i).toNat)
            case atStart => exact ⟨0, by omega, rfl, hG⟩
            case round =>
              clear hG
              obtain ⟨c0, hc0, rfl, hG⟩ := hrel
              obtain ⟨q0, q1, q2, q3, q4⟩ := cells4 hG.pn.box
              obtain ⟨wi, rfl⟩ : ∃ wi : World, wi = wr := ⟨_, rfl⟩
              by_cases hlt : c0 < ii
              · go_wp2_with fail
                obtain ⟨rt, hrt⟩ : ∃ rt, (ii : Int) - c0 - 1 - K = rt := ⟨_, rfl⟩
                simp only [hrt]
                have Hrt := Lib.hid hrt
                clear hrt
                by_cases hr0 : 0 ≤ rt
                · obtain ⟨r, hr⟩ : ∃ r : Nat, rt.toNat = r := ⟨_, rfl⟩
                  have hrr : rt = (r : Int) := by omega
                  have hrs : (r : Int) + c0 + 1 + K = ii := by have := Hrt.out; omega
                  have i1 : (ii : Int) < (M : Int) := by omega
                  have i2 : rt < (M : Int) := by omega
                  have i3 : (c0 : Int) < (M : Int) := by omega
                  have i4 : (ii : Int) < (M : Int) := by omega
                  have i5 : (jj : Int) < (N : Int) := by omega
                  have hrM : r < M := by omega
                  have t0 := hG.tab.row ii hii1
                  have t1 := hG.tab.cell ii jj hii1 hjj1
                  have s0 := hG.tab.row c0 (by omega)
                  have s2 := hG.tab.cell c0 jj (by omega) hjj1
                  have u0 := hG.tab.row r (by omega)
                  have u1 := hG.tab.cell r jj (by omega) hjj1
                  have hv := Hac.out c0 r ii jj (by omega) (by omega)
                  have b1 := HfM.out c0 jj (by omega) hjj1
                  have b2 := HfM.out r jj (by omega) hjj1
                  have b3 := Hf0.out c0 jj
                  have b4 := Hf0.out r jj
                  have y1 : IntKind.i64.wrap (f c0 jj + f r jj) = f c0 jj + f r jj := w64 (by omega) (by omega)
                  have d1 : decide (f ii jj < f c0 jj + f r jj) = false := by simp; omega
                  clear hrr hrs
                  go_quiet (fail)
                  clear hr y1 d1
                  go_wp2
                  exact ⟨⟨c0 + 1, by omega, by go_num, hG.below (below_drewN' _ _)⟩, by simp [intOf]; omega⟩
                · have g1 : decide (0 ≤ rt) = false := by simp; omega
                  go_quiet (fail)
                  clear g1
                  go_wp2
                  exact ⟨⟨c0 + 1, by omega, by go_num, hG.below (below_drewN' _ _)⟩, by simp [intOf]; omega⟩
              · obtain rfl : ii = c0 := by omega
                clear hc0 hlt
                go_wp2_with fail
                go_loopw [16] (fun i wr => ∃ (c0 : Nat), c0 ≤ jj ∧ i = .int .i64 c0 ∧ Gr w wr w1.heap.size (w.heap.size + 1) M N K A1 c1 L s1 a0 a1 a2 tb o f rb ro rc) (fun i _ => jj - (intOf i).toNat)
                case atStart => exact ⟨0, by omega, rfl, hG⟩
                case round =>
                  clear hG
                  obtain ⟨c0, hc0, rfl, hG⟩ := hrel
                  obtain ⟨q0, q1, q2, q3, q4⟩ := cells4 hG.pn.box
                  obtain ⟨wi, rfl⟩ : ∃ wi : World, wi = wr := ⟨_, rfl⟩
                  by_cases hlt : c0 < jj
                  · go_wp2_with fail
                    obtain ⟨rt, hrt⟩ : ∃ rt, (jj : Int) - c0 - 1 - K = rt := ⟨_, rfl⟩
                    simp only [hrt]
                    have Hrt := Lib.hid hrt
                    clear hrt
                    by_cases hr0 : 0 ≤ rt
                    · obtain ⟨r, hr⟩ : ∃ r : Nat, rt.toNat = r := ⟨_, rfl⟩
                      have hrr : rt = (r : Int) := by omega
                      have hrs : (r : Int) + c0 + 1 + K = jj := by have := Hrt.out; omega
                      have i1 : (jj : Int) < (N : Int) := by omega
                      have i2 : rt < (N : Int) := by omega
                      have i3 : (c0 : Int) < (N : Int) := by omega
                      have i4 : (ii : Int) < (M : Int) := by omega
                      have i5 : (jj : Int) < (N : Int) := by omega
                      have hrM : r < N := by omega
                      have t0 := hG.tab.row ii hii1
                      have t1 := hG.tab.cell ii jj hii1 hjj1
                      have s2 := hG.tab.cell ii c0 hii1 (by omega)
                      have u1 := hG.tab.cell ii r hii1 (by omega)
                      have hv := Hdn.out c0 r ii jj (by omega) (by omega)
                      have b1 := HfM.out ii c0 hii1 (by omega)
                      have b2 := HfM.out ii r hii1 (by omega)
                      have b3 := Hf0.out ii c0
                      have b4 := Hf0.out ii r
                      have y1 : IntKind.i64.wrap (f ii c0 + f ii r) = f ii c0 + f ii r := w64 (by omega) (by omega)
                      have d1 : decide (f ii jj < f ii c0 + f ii r) = false := by simp; omega
                      clear hrr hrs
                      go_quiet (fail)
                      clear hr y1 d1
                      go_wp2
                      exact ⟨⟨c0 + 1, by omega, by go_num, hG.below (below_drewN' _ _)⟩, by simp [intOf]; omega⟩
                    · have g1 : decide (0 ≤ rt) = false := by simp; omega
                      go_quiet (fail)
                      clear g1
                      go_wp2
                      exact ⟨⟨c0 + 1, by omega, by go_num, hG.below (below_drewN' _ _)⟩, by simp [intOf]; omega⟩
                  · obtain rfl : jj = c0 := by omega
                    have hf := hG.pn.bel
                    go_wp2
                    exact hR.out _ _ ⟨rfl, hf⟩
  · have Hp := Lib.hid (show panOk W1 H1 K s1 = false from by simpa using hp)
    clear hp
    go_enter Try.func7, Try.ntmps7
    go_wp2_with fail
    refine (few_any _ _ _ _ _ _ ss _ ((hS.alloc _).alloc _) hnc hc).mono ?_
    rw [Hes.out, HL.out, HW.out, HH.out]
    rintro e w1 ⟨A1, c1, rfl, ho1, hb1⟩
    have hP : Pn w (w1.alloc (.cells #[.int .i64 W1, .int .i64 H1, .int .i64 K, .slice A1 L c1] 24)) w1.heap.size W1 H1 K A1 c1 L s1 := by
      have hf1 : Below w.heap.size w w1 := (below_two w _ _).trans (hb1.mono (by simp; omega))
      exact ⟨(SlE.of_own ho1 HL.out.symm).alloc _, heap_alloc_new w1 _, hf1.alloc hf1.size _⟩
    clear ho1 hb1
    go_wp2_with fail
    try clear q0 q1 q2 q3 q4
    refine (table_no W1 H1 K A1 L c1 s1 _ hP.sl (by omega) Hp.out).mono ?_
    rintro e wq2 ⟨rfl, hb⟩
    have hP2 := hP.below hb
    obtain ⟨q0, q1, q2, q3, q4⟩ := cells4 hP2.box
    clear hb
    go_wp2_with fail
    try clear q0 q1 q2 q3 q4
    refine (refCheck_any W1 H1 K A1 L c1 s1 _ hP2.sl (by omega)).mono ?_
    rw [Hp.out]
    rintro e wq3 ⟨rfl, hb⟩
    have hP3 := hP2.below hb
    obtain ⟨q0, q1, q2, q3, q4⟩ := cells4 hP3.box
    clear hb
    go_wp2_with fail
    refine (lives_any _).mono ?_
    rintro e w6 ⟨rfl, hb6⟩
    have hf6 := (hP3.below hb6).bel
    clear hb6
    go_wp2
    exact hR.out _ _ ⟨rfl, hf6⟩
end Go.Proofs.Ytfkpioibinpfhaa
