/-
  The contract of the solver's first: the lexicographically least assignment of tight costs; conditions: the table is valid, the prices bounded.
-/
import Derived.Test.YtjdhcdoekfikpaaMCompl
namespace Go.Proofs.Ytjdhcdoekfikpaa
open Go.RowKit

theorem Enters63 : Enters Try.prog 63 := enters_of Try.func63 (by kernel_rfl) rfl
theorem ownsRow_ne {W : World} {base sz n b : Nat} {e t : TypeId} {v : Value} {xs : List Value} {cs : Array Value} (h : W.ownsRow base e sz v n xs) (hb : W.heap[b]? = some (.cells cs t (0, 0))) (hne : e ≠ t) : v.ownBlock ≠ some b := by
  rcases h.2 with ⟨rfl, _⟩ | ⟨g, c, cur, rfl, _, hg, _⟩
  · simp [Value.ownBlock]
  · intro e1
    have : g = b := by simpa [Value.ownBlock] using e1
    subst this
    rw [hg] at hb
    simp only [Option.some.injEq, Obj.cells.injEq] at hb
    exact hne hb.2.1
/-- What first keeps: the boxes that its function captured, and which columns are taken. -/
structure Ft (W0 W : World) (bx bt bk sp m : Nat) (taken : List Bool) : Prop where
  hbx : W.heap[bx]? = some (.cells #[.pointer (some ⟨sp, 0, none⟩)] 73 (0, 0))
  hbt : W.heap[bt]? = some (.cells #[.slice (some ⟨bk, 0, none⟩) m m] 91 (0, 0))
  hbk : BlkB W bk taken
  tl : taken.length = m
  lo : W0.heap.size ≤ bk
  bel : Below W0.heap.size W0 W
section
variable {W0 W W' : World} {bx bt bk sp m : Nat} {taken : List Bool}
theorem Ft.below (h : Ft W0 W bx bt bk sp m taken) (hb : Below W.heap.size W W') : Ft W0 W' bx bt bk sp m taken :=
  ⟨(hb.block bx (Array.getElem?_eq_some_iff.1 h.hbx).1).trans h.hbx, (hb.block bt (Array.getElem?_eq_some_iff.1 h.hbt).1).trans h.hbt, h.hbk.below hb, h.tl, h.lo, h.bel.trans (hb.mono h.bel.size)⟩
theorem Ft.ne (h : Ft W0 W bx bt bk sp m taken) : bx ≠ bk ∧ bt ≠ bk := by
  have h3 : W.heap[bk]? = _ := h.hbk
  refine ⟨fun e => ?_, fun e => ?_⟩
  · have h1 := h.hbx; rw [e, h3] at h1; simp at h1
  · have h1 := h.hbt; rw [e, h3] at h1; simp at h1
theorem Ft.set (h : Ft W0 W bx bt bk sp m taken) (k : Nat) (x : Bool) : Ft W0 (W.setCell ⟨bk, k, none⟩ (.bool x)) bx bt bk sp m (taken.set k x) :=
  ⟨(Below.heap_setCell W ⟨bk, k, none⟩ _ bx h.ne.1).trans h.hbx, (Below.heap_setCell W ⟨bk, k, none⟩ _ bt h.ne.2).trans h.hbt, h.hbk.set k x, by simpa using h.tl, h.lo, h.bel.setCell (p := ⟨bk, k, none⟩) h.lo _⟩
theorem Ft.grown (h : Ft W0 W bx bt bk sp m taken) {v : Value} {base n sz : Nat} {xs : List Value} (ho : W.ownsRow base 3 sz v n xs) (hb : W0.heap.size ≤ base) (hg : W.grownBy W' v.ownBlock) : Ft W0 W' bx bt bk sp m taken := by
  have h3 : W.heap[bk]? = _ := h.hbk
  exact ⟨(hg.block bx (Array.getElem?_eq_some_iff.1 h.hbx).1 (fun e => ownsRow_ne ho h.hbx (by decide) e.symm)).trans h.hbx, (hg.block bt (Array.getElem?_eq_some_iff.1 h.hbt).1 (fun e => ownsRow_ne ho h.hbt (by decide) e.symm)).trans h.hbt,
    (hg.block bk h.hbk.lt (fun e => ownsRow_ne ho h3 (by decide) e.symm)).trans h.hbk, h.tl, h.lo, below_own h.bel ho hb h.bel.size hg⟩
end
set_option maxRecDepth 100000 in
set_option maxHeartbeats 4000000 in
theorem tight_may (W0 W : World) (bx bt bk sp n c m bu bv bp bw : Nat) (A : Option Addr) (T : List (List Int)) (u v : List Int) (p way : List Nat) (taken : List Bool) (hF : Ft W0 W bx bt bk sp m taken) (hS : Sv W0 sp A n c m bu bv bp bw u v p way) (hT : SlR W0 A n T) (hok : TOk T m)
    (hu : ∀ i, 0 ≤ u.getD i 0 ∧ u.getD i 0 ≤ 64000000000000) (hv : ∀ i, -64000000000000 ≤ v.getD i 0 ∧ v.getD i 0 ≤ 0) :
    MayOk W W.heap.size 63 #[.pointer (some ⟨bt, 0, none⟩), .pointer (some ⟨bx, 0, none⟩)] n m (tightF T (fun i => u.getD (i + 1) 0) (fun j => v.getD (j + 1) 0) taken) := by
  intro W1 i j hb hi hj
  refine calls_cps ?_
  intro R hR
  have hF1 := hF.below hb
  have hS1 := hS.below hF1.bel
  obtain ⟨q0, q1, q2, q3, q4⟩ := hS1.cells
  have qx : W1.cell? ⟨bx, 0, none⟩ = some (.pointer (some ⟨sp, 0, none⟩)) := by rw [cell_of_row _ _ 0 _ _ (0, 0) hF1.hbx]; rfl
  have qt : W1.cell? ⟨bt, 0, none⟩ = some (.slice (some ⟨bk, 0, none⟩) m m) := by rw [cell_of_row _ _ 0 _ _ (0, 0) hF1.hbt]; rfl
  obtain ⟨d1, d2⟩ := hF1.hbk.at_ (k := j) (by rw [hF1.tl]; exact hj)
  have hco := hok.costOk i j (by rw [← hT.1]; exact hi) hj
  have hm64 := hok.m64
  have hnm : n ≤ m := by rw [hT.1]; exact hok.nm
  obtain ⟨b, o, Ai, ci, bi, oi, rfl, _, _, t1, rfl, t2⟩ := table_at hT hok.rect hF1.bel hi hj
  obtain ⟨f1, f2, f3, f4, f5, f6⟩ := hS1.at_ (k := j + 1) (by omega)
  obtain ⟨e1, e2⟩ := hS1.atU (k := i + 1) (by omega)
  have hub := hu (i + 1)
  have hvb := hv (j + 1)
  have htg : tightF T (fun i => u.getD (i + 1) 0) (fun j => v.getD (j + 1) 0) taken i j = (!(taken.getD j false) && (decide (0 ≤ ct T i j) && (u.getD (i + 1) 0 + v.getD (j + 1) 0 == ct T i j))) := rfl
  obtain ⟨z, hz⟩ : ∃ z, ct T i j = z := ⟨_, rfl⟩
  obtain ⟨x, hx⟩ : ∃ x, u.getD (i + 1) 0 = x := ⟨_, rfl⟩
  obtain ⟨y, hy⟩ : ∃ y, v.getD (j + 1) 0 = y := ⟨_, rfl⟩
  rw [hz] at t2 hco htg
  rw [hx] at e1 hub htg
  rw [hy] at f1 hvb htg
  have i1 : (i : Int) < (n : Int) := by omega
  have i2 : (j : Int) < (m : Int) := by omega
  have i3 : (i : Int) + 1 < (n : Int) + 1 := by omega
  have i4 : (j : Int) + 1 < (m : Int) + 1 := by omega
  have y1 : IntKind.i64.wrap ((i : Int) + 1) = (i : Int) + 1 := IntWalk.i64_in _ (by omega)
  have y2 : IntKind.i64.wrap ((j : Int) + 1) = (j : Int) + 1 := IntWalk.i64_in _ (by omega)
  have y3 : IntKind.i64.wrap (x + y) = x + y := IntWalk.i64_in _ (by omega)
  have s1 : ((i : Int) + 1).toNat = i + 1 := by omega
  have s2 : ((j : Int) + 1).toNat = j + 1 := by omega
  show Calls Try.prog 63 #[.int .i64 (i : Int), .int .i64 (j : Int), .pointer (some ⟨bt, 0, none⟩), .pointer (some ⟨bx, 0, none⟩)] W1 R
  rw [htg] at hR
  have HR := Lib.hid hR
  clear hR htg hx hy hz hF hF1 hS hS1 hT hok hb hu hv e2 f2 f3 f4 f5 f6 d2
  cases htk : taken.getD j false with
  | true =>
    rw [htk] at d1 HR
    have Hf := Lib.hid (show ∀ q, R (.returned (.bool false)) (W1.drewN q) from fun q => HR.out.out _ _ ⟨by simp, (Qt.refl W1).step q⟩)
    clear htk HR
    go_enter Try.func63, Try.ntmps63
    go_wp2_with fail
    go_quiet (fail)
    go_wp2
    exact Hf.out _
  | false =>
    rw [htk] at d1 HR
    by_cases hz1 : z = -1
    · have g1 : (z != -1) = false := by simp [hz1]
      have Hf := Lib.hid (show ∀ q, R (.returned (.bool false)) (W1.drewN q) from fun q => HR.out.out _ _ ⟨by rw [hz1]; rfl, (Qt.refl W1).step q⟩)
      clear htk HR hz1
      go_enter Try.func63, Try.ntmps63
      go_wp2_with fail
      go_quiet (fail)
      go_wp2
      exact Hf.out _
    · have g1 : (z != -1) = true := by simpa using hz1
      have hz0 : decide (0 ≤ z) = true := decide_eq_true (by omega)
      have Hf := Lib.hid (show ∀ q, R (.returned (.bool (x + y == z))) (W1.drewN q) from fun q => HR.out.out _ _ ⟨by rw [hz0]; rfl, (Qt.refl W1).step q⟩)
      clear htk HR hz1 hz0
      go_enter Try.func63, Try.ntmps63
      go_wp2_with fail
      go_quiet (fail)
      go_wp2
      exact Hf.out _
theorem completes_n {T : List (List Int)} {n m fr : Nat} {u v : Nat → Int} {taken : List Bool} (hn : n = T.length) : completesB T m u v fr taken =
    (decide (kuhn (tightF T u v taken) m ((List.range n).drop fr) = ((List.range n).drop fr).length) && decide (kuhn (fun j i => decide (fr ≤ i) && tightF T u v taken i j) n (mustP v taken m) = (mustP v taken m).length)) := by subst hn; rfl
theorem nextC_some {T : List (List Int)} {m row k : Nat} {u v : Nat → Int} {taken : List Bool} (hk : k < m) (h1 : ∀ j, j < k → (tightF T u v taken row j && completesB T m u v (row + 1) (taken.set j true)) = false) (h2 : (tightF T u v taken row k && completesB T m u v (row + 1) (taken.set k true)) = true) : nextC T m u v taken row = some k := by
  unfold nextC
  rw [List.find?_eq_some_iff_append]
  refine ⟨h2, List.range k, (List.range (m - (k + 1))).map (· + (k + 1)), ?_, fun j hj => by rw [h1 j (List.mem_range.1 hj)]; rfl⟩
  have : m = k + 1 + (m - (k + 1)) := by omega
  rw [this, List.range_add, List.range_succ, List.append_assoc]
  simp [Nat.add_comm]
theorem nextC_none {T : List (List Int)} {m row : Nat} {u v : Nat → Int} {taken : List Bool} (h1 : ∀ j, j < m → (tightF T u v taken row j && completesB T m u v (row + 1) (taken.set j true)) = false) : nextC T m u v taken row = none := by
  unfold nextC
  rw [List.find?_eq_none]
  intro j hj
  rw [h1 j (List.mem_range.1 hj)]; simp
theorem firstF_some {T : List (List Int)} {m r c : Nat} {u v : Nat → Int} {rs : List Nat} {taken : List Bool} {l : List Nat} (h : nextC T m u v taken r = some c) : firstF T m u v (r :: rs) taken l = firstF T m u v rs (taken.set c true) (l ++ [c]) := by rw [firstF, h]
theorem firstF_none {T : List (List Int)} {m r : Nat} {u v : Nat → Int} {rs : List Nat} {taken : List Bool} {l : List Nat} (h : nextC T m u v taken r = none) : firstF T m u v (r :: rs) taken l = firstF T m u v rs taken l := by rw [firstF, h]
theorem set_back {l : List Bool} {k : Nat} (h : l.getD k false = false) (hk : k < l.length) : (l.set k true).set k false = l := by
  rw [List.set_set]
  rw [getD_get _ _ _ hk] at h
  rw [← h, List.set_getElem_self]
set_option maxRecDepth 100000 in
set_option maxHeartbeats 16000000 in
theorem first_any (W : World) (sp n c m bu bv bp bw : Nat) (A : Option Addr) (T : List (List Int)) (u v : List Int) (p way : List Nat) (hS : Sv W sp A n c m bu bv bp bw u v p way) (hT : SlR W A n T) (hok : TOk T m)
    (hu : ∀ i, 0 ≤ u.getD i 0 ∧ u.getD i 0 ≤ 64000000000000) (hv : ∀ i, -64000000000000 ≤ v.getD i 0 ∧ v.getD i 0 ≤ 0) :
    Calls Try.prog 48 #[.pointer (some ⟨sp, 0, none⟩)] W fun e W' => ∃ A' c', e = .returned (.slice A' (firstF T m (fun i => u.getD (i + 1) 0) (fun j => v.getD (j + 1) 0) (List.range n) (List.replicate m false) []).length c') ∧
      W'.ownsRow W.heap.size 3 1 (.slice A' (firstF T m (fun i => u.getD (i + 1) 0) (fun j => v.getD (j + 1) 0) (List.range n) (List.replicate m false) []).length c') (firstF T m (fun i => u.getD (i + 1) 0) (fun j => v.getD (j + 1) 0) (List.range n) (List.replicate m false) []).length
        ((castL (firstF T m (fun i => u.getD (i + 1) 0) (fun j => v.getD (j + 1) 0) (List.range n) (List.replicate m false) [])).flatMap intE) ∧ Below W.heap.size W W' := by
  refine calls_cps ?_
  intro R hR
  obtain ⟨uf, huf⟩ : ∃ uf, (fun i => u.getD (i + 1) 0) = uf := ⟨_, rfl⟩
  obtain ⟨vf, hvf⟩ : ∃ vf, (fun j => v.getD (j + 1) 0) = vf := ⟨_, rfl⟩
  have hmay := fun (W1 : World) (bx bt bk : Nat) (taken : List Bool) (hF : Ft W W1 bx bt bk sp m taken) => tight_may W W1 bx bt bk sp n c m bu bv bp bw A T u v p way taken hF hS hT hok hu hv
  rw [huf, hvf] at hR hmay
  obtain ⟨FT, hFT⟩ : ∃ FT, firstF T m uf vf (List.range n) (List.replicate m false) [] = FT := ⟨_, rfl⟩
  rw [hFT] at hR
  have hn := hT.1
  have hn1 : 1 ≤ n := by rw [hn]; exact hok.n1
  have hm64 := hok.m64
  have hnm : n ≤ m := by rw [hn]; exact hok.nm
  have hcn := fun (fr : Nat) (taken : List Bool) => completes_n (T := T) (n := n) (m := m) (fr := fr) (u := uf) (v := vf) (taken := taken) hn
  have Hcn := Lib.hid hcn
  have Hmay := Lib.hid hmay
  have Hvf := Lib.hid (show ∀ j, vf j = v.getD (j + 1) 0 from fun j => by rw [← hvf])
  have HFT := Lib.hid hFT
  have HS := Lib.hid hS
  have hsl := hS.lt
  obtain ⟨q0, q1, q2, q3, q4⟩ := hS.cells
  have n1 : sp ≠ W.heap.size := by omega
  have z1 : IntKind.i64.wrap ((n : Int) + 1 - 1) = (n : Int) := by rw [show (n : Int) + 1 - 1 = n by omega]; exact IntWalk.i64_in _ (by omega)
  have z2 : IntKind.i64.wrap ((m : Int) + 1 - 1) = (m : Int) := by rw [show (m : Int) + 1 - 1 = m by omega]; exact IntWalk.i64_in _ (by omega)
  clear huf hvf hmay hFT hcn hS hT hok hu hv hn
  go_enter Try.func48, Try.ntmps48
  go_wp2_with fail
  go_quiet (fail)
  rename_i nq
  clear z1 z2 q0 q1 q2 q3 q4 n1
  have hbd := below_drewN (below_new W (.cells #[.pointer (some ⟨sp, 0, none⟩)] 73)) nq
  have hx : ((W.alloc (.cells #[.pointer (some ⟨sp, 0, none⟩)] 73)).drewN nq).heap[W.heap.size]? = some (.cells #[.pointer (some ⟨sp, 0, none⟩)] 73 (0, 0)) := heap_alloc_new W _
  generalize ((W.alloc (.cells #[.pointer (some ⟨sp, 0, none⟩)] 73)).drewN nq) = wd at *
  have Hbd := Lib.hid hbd
  have Hx := Lib.hid hx
  have hsz := hbd.size
  clear hbd hx
  go_wp2_with (at_make; refine wpList_mkZ rfl (.tmp 22) (.tmp 22) _ rfl 4 Try.underlying91 infoBool rfl (by omega) _ m rfl rfl rfl (by omega) ?_; intro w2 hw2 hg2)
  have hft : Ft W (w2.alloc (.cells #[.slice (some ⟨wd.heap.size, 0, none⟩) m m] 91)) W.heap.size w2.heap.size wd.heap.size sp m (List.replicate m false) :=
    ⟨((below_new w2 _).block _ (Nat.lt_of_lt_of_le (Array.getElem?_eq_some_iff.1 Hx.out).1 hg2.size)).trans ((hg2.block _ (Array.getElem?_eq_some_iff.1 Hx.out).1 (by simp)).trans Hx.out), heap_alloc_new w2 _, ((below_new w2 _).block _ (Array.getElem?_eq_some_iff.1 hw2).1).trans (by rw [hw2]; simp), by simp, hsz, (Hbd.out.grown hg2 hsz (fun k hk => by cases hk)).alloc (Nat.le_trans hsz hg2.size) _⟩
  obtain ⟨bt, hbt⟩ : ∃ b, w2.heap.size = b := ⟨_, rfl⟩
  obtain ⟨bx, hbx⟩ : ∃ b, W.heap.size = b := ⟨_, rfl⟩
  obtain ⟨bk, hbk⟩ : ∃ b, wd.heap.size = b := ⟨_, rfl⟩
  rw [hbt, hbk] at hft ⊢
  rw [hbx] at hft ⊢
  have Hft := Lib.hid hft
  clear hw2 hg2 hbt hbk hbx hft
  go_loopg [6, 8, 9, 26, 30] n (fun gk s6 s8 s9 s26 s30 wr => ∃ (row c6 : Nat) (A6 : Option Addr) (l : List Nat) (taken : List Bool), row + gk = n ∧ s26 = .int .i64 ((row : Nat) : Int) ∧ s6 = .slice A6 l.length c6 ∧ l.length ≤ row ∧ wr.ownsRow W.heap.size 3 1 (.slice A6 l.length c6) l.length ((castL l).flatMap intE) ∧ Ft W wr bx bt bk sp m taken ∧
    Hid (firstF T m uf vf ((List.range n).drop row) taken l = FT))
  case atStart => exact ⟨0, 0, none, [], _, by omega, rfl, rfl, Nat.le_refl _, World.ownsRow_nil _ _ _ _, Hft.out, HFT⟩
  case round =>
    obtain ⟨row, c6, A6, l, taken, hgk, rfl, rfl, hll, ho, hF, He⟩ := hrel
    obtain ⟨wi, rfl⟩ : ∃ wi : World, wi = wr := ⟨_, rfl⟩
    by_cases hlt : row < n
    · have i1 : (row : Int) < (n : Int) := by omega
      obtain ⟨ga, rfl⟩ : ∃ ga, gk = ga + 1 := ⟨gk - 1, by omega⟩
      obtain ⟨Ll, hLl⟩ : ∃ Ll, l.length = Ll := ⟨_, rfl⟩
      rw [hLl] at hll ho ⊢
      have HLl := Lib.hid hLl
      have Hdr := Lib.hid (drop_range_cons hlt)
      have Ho := Lib.hid ho
      have HF := Lib.hid hF
      clear hLl ho hF
      go_wp2_with fail
      go_loopg [6, 9, 30] m (fun g2 s6 s9 s30 wr => ∃ col : Nat, col + g2 = m ∧ s30 = .int .i64 ((col : Nat) : Int) ∧ s6 = .slice A6 Ll c6 ∧ wr.ownsRow W.heap.size 3 1 (.slice A6 Ll c6) Ll ((castL l).flatMap intE) ∧ Ft W wr bx bt bk sp m taken ∧ Hid (∀ j, j < col → (tightF T uf vf taken row j && completesB T m uf vf (row + 1) (taken.set j true)) = false))
      case atStart => exact ⟨0, by omega, rfl, rfl, Ho.out, HF.out, Lib.hid (fun j hj => by omega)⟩
      case round =>
        obtain ⟨col, hgc, rfl, rfl, ho, hF, Hc⟩ := hrel
        obtain ⟨wj, rfl⟩ : ∃ wj : World, wj = wr := ⟨_, rfl⟩
        by_cases hltc : col < m
        · have i2 : (col : Int) < (m : Int) := by omega
          have Hm := Lib.hid (Hmay.out wj bx bt bk taken hF wj row col (Below.refl _ _) hlt hltc)
          have Ho2 := Lib.hid ho
          have HF2 := Lib.hid hF
          have htl : taken.length = m := hF.tl
          have Htl := Lib.hid htl
          clear ho hF htl
          go_wp2_with fail
          refine Hm.out.mono ?_
          cases htg : tightF T uf vf taken row col with
          | false =>
            have HC := Lib.hid (show ∀ j, j < col + 1 → (tightF T uf vf taken row j && completesB T m uf vf (row + 1) (taken.set j true)) = false from fun j hj => by
              by_cases e : j = col
              · subst e; rw [htg]; rfl
              · exact Hc.out j (by omega))
            clear htg
            rintro e w5 ⟨rfl, hq⟩
            have ho5 := ownsRow_below Ho2.out hq.below
            have hF5 := HF2.out.below hq.below
            have Ho5 := Lib.hid ho5
            have HF5 := Lib.hid hF5
            clear ho5 hF5 hq
            go_wp2_with fail
            go_roundg (gk - 1)
            case measure => omega
            case rel => exact ⟨col + 1, by omega, by go_num, rfl, Ho5.out, HF5.out, HC⟩
          | true =>
            have htk : taken.getD col false = false := by
              unfold tightF at htg
              cases hx : taken.getD col false with
              | false => rfl
              | true => rw [hx] at htg; simp at htg
            have Htg := Lib.hid htg
            have Htk := Lib.hid htk
            clear htg htk
            rintro e w5 ⟨rfl, hq⟩
            have ho5 := ownsRow_below Ho2.out hq.below
            have hF5 := HF2.out.below hq.below
            have hF6 := hF5.set col true
            have ho6 := ho5.kept (grownBy_setCellAt w5 bk col (.bool true)) (.inr (ownsRow_ne ho5 (show w5.heap[bk]? = _ from hF5.hbk) (by decide)))
            have qt : w5.cell? ⟨bt, 0, none⟩ = some (.slice (some ⟨bk, 0, none⟩) m m) := by rw [cell_of_row _ _ 0 _ _ (0, 0) hF5.hbt]; rfl
            have qx : w5.cell? ⟨bx, 0, none⟩ = some (.pointer (some ⟨sp, 0, none⟩)) := by rw [cell_of_row _ _ 0 _ _ (0, 0) hF5.hbx]; rfl
            obtain ⟨nb1, nb2⟩ := hF5.ne
            obtain ⟨d1, d2⟩ := hF5.hbk.at_ (k := col) (by rw [hF5.tl]; exact hltc)
            have Ho6 := Lib.hid ho6
            have HF6 := Lib.hid hF6
            have HS6 := Lib.hid (HS.out.below hF6.bel)
            have Hm6 := Lib.hid (Hmay.out _ bx bt bk _ hF6)
            have z3 : IntKind.i64.wrap ((row : Int) + 1) = (row : Int) + 1 := IntWalk.i64_in _ (by omega)
            clear ho5 hF5 hF6 ho6 hq
            go_wp2_with fail
            refine (completes_any _ sp n c m bu bv bp bw bk (row + 1) A u v p way (taken.set col true) 63 _ (tightF T uf vf (taken.set col true)) vf HS6.out HF6.out.hbk HF6.out.tl Enters63 Hm6.out hn1 (by omega) (by omega) hm64 (by omega) Hvf.out).mono ?_
            rw [← Hcn.out]
            rintro e w7 ⟨rfl, hb7⟩
            have hF7 := HF6.out.below hb7
            have ho7 := ownsRow_below Ho6.out hb7
            have HF7 := Lib.hid hF7
            have Ho7 := Lib.hid ho7
            have qt : w7.cell? ⟨bt, 0, none⟩ = some (.slice (some ⟨bk, 0, none⟩) m m) := by rw [cell_of_row _ _ 0 _ _ (0, 0) hF7.hbt]; rfl
            obtain ⟨d3, d4⟩ := hF7.hbk.at_ (k := col) (by rw [hF7.tl]; exact hltc)
            have hF8 := hF7.set col false
            rw [set_back Htk.out (by rw [Htl.out]; exact hltc)] at hF8
            have HF8 := Lib.hid hF8
            have Ho8 := Lib.hid (ho7.kept (grownBy_setCellAt w7 bk col (.bool false)) (.inr (ownsRow_ne ho7 (show w7.heap[bk]? = _ from hF7.hbk) (by decide))))
            clear hF7 ho7 hF8 hb7 qx d1 d2
            cases hcp : completesB T m uf vf (row + 1) (taken.set col true) with
            | true =>
              have HN := Lib.hid (nextC_some hltc Hc.out (by rw [Htg.out, hcp]; rfl))
              have HE := Lib.hid (show firstF T m uf vf ((List.range n).drop (row + 1)) (taken.set col true) (l ++ [col]) = FT by rw [← firstF_some HN.out, ← Hdr.out]; exact He.out)
              have hlo : W.heap.size ≤ w7.heap.size := HF7.out.bel.size
              have hLl2 : (l ++ [col]).length = Ll + 1 := by rw [List.length_append, HLl.out]; rfl
              have HLl2 := Lib.hid hLl2
              clear hcp hLl2 d3 d4 qt
              go_wp2_with (at_builtin; refine wpList_app rfl (.tmp 47) (.tmp 49) _ rfl elemInt W.heap.size _ _ _ rfl (Ho7.out.kept (World.grownBy_alloc w7 _ none) (by cases (Value.slice A6 Ll c6).ownBlock <;> simp)) _ _ _ _ rfl (Sl.new _ _ _ 1 1 rfl) (by simp [Value.oneCell']) (by unfold maxLen; omega) (by omega) (by simp; omega) ?_; intro A9 c9 w9 ho9 hg9 _; have hF9 := (HF7.out.below (below_new w7 (.cells #[.int .i64 (col : Int)] 3))).grown (Ho7.out.kept (World.grownBy_alloc w7 _ none) (by cases (Value.slice A6 Ll c6).ownBlock <;> simp)) (Nat.le_refl _) hg9; have HO9 := Lib.hid (show w9.ownsRow W.heap.size 3 1 (.slice A9 (Ll + 1) c9) (Ll + 1) ((castL (l ++ [col])).flatMap intE) from by rw [castL_snoc, List.flatMap_append]; exact ho9); have HF9 := Lib.hid hF9; clear ho9 hg9 hF9)
              go_roundg ga
              case measure => omega
              case rel => exact ⟨row + 1, c9, A9, l ++ [col], taken.set col true, by omega, by go_num, by rw [HLl2.out], by rw [HLl2.out]; omega, by rw [HLl2.out]; exact HO9.out, HF9.out, HE⟩
            | false =>
              have HC := Lib.hid (show ∀ j, j < col + 1 → (tightF T uf vf taken row j && completesB T m uf vf (row + 1) (taken.set j true)) = false from fun j hj => by
                by_cases e : j = col
                · subst e; rw [hcp]; simp
                · exact Hc.out j (by omega))
              clear hcp
              go_wp2_with fail
              go_roundg (gk - 1)
              case measure => omega
              case rel => exact ⟨col + 1, by omega, by go_num, rfl, Ho8.out, HF8.out, HC⟩
        · obtain rfl : col = m := by omega
          have HE := Lib.hid (show firstF T col uf vf ((List.range n).drop (row + 1)) taken l = FT by rw [← firstF_none (nextC_none Hc.out), ← Hdr.out]; exact He.out)
          have Ho2 := Lib.hid ho
          have HF2 := Lib.hid hF
          clear ho hF
          go_wp2_with fail
          go_roundg ga
          case measure => omega
          case rel => exact ⟨row + 1, c6, A6, l, taken, by omega, by go_num, by rw [HLl.out], by rw [HLl.out]; omega, by rw [HLl.out]; exact Ho2.out, HF2.out, HE⟩
    · obtain rfl : n = row := by omega
      have hst := He.out
      rw [List.drop_of_length_le (by simp), firstF] at hst
      subst hst
      have Hf := Lib.hid (hR.out (.returned (.slice A6 l.length c6)) wi ⟨A6, c6, rfl, ho, hF.bel⟩)
      clear ho hF
      go_wp2
      exact Hf.out
end Go.Proofs.Ytjdhcdoekfikpaa
