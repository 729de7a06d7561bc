/-
  The contract of the solver's completes: whether the rows from one on can have columns that are not taken, and the columns that must be had can have rows; conditions as stated.
-/
import Derived.Test.YtjdhcdoekfikpaaMCheap
import Derived.Test.YtjdhcdoekfikpaaMFirst
namespace Go.Proofs.Ytjdhcdoekfikpaa
open Go.RowKit

theorem SlE.drop1 {w : World} {b o n k : Nat} {l : List Int} (h : SlE intE 1 w (some ⟨b, o, none⟩) n l) (hk : k < n) : SlE intE 1 w (some ⟨b, o + k, none⟩) (n - k) (l.drop k) := by
  obtain ⟨h1, h2, h3⟩ := h
  refine ⟨by simp [h1], by rw [flat_length intE_len]; simp [h1], fun _ => ?_⟩
  obtain ⟨b', o', hA, hb, hc⟩ := h3 (by omega)
  simp only [Option.some.injEq, Addr.mk.injEq, and_true] at hA
  obtain ⟨rfl, rfl⟩ := hA
  refine ⟨b, o + k, rfl, hb, fun j u hu => ?_⟩
  rw [flat_int, List.getElem?_map, List.getElem?_drop] at hu
  rw [Nat.add_assoc]
  exact hc (k + j) u (by rw [flat_int, List.getElem?_map]; exact hu)
theorem below_of_drew {b : Nat} {w w' : World} (h : Below b w.drew w') : Below b w w' := ⟨h.os, h.tape, h.output, h.size, h.block⟩
theorem drop_map_range (n k : Nat) : (numL n).drop k = castL ((List.range n).drop k) := by unfold numL castL; rw [List.map_drop]
/-- The columns below k that must be had. -/
def mustP (v : Nat → Int) (taken : List Bool) (k : Nat) : List Nat := (List.range k).filter fun j => !(taken.getD j false) && decide (v j < 0)
theorem mustP_succ (v : Nat → Int) (taken : List Bool) (k : Nat) : mustP v taken (k + 1) = mustP v taken k ++ if (!(taken.getD k false) && decide (v k < 0)) = true then [k] else [] := by
  unfold mustP
  rw [List.range_succ, List.filter_append]
  congr 1
  rw [List.filter_cons]
  split <;> simp [*]
theorem mustP_len (v : Nat → Int) (taken : List Bool) (k : Nat) : (mustP v taken k).length ≤ k := by
  have := List.length_filter_le (fun j => !(taken.getD j false) && decide (v j < 0)) (List.range k)
  simpa [mustP] using this
theorem castL_snoc (S : List Nat) (k : Nat) : castL (S ++ [k]) = castL S ++ [(k : Int)] := by simp [castL]
theorem Enters71 : Enters Try.prog 71 := enters_of Try.func71 (by kernel_rfl) rfl
set_option maxHeartbeats 1000000 in
/-- What tells which rows a column may have: it asks the function that it was given. -/
theorem back_may (W : World) (b5 b7 n m fr : Nat) (F : FuncId) (caps : Array Value) (g : Nat → Nat → Bool) (hent : Enters Try.prog F) (hmay : MayOk W W.heap.size F caps n m g)
    (h5 : W.heap[b5]? = some (.cells #[.int .i64 (fr : Int)] 3 (0, 0))) (h7 : W.heap[b7]? = some (.cells #[.func (.func F) #[] caps] 81 (0, 0))) (_hn : n ≤ 1000) :
    MayOk W W.heap.size 71 #[.pointer (some ⟨b5, 0, none⟩), .pointer (some ⟨b7, 0, none⟩)] m n (fun j i => decide (fr ≤ i) && g i j) := by
  intro W1 j i hb hj hi
  refine calls_cps ?_
  intro R hR
  have q5 : W1.cell? ⟨b5, 0, none⟩ = some (.int .i64 (fr : Int)) := by rw [cell_of_row _ _ 0 _ _ (0, 0) ((hb.block b5 (Array.getElem?_eq_some_iff.1 h5).1).trans h5)]; rfl
  have q7 : W1.cell? ⟨b7, 0, none⟩ = some (.func (.func F) #[] caps) := by rw [cell_of_row _ _ 0 _ _ (0, 0) ((hb.block b7 (Array.getElem?_eq_some_iff.1 h7).1).trans h7)]; rfl
  have hent' : ∀ (args : Array Value) (w : World), (callFunc F args).run Try.prog w = .ok (.enter F args) w := hent
  have Hm := Lib.hid (hmay W1 i j hb hi hj)
  clear hb h5 h7 hmay hent
  show Calls Try.prog 71 #[.int .i64 (j : Int), .int .i64 (i : Int), .pointer (some ⟨b5, 0, none⟩), .pointer (some ⟨b7, 0, none⟩)] W1 R
  by_cases hf : fr ≤ i
  · have g1 : decide (fr ≤ i) = true := decide_eq_true hf
    have g2 : decide ((i : Int) ≥ (fr : Int)) = true := decide_eq_true (by omega)
    have Hf := Lib.hid (show ∀ W', Qt W1 W' → R (.returned (.bool (g i j))) W' from fun W' hq => hR.out _ _ ⟨ret_bool (by show _ = (decide (fr ≤ i) && g i j); rw [g1]; rfl), hq⟩)
    clear hR g1
    go_enter Try.func71, Try.ntmps71
    go_wp2_with fail
    refine Hm.out.mono ?_
    rintro e w2 ⟨rfl, hq⟩
    go_wp2
    exact Hf.out _ hq
  · have g1 : decide (fr ≤ i) = false := decide_eq_false hf
    have Hf := Lib.hid (hR.out (.returned (.bool false)) W1 ⟨ret_bool (by show _ = (decide (fr ≤ i) && g i j); rw [g1]; rfl), Qt.refl _⟩)
    clear hR g1
    go_enter Try.func71, Try.ntmps71
    go_wp2
    exact Hf.out
set_option maxRecDepth 100000 in
set_option maxHeartbeats 8000000 in
theorem completes_any (W : World) (sp n c m bu bv bp bw bk fr : Nat) (A : Option Addr) (u v : List Int) (p way : List Nat) (taken : List Bool) (F : FuncId) (caps : Array Value) (g : Nat → Nat → Bool) (vf : Nat → Int)
    (hS : Sv W sp A n c m bu bv bp bw u v p way) (hk : BlkB W bk taken) (hkl : taken.length = m) (hent : Enters Try.prog F) (hmay : MayOk W W.heap.size F caps n m g) (hn1 : 1 ≤ n) (hm1 : 1 ≤ m) (hn : n ≤ 64) (hm : m ≤ 64) (hfr : fr ≤ n) (hvf : ∀ j, vf j = v.getD (j + 1) 0) :
    Calls Try.prog 64 #[.pointer (some ⟨sp, 0, none⟩), .int .i64 (fr : Int), .slice (some ⟨bk, 0, none⟩) m m, .func (.func F) #[] caps] W fun e W' =>
      e = .returned (.bool (decide (kuhn g m ((List.range n).drop fr) = ((List.range n).drop fr).length) && decide (kuhn (fun j i => decide (fr ≤ i) && g i j) n (mustP vf taken m) = (mustP vf taken m).length))) ∧ Below W.heap.size W W' := by
  refine calls_cps ?_
  intro R hR
  obtain ⟨X, hX⟩ : ∃ X, (List.range n).drop fr = X := ⟨_, rfl⟩
  obtain ⟨M, hM⟩ : ∃ M, mustP vf taken m = M := ⟨_, rfl⟩
  rw [hX, hM] at hR
  have hXl : X.length = n - fr := by rw [← hX]; simp
  have HX := Lib.hid hX
  have HXl := Lib.hid hXl
  have HM := Lib.hid hM
  have Hkl := Lib.hid hkl
  have Hmay := Lib.hid hmay
  have Hvf := Lib.hid hvf
  have HS := Lib.hid hS
  have Hk := Lib.hid hk
  have hsl := hS.lt
  have hkl2 := hk.lt
  obtain ⟨q0, q1, q2, q3, q4⟩ := hS.cells
  have n1 : sp ≠ W.heap.size := by omega
  have n2 : sp ≠ W.heap.size + 1 := by omega
  have z1 : IntKind.i64.wrap ((n : Int) + 1 - 1) = (n : Int) := by rw [show (n : Int) + 1 - 1 = n by omega]; exact IntWalk.i64_in _ (by omega)
  have z2 : IntKind.i64.wrap ((m : Int) + 1 - 1) = (m : Int) := by rw [show (m : Int) + 1 - 1 = m by omega]; exact IntWalk.i64_in _ (by omega)
  clear hX hM hXl hkl hmay hvf hS hk
  go_enter Try.func64, Try.ntmps64
  go_wp2_with fail
  go_quiet (fail)
  rename_i nq
  clear z1 z2 q0 q1 q2 q3 q4 n1 n2
  have hb2 := below_two W (.cells #[.int .i64 (fr : Int)] 3) (.cells #[.func (.func F) #[] caps] 81)
  have hbd := below_drewN hb2 nq
  have h5 : (((W.alloc (.cells #[.int .i64 (fr : Int)] 3)).alloc (.cells #[.func (.func F) #[] caps] 81)).drewN nq).heap[W.heap.size]? = some (.cells #[.int .i64 (fr : Int)] 3 (0, 0)) := heap_two1 W _ _
  have h7 : (((W.alloc (.cells #[.int .i64 (fr : Int)] 3)).alloc (.cells #[.func (.func F) #[] caps] 81)).drewN nq).heap[W.heap.size + 1]? = some (.cells #[.func (.func F) #[] caps] 81 (0, 0)) := heap_two2 W _ _
  have hSd := HS.out.below hbd
  have hkd := Hk.out.below hbd
  have hmd := Hmay.out.at hbd hbd.size
  clear hb2
  generalize (((W.alloc (.cells #[.int .i64 (fr : Int)] 3)).alloc (.cells #[.func (.func F) #[] caps] 81)).drewN nq) = wd at *
  obtain ⟨b5, hb5⟩ : ∃ b, W.heap.size = b := ⟨_, rfl⟩
  obtain ⟨b7, hb7⟩ : ∃ b, W.heap.size + 1 = b := ⟨_, rfl⟩
  rw [hb7] at h7
  rw [hb5] at h5
  have Hb5 := Lib.hid hb5
  have Hb7 := Lib.hid hb7
  have q5 : wd.cell? ⟨b5, 0, none⟩ = some (.int .i64 (fr : Int)) := by rw [cell_of_row _ _ 0 _ _ (0, 0) h5]; rfl
  have h5l := (Array.getElem?_eq_some_iff.1 h5).1
  have H5 := Lib.hid h5
  have H7 := Lib.hid h7
  have HSd := Lib.hid hSd
  have Hkd := Lib.hid hkd
  have Hmd := Lib.hid hmd
  have Hbd := Lib.hid hbd
  have i1 : (fr : Int) ≤ (n : Int) := by omega
  clear h5 h7 hSd hkd hmd hbd hb5 hb7
  go_wp2_with (rw [Hb7.out, Hb5.out])
  go_upto_region 2 with fail
  go_cut [11] (fun s11 wx => ∃ (A2 : Option Addr) (L2 c2 : Nat), s11 = .slice A2 L2 c2 ∧ SlE intE 1 wx A2 L2 (castL X) ∧ L2 = n - fr ∧ Below wd.heap.size wd wx)
  case first =>
    by_cases hfn : fr = n
    · have hXn : X = [] := by rw [← HX.out, hfn]; exact List.drop_of_length_le (by simp)
      have HXn := Lib.hid hXn
      subst hfn
      clear hXn
      go_region_held3 (fun w' => w'.cell? ⟨b5, 0, none⟩ = some (.int .i64 (fr : Int)))
        (first | go_keep | exact (hb6.cell (p := ⟨b5, 0, none⟩) h5l).trans q5)
        (first | (go_at_call 52; refine (numbers_any fr (by omega) _).mono ?_; rintro e w6 ⟨g6, rfl, hg6, hblk6, hb6⟩))
      all_goals
        go_wp2_with fail
        go_meet
        exact ⟨_, _, _, rfl, by rw [HXn.out]; (first | exact SlE.nil _ _ | (rw [Nat.sub_self]; exact SlE.nil _ _)), by omega, below_of_drew hb6⟩
    · have hlt : fr < n := by omega
      have hfc : ¬ n = fr := by omega
      go_region_held3 (fun w' => w'.cell? ⟨b5, 0, none⟩ = some (.int .i64 (fr : Int)))
        (first | go_keep | exact (hb6.cell (p := ⟨b5, 0, none⟩) h5l).trans q5)
        (first | (go_at_call 52; refine (numbers_any n (by omega) _).mono ?_; rintro e w6 ⟨g6, rfl, hg6, hblk6, hb6⟩))
      all_goals
        go_wp2_with fail
        go_meet
        refine ⟨_, _, _, rfl, ?_, rfl, below_of_drew hb6⟩
        have hd := SlE.drop1 (slE_of_block (n := n) hblk6 (by simp)) hlt
        rw [Nat.zero_add] at hd
        rw [← HX.out, ← drop_map_range]
        exact hd
  case rest =>
    obtain ⟨A2, L2, c2, hv11, hA2, hL2, hbx⟩ := hcut
    subst hv11
    have h7 := (hbx.block b7 (Array.getElem?_eq_some_iff.1 H7.out).1).trans H7.out
    have q7 : wc.cell? ⟨b7, 0, none⟩ = some (.func (.func F) #[] caps) := by rw [cell_of_row _ _ 0 _ _ (0, 0) h7]; rfl
    have HA2 := Lib.hid hA2
    have HSc := Lib.hid (HSd.out.below hbx)
    have Hkc := Lib.hid (Hkd.out.below hbx)
    have Hmc := Lib.hid (Hmd.out.at hbx hbx.size)
    have Hbc := Lib.hid (Hbd.out.trans (hbx.mono Hbd.out.size))
    have H5c := Lib.hid ((hbx.block b5 (Array.getElem?_eq_some_iff.1 H5.out).1).trans H5.out)
    have H7c := Lib.hid h7
    obtain ⟨K, hK⟩ : ∃ K, kuhn g m X = K := ⟨_, rfl⟩
    have hKl := kuhn_le g m X (by rw [← HX.out]; exact nodup_drop n fr)
    rw [hK] at hR hKl
    have HK := Lib.hid hK
    have Hxn := Lib.hid (show ∀ r ∈ X, r < n from fun r hr => by rw [← HX.out] at hr; exact (mem_drop_range.1 hr).2)
    rw [HXl.out] at hKl hR
    have hL2n : L2 ≤ n := by omega
    have HL2 := Lib.hid hL2
    clear hA2 hbx h7 hK hL2
    go_wp2_with fail
    refine (matched_any n m n F caps g hent _ Hmc.out hm1 (by omega) (by omega) A2 c2 L2 X (by omega) Hxn.out HA2.out).mono ?_
    rw [HK.out]
    rintro e w7 ⟨bp7, rfl, hb7⟩
    have HSe := Lib.hid (HSc.out.below hb7)
    have Hke := Lib.hid (Hkc.out.below hb7)
    have Hme := Lib.hid (Hmc.out.at hb7 hb7.size)
    have Hbe := Lib.hid (Hbc.out.trans (hb7.mono Hbc.out.size))
    have H5e := Lib.hid ((hb7.block b5 (Array.getElem?_eq_some_iff.1 H5c.out).1).trans H5c.out)
    have H7e := Lib.hid ((hb7.block b7 (Array.getElem?_eq_some_iff.1 H7c.out).1).trans H7c.out)
    clear hb7 q7 q5
    by_cases hKL : K < L2
    · have Hf := Lib.hid (hR.out (.returned (.bool false)) w7 ⟨by rw [decide_eq_false (by have := HL2.out; omega)]; rfl, Hbe.out⟩)
      go_wp2
      exact Hf.out
    have hdK : decide (K = n - fr) = true := decide_eq_true (by have := HL2.out; omega)
    have HdK := Lib.hid hdK
    have hbase := Hbe.out.size
    clear hdK
    go_wp2_with fail
    go_loopg [14, 15, 49] m (fun gk s14 s15 s49 wr => ∃ (k : Nat) (A3 : Option Addr) (c3 : Nat), k + gk = m ∧ s49 = .int .i64 ((k : Nat) : Int) ∧ s14 = .slice A3 (mustP vf taken k).length c3 ∧ wr.ownsRow w7.heap.size 3 1 (.slice A3 (mustP vf taken k).length c3) (mustP vf taken k).length ((castL (mustP vf taken k)).flatMap intE) ∧ Below w7.heap.size w7 wr)
    case atStart => exact ⟨0, none, 0, by omega, rfl, rfl, World.ownsRow_nil _ _ _ _, Below.refl _ _⟩
    case round =>
      obtain ⟨k, A3, c3, hgk, rfl, rfl, ho, hb⟩ := hrel
      obtain ⟨wi, rfl⟩ : ∃ wi : World, wi = wr := ⟨_, rfl⟩
      by_cases hlt : k < m
      · have hSi := HSe.out.below hb
        obtain ⟨q0, q1, q2, q3, q4⟩ := hSi.cells
        obtain ⟨f1, f2, f3, f4, f5, f6⟩ := hSi.at_ (k := k + 1) (by omega)
        obtain ⟨d1, d2⟩ := (Hke.out.below hb).at_ (k := k) (by rw [Hkl.out]; exact hlt)
        have i2 : (k : Int) < (m : Int) := by omega
        have i3 : (k : Int) + 1 < (m : Int) + 1 := by omega
        have t1 : ((k : Int) + 1).toNat = k + 1 := by omega
        have hml := mustP_len vf taken k
        have hms := mustP_succ vf taken k
        obtain ⟨y, hy⟩ : ∃ y, v.getD (k + 1) 0 = y := ⟨_, rfl⟩
        rw [hy] at f1
        rw [show vf k = y by rw [Hvf.out, hy]] at hms
        obtain ⟨Mk, hMk⟩ : ∃ Mk, mustP vf taken k = Mk := ⟨_, rfl⟩
        rw [hMk] at hml hms ho ⊢
        obtain ⟨Lk, hLk⟩ : ∃ Lk, Mk.length = Lk := ⟨_, rfl⟩
        rw [hLk] at hml ho ⊢
        have HLk := Lib.hid hLk
        have Ho := Lib.hid ho
        have Hb := Lib.hid hb
        have hsz := hb.size
        clear hSi f2 f3 f4 f5 f6 d2 hMk hLk ho hb hy
        cases htk : taken.getD k false with
        | true =>
          rw [htk] at d1 hms
          have Hms := Lib.hid (show mustP vf taken (k + 1) = Mk by rw [hms]; simp)
          clear hms htk
          go_wp2_with fail
          go_roundg (gk - 1)
          case measure => omega
          case rel => exact ⟨k + 1, A3, c3, by omega, by go_num, by rw [Hms.out, HLk.out], by rw [Hms.out, HLk.out]; exact Ho.out, Hb.out⟩
        | false =>
          rw [htk] at d1 hms
          by_cases hy0 : y < 0
          · have Hms := Lib.hid (show mustP vf taken (k + 1) = Mk ++ [k] by rw [hms, decide_eq_true hy0]; rfl)
            clear hms htk
            go_wp2_with (at_builtin; refine wpList_app rfl (.tmp 68) (.tmp 70) _ rfl elemInt w7.heap.size _ _ _ rfl (Ho.out.kept (World.grownBy_alloc wi _ none) (by cases (Value.slice A3 Lk c3).ownBlock <;> simp)) _ _ _ _ rfl (Sl.new _ _ _ 1 1 rfl) (by simp [Value.oneCell']) (by unfold maxLen; omega) (by omega) (by simp; omega) ?_; intro A4 c4 w8 ho8 hg8 _; have hb8 := below_own (Hb.out.alloc hsz _) (Ho.out.kept (World.grownBy_alloc wi _ none) (by cases (Value.slice A3 Lk c3).ownBlock <;> simp)) (Nat.le_refl _) (by simp; omega) hg8; have HO := Lib.hid (show w8.ownsRow w7.heap.size 3 1 (.slice A4 (Lk + 1) c4) (Lk + 1) ((castL (Mk ++ [k])).flatMap intE) from by rw [castL_snoc, List.flatMap_append]; exact ho8); have HB := Lib.hid hb8; clear ho8 hg8 hb8)
            go_roundg (gk - 1)
            case measure => omega
            case rel => exact ⟨k + 1, A4, c4, by omega, by go_num, by rw [Hms.out, List.length_append, HLk.out]; rfl, by rw [Hms.out, List.length_append, HLk.out]; exact HO.out, HB.out⟩
          · have Hms := Lib.hid (show mustP vf taken (k + 1) = Mk by rw [hms, decide_eq_false hy0]; simp)
            have g3 : decide (y < 0) = false := decide_eq_false hy0
            clear hms htk
            go_wp2_with fail
            go_roundg (gk - 1)
            case measure => omega
            case rel => exact ⟨k + 1, A3, c3, by omega, by go_num, by rw [Hms.out, HLk.out], by rw [Hms.out, HLk.out]; exact Ho.out, Hb.out⟩
      · obtain rfl : m = k := by omega
        rw [HM.out] at ho ⊢
        obtain ⟨Lm, hLm⟩ : ∃ Lm, M.length = Lm := ⟨_, rfl⟩
        rw [hLm] at ho hR ⊢
        have hml := mustP_len vf taken m
        rw [HM.out, hLm] at hml
        have hnd : M.Nodup := by rw [← HM.out]; exact (nodup_range m).filter _
        have Hlt := Lib.hid (show ∀ r ∈ M, r < m from fun r hr => by rw [← HM.out] at hr; exact List.mem_range.1 (List.mem_filter.1 hr).1)
        obtain ⟨K2, hK2⟩ : ∃ K2, kuhn (fun j i => decide (fr ≤ i) && g i j) n M = K2 := ⟨_, rfl⟩
        rw [hK2] at hR
        have HK2 := Lib.hid hK2
        have HLm := Lib.hid hLm
        have HM3 := Lib.hid (SlE.of_own ho (by rw [castL_len, hLm]))
        have H5i := (hb.block b5 (Array.getElem?_eq_some_iff.1 H5e.out).1).trans H5e.out
        have H7i := (hb.block b7 (Array.getElem?_eq_some_iff.1 H7e.out).1).trans H7e.out
        have hmi := Hme.out.at hb hb.size
        have Hba := Lib.hid (below_new wi (.cells #[.int .i64 (m : Int), .int .i64 (n : Int), .func (.func 71) #[] #[.pointer (some ⟨b5, 0, none⟩), .pointer (some ⟨b7, 0, none⟩)]] 83))
        have HBM := Lib.hid ((back_may wi b5 b7 n m fr F caps g hent hmi H5i H7i (by omega)).at Hba.out Hba.out.size)
        have Hbi := Lib.hid (Hbe.out.trans (hb.mono Hbe.out.size))
        have HMa := Lib.hid (HM3.out.below Hba.out)
        clear hLm ho hb H5i H7i hmi hnd hK2
        go_wp2_with fail
        refine (matched_any m n m _ _ (fun j i => decide (fr ≤ i) && g i j) Enters71 _ HBM.out (by omega) (by omega) (by omega) A3 c3 Lm M (by omega) Hlt.out HMa.out).mono ?_
        rw [HK2.out]
        rintro e w9 ⟨bp9, rfl, hb9⟩
        have Hf := Lib.hid (show ∀ t : Bool, decide (K2 = Lm) = t → R (.returned (.bool t)) w9 from fun t ht => hR.out _ _ ⟨by rw [HdK.out, ht]; rfl, (Hbi.out.trans (Hba.out.mono Hbi.out.size)).trans (hb9.mono (Nat.le_trans Hbi.out.size Hba.out.size))⟩)
        clear hb9
        by_cases hE : K2 = Lm
        · have g4 : ((K2 : Int) == Lm) = true := by simp [hE]
          have Hg := Lib.hid (Hf.out true (decide_eq_true hE))
          clear hE
          go_wp2
          exact Hg.out
        · have g4 : ((K2 : Int) == Lm) = false := by simp; omega
          have Hg := Lib.hid (Hf.out false (decide_eq_false hE))
          clear hE
          go_wp2
          exact Hg.out
end Go.Proofs.Ytjdhcdoekfikpaa
