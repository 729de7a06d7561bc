/-
  The contract of clavecinref08.cuts: all that can be done with a rectangle, and what it is worth by a table; conditions: the rectangle lies within the table, whose values are small.
-/
import Derived.Test.YtfkpioibinpfhaaPLeaf3
namespace Go.Proofs.Ytfkpioibinpfhaa
open Go.RowKit

theorem elemCut : ElemOk Try.prog 26 81 2 16 := ElemOk.of (z := .agg #[.int .i64 0, .int .i64 0]) Try.underlying26 (by kernel_rfl) rfl (by omega)
theorem elemInt : ElemOk Try.prog 45 3 1 8 := ElemOk.of (z := .int .i64 0) Try.underlying45 (by kernel_rfl) rfl (by omega)
def wsC (l : List Way) : List Value := (l.map (·.1)).flatMap cutE
def wsV (l : List Way) : List Value := (l.map (·.2)).flatMap intE
theorem wsC_snoc (l : List Way) (c a v : Int) : wsC (l ++ [((c, a), v)]) = wsC l ++ [.int .i64 c, .int .i64 a] := by simp [wsC, cutE]
theorem wsV_snoc (l : List Way) (c a v : Int) : wsV (l ++ [((c, a), v)]) = wsV l ++ [.int .i64 v] := by simp [wsV, intE]
/-- The two lists as they lie. -/
def Two (W : World) (base : Nat) (v1 v2 : Value) (L : Nat) (l : List Way) : Prop := L = l.length ∧ W.ownsRow base 81 2 v1 L (wsC l) ∧ W.ownsRow base 3 1 v2 L (wsV l)
section
variable {W W' w1 w2 : World} {base L : Nat} {v1 v2 v1' v2' : Value} {l : List Way}
theorem Two.alloc (h : Two W base v1 v2 L l) (o : Obj) : Two (W.alloc o) base v1 v2 L l := ⟨h.1, h.2.1.alloc o, h.2.2.alloc o⟩
theorem Two.grown {B : Nat} (h : Two W base v1 v2 L l) (hb : Below B W W') (hB : W.heap.size ≤ B) : Two W' base v1 v2 L l :=
  have hg : W.grownBy W' none := ⟨hb.os, hb.tape, hb.output, hb.size, fun k hk _ => hb.block k (by omega)⟩
  ⟨h.1, h.2.1.kept hg (by cases v1.ownBlock <;> simp), h.2.2.kept hg (by cases v2.ownBlock <;> simp)⟩
theorem Two.after1 (h : Two W base v1 v2 L l) {o : Obj} (hg : (W.alloc o).grownBy w1 v1.ownBlock) : w1.ownsRow base 3 1 v2 L (wsV l) :=
  (h.2.2.alloc o).kept hg (own_ne (h.2.2.alloc o) (h.2.1.alloc o) (by decide))
theorem Two.after2 {c a v : Int} {o : Obj} (h : Two W base v1 v2 L l) (ho1 : w1.ownsRow base 81 2 v1' (L + 1) (wsC l ++ [.int .i64 c, .int .i64 a])) (h2 : w1.ownsRow base 3 1 v2 L (wsV l))
    (ho2 : w2.ownsRow base 3 1 v2' (L + 1) (wsV l ++ [.int .i64 v])) (hg2 : (w1.alloc o).grownBy w2 v2.ownBlock) : Two w2 base v1' v2' (L + 1) (l ++ [((c, a), v)]) :=
  ⟨by rw [h.1]; simp, by rw [wsC_snoc]; exact (ho1.alloc o).kept hg2 (own_ne (ho1.alloc o) (h2.alloc o) (by decide)), by rw [wsV_snoc]; exact ho2⟩
theorem Two.below {B : Nat} {w : World} {o o' : Obj} (hb : Below B w W) (hB : B ≤ base) (hw : B ≤ W.heap.size) (h : Two W base v1 v2 L l) (hg : (W.alloc o).grownBy w1 v1.ownBlock) (h2 : w1.ownsRow base 3 1 v2 L (wsV l)) (hg2 : (w1.alloc o').grownBy w2 v2.ownBlock) : Below B w w2 := by
  have hb1 : Below B w w1 := below_own (hb.alloc hw o) (h.2.1.alloc o) hB (by simp; omega) hg
  have hs : B ≤ w1.heap.size := by have := hg.size; simp at this; omega
  exact below_own (hb1.alloc hs o') (h2.alloc o') hB (by simp; omega) hg2
end
theorem shWs_take (w h : Int) (s : Shp) : ∀ (ss : List Shp) (i k : Nat), ss[k]? = some s → shWs w h i (ss.take (k + 1)) = shWs w h i (ss.take k) ++ shW w h (i + k) s := by
  intro ss
  induction ss with
  | nil => intro i k h; simp at h
  | cons a r ih =>
    intro i k hk
    cases k with
    | zero => simp at hk; subst hk; simp [shWs]
    | succ k =>
      simp only [List.take_succ_cons, shWs, List.append_assoc]
      rw [ih (i + 1) k (by simpa using hk), show i + 1 + k = i + (k + 1) by omega]
theorem asB_false (w h : Int) (s : Shp) : asB w h s false = true ↔ (s.W = w ∧ s.H = h) := by
  simp only [asB, Bool.false_and, Bool.false_or, Bool.not_false, Bool.true_and, Bool.and_eq_true, beq_iff_eq]
  exact ⟨fun ⟨a, b⟩ => ⟨a.symm, b.symm⟩, fun ⟨a, b⟩ => ⟨a.symm, b.symm⟩⟩
theorem asB_true (w h : Int) (s : Shp) : asB w h s true = true ↔ (s.T = true ∧ s.H = w ∧ s.W = h) := by
  simp only [asB, Bool.true_and, Bool.not_true, Bool.false_and, Bool.or_false, Bool.and_eq_true, beq_iff_eq]
  exact ⟨fun ⟨⟨t, a⟩, b⟩ => ⟨t, a.symm, b.symm⟩, fun ⟨t, a, b⟩ => ⟨⟨t, a.symm⟩, b.symm⟩⟩
theorem shW_eq (w h : Int) (i : Nat) (s : Shp) : shW w h i s = (if asB w h s false then [((1, (i : Int)), s.V)] else []) ++ (if asB w h s true then [((2, (i : Int)), s.V)] else []) := by
  unfold shW
  simp only [asB_false, asB_true]
theorem acW_succ (T : Int → Int → Int) (k w h : Int) (n : Nat) : acW T k w h (n + 1) = acW T k w h n ++ [((3, (n : Int) + 1), T ((n : Int) + 1) h + T (w - ((n : Int) + 1) - k) h)] := by
  simp [acW, List.range_succ]
theorem dnW_succ (T : Int → Int → Int) (k w h : Int) (n : Nat) : dnW T k w h (n + 1) = dnW T k w h n ++ [((4, (n : Int) + 1), T w ((n : Int) + 1) + T w (h - ((n : Int) + 1) - k))] := by
  simp [dnW, List.range_succ]
theorem shW_len (w h : Int) (i : Nat) (s : Shp) : (shW w h i s).length ≤ 2 := by
  rw [shW_eq]; split <;> split <;> simp
theorem shWs_len (w h : Int) : ∀ (ss : List Shp) (i : Nat), (shWs w h i ss).length ≤ 2 * ss.length := by
  intro ss
  induction ss with
  | nil => intro i; simp [shWs]
  | cons s r ih => intro i; have := ih (i + 1); have := shW_len w h i s; simp only [shWs, List.length_append, List.length_cons]; omega
/-- What the loops of cuts have gathered. -/
def gat (T : Int → Int → Int) (k : Int) (ss : List Shp) (w h : Int) (i a b : Nat) : List Way := ((0, 0), 0) :: (shWs w h 0 (ss.take i) ++ (acW T k w h a ++ dnW T k w h b))
theorem gat_len (T : Int → Int → Int) (k : Int) (ss : List Shp) (w h : Int) (i a b : Nat) (hs : ss.length ≤ 16) (ha : a ≤ 64) (hb : b ≤ 64) : (gat T k ss w h i a b).length ≤ 161 := by
  have := shWs_len w h (ss.take i) 0
  have := List.length_take_le i ss
  have : (ss.take i).length ≤ 16 := by rw [List.length_take]; omega
  simp only [gat, List.length_cons, List.length_append, acW, dnW, List.length_map, List.length_range]
  omega

theorem one1 (a : Int) : ∀ u ∈ (#[Value.int .i64 a] : Array Value).toList, u.oneCell' = true := by simp [Value.oneCell']
theorem one2 (a b : Int) : ∀ u ∈ (#[Value.int .i64 a, Value.int .i64 b] : Array Value).toList, u.oneCell' = true := by simp [Value.oneCell']
set_option maxHeartbeats 1000000 in
theorem cuts_any (A : Option Addr) (n c : Nat) (rows : List (List Int)) (x y k : Int) (B : Option Addr) (m d : Nat) (ss : List Shp) (w : World)
    (hT : SlR w A n rows) (hS : SlE Shp.enc 4 w B m ss) (hx : 1 ≤ x) (hxn : x ≤ n) (hn : n ≤ 64) (hy : 1 ≤ y) (hyr : ∀ r ∈ rows, y ≤ r.length ∧ r.length ≤ 64) (hk : 0 ≤ k) (hk8 : k ≤ 8) (hss : ss.length ≤ 16)
    (hV : ∀ a b, 0 ≤ tabF rows a b ∧ tabF rows a b ≤ 1000000000000) (hok : ∀ s ∈ ss, 0 ≤ s.V ∧ s.V ≤ 1000000) (hy64 : y ≤ 64) :
    Calls Try.prog 43 #[.slice A n c, .int .i64 x, .int .i64 y, .int .i64 k, .slice B m d] w fun e w' =>
      ∃ v1 v2, e = .returned (.tuple #[v1, v2]) ∧ Two w' w.heap.size v1 v2 (ways (tabF rows) k ss x y).length (ways (tabF rows) k ss x y) ∧ Below w.heap.size w w' := by
  refine calls_cps ?_
  intro R hR
  have hm := Lib.hid hS.1
  have hm16 : m ≤ 16 := by rw [hm.out]; exact hss
  have hwd : Two ((w.alloc (.cells #[.int .i64 0, .int .i64 0] 81)).alloc (.cells #[.int .i64 0] 3)) w.heap.size (.slice (some ⟨w.heap.size, 0, none⟩) 1 1) (.slice (some ⟨w.heap.size + 1, 0, none⟩) 1 1) 1 (gat (tabF rows) k ss x y 0 0 0) :=
    ⟨rfl, (own_new w #[.int .i64 0, .int .i64 0] 81 2 1 w.heap.size rfl (Nat.le_refl _) (by unfold maxLen; omega)).alloc _,
     by
      have h := own_new (w.alloc (.cells #[.int .i64 0, .int .i64 0] 81)) #[.int .i64 0] 3 1 1 w.heap.size rfl (by simp) (by unfold maxLen; omega)
      rw [World.size_alloc] at h
      exact h⟩
  have hbw : Below w.heap.size w ((w.alloc (.cells #[.int .i64 0, .int .i64 0] 81)).alloc (.cells #[.int .i64 0] 3)) := ((Below.refl _ _).alloc (Nat.le_refl _) _).alloc (by simp) _
  go_enter Try.func43, Try.ntmps43
  go_wp2_with fail
  go_loopw [12, 13, 14, 15, 16] (fun v1 v2 i _ _ wr => ∃ (j L : Nat) (A1 A2 : Option Addr) (c1 c2 : Nat), j ≤ m ∧ i = .int .i64 j ∧ v1 = .slice A1 L c1 ∧ v2 = .slice A2 L c2 ∧ Two wr w.heap.size (.slice A1 L c1) (.slice A2 L c2) L (gat (tabF rows) k ss x y j 0 0) ∧ Below w.heap.size w wr) (fun _ _ i _ _ _ => m - (intOf i).toNat)
  case atStart => exact ⟨0, 1, _, _, _, _, Nat.zero_le _, rfl, rfl, rfl, hwd, hbw⟩
  case round =>
    obtain ⟨j, L, A1, A2, c1, c2, hj, rfl, rfl, rfl, h2, hb⟩ := hrel
    by_cases hlt : j < m
    · obtain ⟨b, o, s, rfl, hbl, hs, hq⟩ := hS.at4 hlt
      have Hs := Lib.hid hs
      clear hs
      have HQ := Lib.hid (show ∀ W, Below w.heap.size w W → W.cell? ⟨b, o + j * 4, none⟩ = some (.int .i64 s.W) ∧ W.cell? ⟨b, o + j * 4 + 1, none⟩ = some (.int .i64 s.H) ∧ W.cell? ⟨b, o + j * 4 + 2, none⟩ = some (.int .i64 s.V) ∧ W.cell? ⟨b, o + j * 4 + 3, none⟩ = some (.bool s.T) from
        fun W h => ⟨(h.cell (p := ⟨b, _, none⟩) hbl).trans hq.1, (h.cell (p := ⟨b, _, none⟩) hbl).trans hq.2.1, (h.cell (p := ⟨b, _, none⟩) hbl).trans hq.2.2.1, (h.cell (p := ⟨b, _, none⟩) hbl).trans hq.2.2.2⟩)
      clear hq
      have hL : L ≤ 161 := by rw [h2.1]; exact gat_len _ _ _ _ _ _ _ _ hss (by omega) (by omega)
      obtain ⟨q0, q1, q2, q3⟩ := HQ.out _ hb
      have hv0 : 0 ≤ s.V := (hok s (List.mem_of_getElem? Hs.out)).1
      obtain ⟨b1, hb1⟩ : ∃ b, asB x y s false = b := ⟨_, rfl⟩
      obtain ⟨b2, hb2⟩ : ∃ b, asB x y s true = b := ⟨_, rfl⟩
      have HN := Lib.hid (show gat (tabF rows) k ss x y (j + 1) 0 0 = gat (tabF rows) k ss x y j 0 0 ++ ((if b1 then [((1, (j : Int)), asV x y s false)] else []) ++ (if b2 then [((2, (j : Int)), asV x y s true)] else [])) from by
        simp only [gat, shWs_take x y s ss 0 j Hs.out, shW_eq, hb1, hb2, asV, acW, dnW]
        cases b1 <;> cases b2 <;> simp)
      cases b1 <;> cases b2
      · have e1 : asV x y s false < 0 := by rw [asV, hb1]; exact Int.negSucc_lt_zero 0
        have e2 : asV x y s true < 0 := by rw [asV, hb2]; exact Int.negSucc_lt_zero 0
        clear hb1 hb2
        go_wp2_with (first
          | (go_at_call 49; refine (as_any _ _ s _ _).mono ?_; rintro e w' ⟨rfl, hbe⟩; have h2 := h2.grown hbe (Nat.le_refl _); have hb := hb.trans (hbe.mono hb.size); obtain ⟨q0, q1, q2, q3⟩ := HQ.out _ hb)
          | (at_builtin; refine wpList_app rfl (.tmp 37) (.tmp 40) _ rfl elemCut w.heap.size _ _ _ rfl (h2.2.1.alloc _) _ _ _ _ rfl (Sl.new _ _ _ 2 1 rfl) (one2 _ _) (by unfold maxLen; omega) (by omega) (by have := hb.size; simp; omega) ?_; intro A1' c1' w1 ho1 hg1 _)
          | (at_builtin; refine wpList_app rfl (.tmp 42) (.tmp 44) _ rfl elemInt w.heap.size _ _ _ rfl ((h2.after1 hg1).alloc _) _ _ _ _ rfl (Sl.new _ _ _ 1 1 rfl) (one1 _) (by unfold maxLen; omega) (by omega) (by have := hb.size; have := hg1.size; simp at this ⊢; omega) ?_; intro A2' c2' w2 ho2 hg2 _; have hb := Two.below hb (Nat.le_refl _) hb.size h2 hg1 (h2.after1 hg1) hg2; have h2 := h2.after2 ho1 (h2.after1 hg1) ho2 hg2; obtain ⟨q0, q1, q2, q3⟩ := HQ.out _ hb; clear ho1 hg1 ho2 hg2)
          | (at_builtin; refine wpList_app rfl (.tmp 55) (.tmp 58) _ rfl elemCut w.heap.size _ _ _ rfl (h2.2.1.alloc _) _ _ _ _ rfl (Sl.new _ _ _ 2 1 rfl) (one2 _ _) (by unfold maxLen; omega) (by omega) (by have := hb.size; simp; omega) ?_; intro A1' c1' w1 ho1 hg1 _)
          | (at_builtin; refine wpList_app rfl (.tmp 60) (.tmp 62) _ rfl elemInt w.heap.size _ _ _ rfl ((h2.after1 hg1).alloc _) _ _ _ _ rfl (Sl.new _ _ _ 1 1 rfl) (one1 _) (by unfold maxLen; omega) (by omega) (by have := hb.size; have := hg1.size; simp at this ⊢; omega) ?_; intro A2' c2' w2 ho2 hg2 _; have hb := Two.below hb (Nat.le_refl _) hb.size h2 hg1 (h2.after1 hg1) hg2; have h2 := h2.after2 ho1 (h2.after1 hg1) ho2 hg2; obtain ⟨q0, q1, q2, q3⟩ := HQ.out _ hb; clear ho1 hg1 ho2 hg2))
        go_roundw
        case rel => exact ⟨j + 1, _, _, _, _, _, by omega, by go_num, rfl, rfl, by rw [HN.out]; simpa using h2, hb⟩
        case measure => simp [intOf]; omega
      · have e1 : asV x y s false < 0 := by rw [asV, hb1]; exact Int.negSucc_lt_zero 0
        have e2 : 0 ≤ asV x y s true := by rw [asV, if_pos hb2]; exact hv0
        clear hb1 hb2
        go_wp2_with (first
          | (go_at_call 49; refine (as_any _ _ s _ _).mono ?_; rintro e w' ⟨rfl, hbe⟩; have h2 := h2.grown hbe (Nat.le_refl _); have hb := hb.trans (hbe.mono hb.size); obtain ⟨q0, q1, q2, q3⟩ := HQ.out _ hb)
          | (at_builtin; refine wpList_app rfl (.tmp 37) (.tmp 40) _ rfl elemCut w.heap.size _ _ _ rfl (h2.2.1.alloc _) _ _ _ _ rfl (Sl.new _ _ _ 2 1 rfl) (one2 _ _) (by unfold maxLen; omega) (by omega) (by have := hb.size; simp; omega) ?_; intro A1' c1' w1 ho1 hg1 _)
          | (at_builtin; refine wpList_app rfl (.tmp 42) (.tmp 44) _ rfl elemInt w.heap.size _ _ _ rfl ((h2.after1 hg1).alloc _) _ _ _ _ rfl (Sl.new _ _ _ 1 1 rfl) (one1 _) (by unfold maxLen; omega) (by omega) (by have := hb.size; have := hg1.size; simp at this ⊢; omega) ?_; intro A2' c2' w2 ho2 hg2 _; have hb := Two.below hb (Nat.le_refl _) hb.size h2 hg1 (h2.after1 hg1) hg2; have h2 := h2.after2 ho1 (h2.after1 hg1) ho2 hg2; obtain ⟨q0, q1, q2, q3⟩ := HQ.out _ hb; clear ho1 hg1 ho2 hg2)
          | (at_builtin; refine wpList_app rfl (.tmp 55) (.tmp 58) _ rfl elemCut w.heap.size _ _ _ rfl (h2.2.1.alloc _) _ _ _ _ rfl (Sl.new _ _ _ 2 1 rfl) (one2 _ _) (by unfold maxLen; omega) (by omega) (by have := hb.size; simp; omega) ?_; intro A1' c1' w1 ho1 hg1 _)
          | (at_builtin; refine wpList_app rfl (.tmp 60) (.tmp 62) _ rfl elemInt w.heap.size _ _ _ rfl ((h2.after1 hg1).alloc _) _ _ _ _ rfl (Sl.new _ _ _ 1 1 rfl) (one1 _) (by unfold maxLen; omega) (by omega) (by have := hb.size; have := hg1.size; simp at this ⊢; omega) ?_; intro A2' c2' w2 ho2 hg2 _; have hb := Two.below hb (Nat.le_refl _) hb.size h2 hg1 (h2.after1 hg1) hg2; have h2 := h2.after2 ho1 (h2.after1 hg1) ho2 hg2; obtain ⟨q0, q1, q2, q3⟩ := HQ.out _ hb; clear ho1 hg1 ho2 hg2))
        go_roundw
        case rel => exact ⟨j + 1, _, _, _, _, _, by omega, by go_num, rfl, rfl, by rw [HN.out]; simpa using h2, hb⟩
        case measure => simp [intOf]; omega
      · have e1 : 0 ≤ asV x y s false := by rw [asV, if_pos hb1]; exact hv0
        have e2 : asV x y s true < 0 := by rw [asV, hb2]; exact Int.negSucc_lt_zero 0
        clear hb1 hb2
        go_wp2_with (first
          | (go_at_call 49; refine (as_any _ _ s _ _).mono ?_; rintro e w' ⟨rfl, hbe⟩; have h2 := h2.grown hbe (Nat.le_refl _); have hb := hb.trans (hbe.mono hb.size); obtain ⟨q0, q1, q2, q3⟩ := HQ.out _ hb)
          | (at_builtin; refine wpList_app rfl (.tmp 37) (.tmp 40) _ rfl elemCut w.heap.size _ _ _ rfl (h2.2.1.alloc _) _ _ _ _ rfl (Sl.new _ _ _ 2 1 rfl) (one2 _ _) (by unfold maxLen; omega) (by omega) (by have := hb.size; simp; omega) ?_; intro A1' c1' w1 ho1 hg1 _)
          | (at_builtin; refine wpList_app rfl (.tmp 42) (.tmp 44) _ rfl elemInt w.heap.size _ _ _ rfl ((h2.after1 hg1).alloc _) _ _ _ _ rfl (Sl.new _ _ _ 1 1 rfl) (one1 _) (by unfold maxLen; omega) (by omega) (by have := hb.size; have := hg1.size; simp at this ⊢; omega) ?_; intro A2' c2' w2 ho2 hg2 _; have hb := Two.below hb (Nat.le_refl _) hb.size h2 hg1 (h2.after1 hg1) hg2; have h2 := h2.after2 ho1 (h2.after1 hg1) ho2 hg2; obtain ⟨q0, q1, q2, q3⟩ := HQ.out _ hb; clear ho1 hg1 ho2 hg2)
          | (at_builtin; refine wpList_app rfl (.tmp 55) (.tmp 58) _ rfl elemCut w.heap.size _ _ _ rfl (h2.2.1.alloc _) _ _ _ _ rfl (Sl.new _ _ _ 2 1 rfl) (one2 _ _) (by unfold maxLen; omega) (by omega) (by have := hb.size; simp; omega) ?_; intro A1' c1' w1 ho1 hg1 _)
          | (at_builtin; refine wpList_app rfl (.tmp 60) (.tmp 62) _ rfl elemInt w.heap.size _ _ _ rfl ((h2.after1 hg1).alloc _) _ _ _ _ rfl (Sl.new _ _ _ 1 1 rfl) (one1 _) (by unfold maxLen; omega) (by omega) (by have := hb.size; have := hg1.size; simp at this ⊢; omega) ?_; intro A2' c2' w2 ho2 hg2 _; have hb := Two.below hb (Nat.le_refl _) hb.size h2 hg1 (h2.after1 hg1) hg2; have h2 := h2.after2 ho1 (h2.after1 hg1) ho2 hg2; obtain ⟨q0, q1, q2, q3⟩ := HQ.out _ hb; clear ho1 hg1 ho2 hg2))
        go_roundw
        case rel => exact ⟨j + 1, _, _, _, _, _, by omega, by go_num, rfl, rfl, by rw [HN.out]; simpa using h2, hb⟩
        case measure => simp [intOf]; omega
      · have e1 : 0 ≤ asV x y s false := by rw [asV, if_pos hb1]; exact hv0
        have e2 : 0 ≤ asV x y s true := by rw [asV, if_pos hb2]; exact hv0
        clear hb1 hb2
        go_wp2_with (first
          | (go_at_call 49; refine (as_any _ _ s _ _).mono ?_; rintro e w' ⟨rfl, hbe⟩; have h2 := h2.grown hbe (Nat.le_refl _); have hb := hb.trans (hbe.mono hb.size); obtain ⟨q0, q1, q2, q3⟩ := HQ.out _ hb)
          | (at_builtin; refine wpList_app rfl (.tmp 37) (.tmp 40) _ rfl elemCut w.heap.size _ _ _ rfl (h2.2.1.alloc _) _ _ _ _ rfl (Sl.new _ _ _ 2 1 rfl) (one2 _ _) (by unfold maxLen; omega) (by omega) (by have := hb.size; simp; omega) ?_; intro A1' c1' w1 ho1 hg1 _)
          | (at_builtin; refine wpList_app rfl (.tmp 42) (.tmp 44) _ rfl elemInt w.heap.size _ _ _ rfl ((h2.after1 hg1).alloc _) _ _ _ _ rfl (Sl.new _ _ _ 1 1 rfl) (one1 _) (by unfold maxLen; omega) (by omega) (by have := hb.size; have := hg1.size; simp at this ⊢; omega) ?_; intro A2' c2' w2 ho2 hg2 _; have hb := Two.below hb (Nat.le_refl _) hb.size h2 hg1 (h2.after1 hg1) hg2; have h2 := h2.after2 ho1 (h2.after1 hg1) ho2 hg2; obtain ⟨q0, q1, q2, q3⟩ := HQ.out _ hb; clear ho1 hg1 ho2 hg2)
          | (at_builtin; refine wpList_app rfl (.tmp 55) (.tmp 58) _ rfl elemCut w.heap.size _ _ _ rfl (h2.2.1.alloc _) _ _ _ _ rfl (Sl.new _ _ _ 2 1 rfl) (one2 _ _) (by unfold maxLen; omega) (by omega) (by have := hb.size; simp; omega) ?_; intro A1' c1' w1 ho1 hg1 _)
          | (at_builtin; refine wpList_app rfl (.tmp 60) (.tmp 62) _ rfl elemInt w.heap.size _ _ _ rfl ((h2.after1 hg1).alloc _) _ _ _ _ rfl (Sl.new _ _ _ 1 1 rfl) (one1 _) (by unfold maxLen; omega) (by omega) (by have := hb.size; have := hg1.size; simp at this ⊢; omega) ?_; intro A2' c2' w2 ho2 hg2 _; have hb := Two.below hb (Nat.le_refl _) hb.size h2 hg1 (h2.after1 hg1) hg2; have h2 := h2.after2 ho1 (h2.after1 hg1) ho2 hg2; obtain ⟨q0, q1, q2, q3⟩ := HQ.out _ hb; clear ho1 hg1 ho2 hg2))
        go_roundw
        case rel => exact ⟨j + 1, _, _, _, _, _, by omega, by go_num, rfl, rfl, by rw [HN.out]; simpa using h2, hb⟩
        case measure => simp [intOf]; omega
    · obtain rfl : j = m := by omega
      obtain ⟨wa, rfl⟩ : ∃ wa : World, wa = wr := ⟨_, rfl⟩
      have Hyr := Lib.hid (show ∀ r ∈ rows, y ≤ r.length ∧ r.length ≤ 9223372036854775807 from fun r hr => ⟨(hyr r hr).1, by have := (hyr r hr).2; omega⟩)
      have HV := Lib.hid hV
      clear hyr hV hwd hbw
      have hjs : ss.take j = ss := by rw [List.take_of_length_le]; rw [hm.out]; exact Nat.le_refl _
      have HJ := Lib.hid hjs
      clear hjs
      go_wp2_with fail
      go_loopw [12, 13, 17] (fun v1 v2 i wr => ∃ (a L : Nat) (A1 A2 : Option Addr) (c1 c2 : Nat), (a : Int) + 1 ≤ x ∧ i = .int .i64 (a + 1) ∧ v1 = .slice A1 L c1 ∧ v2 = .slice A2 L c2 ∧ Two wr w.heap.size (.slice A1 L c1) (.slice A2 L c2) L (gat (tabF rows) k ss x y j a 0) ∧ Below w.heap.size w wr) (fun _ _ i _ => (x - intOf i).toNat)
      case atStart => exact ⟨0, L, _, _, _, _, by omega, rfl, rfl, rfl, h2, hb⟩
      case round =>
        clear h2 hb
        obtain ⟨a, L, A1, A2, c1, c2, ha, rfl, rfl, rfl, h2, hb⟩ := hrel
        have hL : L ≤ 161 := by rw [h2.1]; exact gat_len _ _ _ _ _ _ _ _ hss (by omega) (by omega)
        by_cases hlt : (a : Int) + 1 < x
        · have HN := Lib.hid (show gat (tabF rows) k ss x y j (a + 1) 0 = gat (tabF rows) k ss x y j a 0 ++ [((3, (a : Int) + 1), tabF rows ((a : Int) + 1) y + tabF rows (x - ((a : Int) + 1) - k) y)] from by
            simp [gat, acW_succ, dnW])
          have hv1 := HV.out ((a : Int) + 1) y
          have hv2 := HV.out (x - ((a : Int) + 1) - k) y
          go_wp2_with (first
            | (at_builtin; refine wpList_app rfl (.tmp 69) (.tmp 72) _ rfl elemCut w.heap.size _ _ _ rfl (h2.2.1.alloc _) _ _ _ _ rfl (Sl.new _ _ _ 2 1 rfl) (one2 _ _) (by unfold maxLen; omega) (by omega) (by have := hb.size; simp; omega) ?_; intro A1' c1' w1 ho1 hg1 _; have hb1 := below_own (hb.alloc hb.size _) (h2.2.1.alloc _) (Nat.le_refl _) (by have := hb.size; simp; omega) hg1)
            | (go_at_call 51; refine (part_any _ _ _ rows _ _ _ (hT.below hb1) (by omega) (by omega) Hyr.out (by omega) (by omega)).mono ?_; rintro e w' ⟨rfl, rfl⟩)
            | (at_builtin; refine wpList_app rfl (.tmp 74) (.tmp 88) _ rfl elemInt w.heap.size _ _ _ rfl ((h2.after1 hg1).alloc _) _ _ _ _ rfl (Sl.new _ _ _ 1 1 rfl) (one1 _) (by unfold maxLen; omega) (by omega) (by have := hb.size; have := hg1.size; simp at this ⊢; omega) ?_; intro A2' c2' w2 ho2 hg2 _; have hb := Two.below hb (Nat.le_refl _) hb.size h2 hg1 (h2.after1 hg1) hg2; have h2 := h2.after2 ho1 (h2.after1 hg1) ho2 hg2; clear ho1 hg1 ho2 hg2 hb1))
          go_roundw
          case rel => exact ⟨a + 1, _, _, _, _, _, by omega, by go_num, rfl, rfl, by rw [HN.out]; exact h2, hb⟩
          case measure => simp [intOf]; omega
        · obtain rfl : x = (a : Int) + 1 := by omega
          obtain ⟨wb, rfl⟩ : ∃ wb : World, wb = wr := ⟨_, rfl⟩
          go_wp2_with fail
          go_loopw [12, 13, 18] (fun v1 v2 i wr => ∃ (b L : Nat) (A1 A2 : Option Addr) (c1 c2 : Nat), (b : Int) + 1 ≤ y ∧ i = .int .i64 (b + 1) ∧ v1 = .slice A1 L c1 ∧ v2 = .slice A2 L c2 ∧ Two wr w.heap.size (.slice A1 L c1) (.slice A2 L c2) L (gat (tabF rows) k ss ((a : Int) + 1) y j a b) ∧ Below w.heap.size w wr) (fun _ _ i _ => (y - intOf i).toNat)
          case atStart => exact ⟨0, L, _, _, _, _, by omega, rfl, rfl, rfl, h2, hb⟩
          case round =>
            clear h2 hb hL
            obtain ⟨b, L, A1, A2, c1, c2, hb0, rfl, rfl, rfl, h2, hb⟩ := hrel
            have hL : L ≤ 161 := by rw [h2.1]; exact gat_len _ _ _ _ _ _ _ _ hss (by omega) (by omega)
            by_cases hlt2 : (b : Int) + 1 < y
            · have HN := Lib.hid (show gat (tabF rows) k ss ((a : Int) + 1) y j a (b + 1) = gat (tabF rows) k ss ((a : Int) + 1) y j a b ++ [((4, (b : Int) + 1), tabF rows ((a : Int) + 1) ((b : Int) + 1) + tabF rows ((a : Int) + 1) (y - ((b : Int) + 1) - k))] from by
                simp [gat, dnW_succ])
              have hv1 := HV.out ((a : Int) + 1) ((b : Int) + 1)
              have hv2 := HV.out ((a : Int) + 1) (y - ((b : Int) + 1) - k)
              have Hyr2 := Lib.hid (show ∀ z : Int, z ≤ y → ∀ r ∈ rows, z ≤ r.length ∧ r.length ≤ 9223372036854775807 from fun z hz r hr => ⟨by have := (Hyr.out r hr).1; omega, (Hyr.out r hr).2⟩)
              go_wp2_with (first
            | (at_builtin; refine wpList_app rfl (.tmp 95) (.tmp 98) _ rfl elemCut w.heap.size _ _ _ rfl (h2.2.1.alloc _) _ _ _ _ rfl (Sl.new _ _ _ 2 1 rfl) (one2 _ _) (by unfold maxLen; omega) (by omega) (by have := hb.size; simp; omega) ?_; intro A1' c1' w1 ho1 hg1 _; have hb1 := below_own (hb.alloc hb.size _) (h2.2.1.alloc _) (Nat.le_refl _) (by have := hb.size; simp; omega) hg1)
            | (go_at_call 51; refine (part_any _ _ _ rows _ _ _ (hT.below hb1) (by omega) (by omega) (Hyr2.out _ (by omega)) (by omega) (by omega)).mono ?_; rintro e w' ⟨rfl, rfl⟩)
            | (at_builtin; refine wpList_app rfl (.tmp 100) (.tmp 114) _ rfl elemInt w.heap.size _ _ _ rfl ((h2.after1 hg1).alloc _) _ _ _ _ rfl (Sl.new _ _ _ 1 1 rfl) (one1 _) (by unfold maxLen; omega) (by omega) (by have := hb.size; have := hg1.size; simp at this ⊢; omega) ?_; intro A2' c2' w2 ho2 hg2 _; have hb := Two.below hb (Nat.le_refl _) hb.size h2 hg1 (h2.after1 hg1) hg2; have h2 := h2.after2 ho1 (h2.after1 hg1) ho2 hg2; clear ho1 hg1 ho2 hg2 hb1))
              go_roundw
              case rel => exact ⟨b + 1, _, _, _, _, _, by omega, by go_num, rfl, rfl, by rw [HN.out]; exact h2, hb⟩
              case measure => simp [intOf]; omega
            · obtain rfl : y = (b : Int) + 1 := by omega
              have Hfin := Lib.hid (show R (.returned (.tuple #[.slice A1 L c1, .slice A2 L c2])) wr from by
                have hg : gat (tabF rows) k ss ((a : Int) + 1) ((b : Int) + 1) j a b = ways (tabF rows) k ss ((a : Int) + 1) ((b : Int) + 1) := by
                  rw [gat, HJ.out, ways]
                  congr 3 <;> congr 1 <;> omega
                have hl := h2.1
                rw [hg] at h2 hl
                refine hR.out _ _ ⟨_, _, rfl, ?_, hb⟩
                rw [← hl]
                exact h2)
              go_wp2
              exact Hfin.out
end Go.Proofs.Ytfkpioibinpfhaa
