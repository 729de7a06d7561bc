/-
  Contracts of the law's cut and short; no condition but slices that read and lie within their capacity.
-/
import Derived.Test.YtgmphiklkllnlaaTLiv
import Derived.BigRegion
namespace Go.Proofs.Ytgmphiklkllnlaa
open Go.RowKit
theorem slE_cut {w : World} {A : Option Addr} {n k : Nat} {l : List Int} (h : SlE intE 1 w A n l) (hk : k ≤ n) : SlE intE 1 w A k (l.take k) := by
  refine ⟨by rw [List.length_take, ← h.1]; omega, by rw [flat_length intE_len, List.length_take, ← h.1, Nat.min_eq_left hk], fun h0 => ?_⟩
  obtain ⟨b, o, hA, hb, hc⟩ := h.2.2 (by omega)
  refine ⟨b, o, hA, hb, fun j u hu => hc j u ?_⟩
  rw [← List.take_append_drop k l, List.flatMap_append, List.getElem?_append_left (List.getElem?_eq_some_iff.1 hu).1]
  exact hu
set_option maxRecDepth 100000 in
set_option maxHeartbeats 4000000 in
theorem cut_own (A : Option Addr) (n c : Nat) (l : List Int) (x : Int) (N : Nat) (hx : x = (N : Int)) (hN : N ≤ 600) (w : World) (hA : SlE intE 1 w A n l) (hnc : n ≤ c) (_hc : c ≤ 9223372036854775807) :
    Calls Try.prog 32 #[.slice A n c, .int .i64 x] w fun e w' => ∃ A' c', e = .returned (.slice A' (l.take N).length c') ∧ w'.ownsRow w.heap.size 3 1 (.slice A' (l.take N).length c') (l.take N).length ((l.take N).flatMap intE) ∧ Below w.heap.size w w' := by
  subst hx
  refine calls_cps ?_
  intro R hR
  have hl := hA.1
  have HO := Lib.hid (own_new w #[] 3 1 0 w.heap.size rfl (Nat.le_refl _) (by unfold maxLen; omega))
  by_cases h : N < n
  · have hlen : (l.take N).length = N := by rw [List.length_take, ← hl]; omega
    have HC := Lib.hid (slE_cut hA (k := N) (by omega))
    rw [hlen] at hR
    have i1 : (N : Int) < (n : Int) := by omega
    have i2 : (N : Int) ≤ (c : Int) := by omega
    have Hlen := Lib.hid hlen
    clear hA hl hlen
    go_enter Try.func32, Try.ntmps32
    go_wp2_with (at_builtin; refine wpList_app rfl (.tmp 12) (.tmp 13) _ rfl elemInt w.heap.size _ _ _ rfl HO.out _ _ _ _ rfl (HC.out.2.alloc _) (int_one _) (by unfold maxLen; omega) (by omega) (by simp) ?_; intro A3 c3 w3 ho3 hg3 _; rw [Nat.zero_add, List.nil_append] at ho3; have hb3 := app_below1 rfl hg3; clear hg3)
    exact hR.out _ _ ⟨A3, c3, rfl, ho3, hb3⟩
  · have htk : l.take N = l := List.take_of_length_le (by rw [← hl]; omega)
    rw [htk, ← hl] at hR
    have HC := Lib.hid hA
    have Hl := Lib.hid hl
    have hn66 : n ≤ 600 := by omega
    have i1 : (n : Int) ≤ (N : Int) := by omega
    clear hA hl htk
    go_enter Try.func32, Try.ntmps32
    go_wp2_with (at_builtin; refine wpList_app rfl (.tmp 12) (.tmp 13) _ rfl elemInt w.heap.size _ _ _ rfl HO.out _ _ _ _ rfl (HC.out.2.alloc _) (int_one _) (by unfold maxLen; omega) (by omega) (by simp) ?_; intro A3 c3 w3 ho3 hg3 _; rw [Nat.zero_add, List.nil_append] at ho3; have hb3 := app_below1 rfl hg3; clear hg3)
    exact hR.out _ _ ⟨A3, c3, rfl, ho3, hb3⟩
theorem cells9' {W : World} {b : Nat} {t : TypeId} {u0 u1 u2 u3 u4 u5 u6 u7 u8 : Value} (h : W.heap[b]? = some (.cells #[u0, u1, u2, u3, u4, u5, u6, u7, u8] t (0, 0))) :
    W.cell? ⟨b, 0, none⟩ = some u0 ∧ W.cell? ⟨b, 1, none⟩ = some u1 ∧ W.cell? ⟨b, 2, none⟩ = some u2 ∧ W.cell? ⟨b, 3, none⟩ = some u3 ∧ W.cell? ⟨b, 4, none⟩ = some u4 ∧ W.cell? ⟨b, 5, none⟩ = some u5 ∧ W.cell? ⟨b, 6, none⟩ = some u6 ∧ W.cell? ⟨b, 7, none⟩ = some u7 ∧ W.cell? ⟨b, 8, none⟩ = some u8 ∧ (∀ j, W.frozen? ⟨b, j, none⟩ = false) :=
  ⟨by rw [cell_of_row _ _ 0 _ _ (0, 0) h]; rfl, by rw [cell_of_row _ _ 1 _ _ (0, 0) h]; rfl, by rw [cell_of_row _ _ 2 _ _ (0, 0) h]; rfl, by rw [cell_of_row _ _ 3 _ _ (0, 0) h]; rfl, by rw [cell_of_row _ _ 4 _ _ (0, 0) h]; rfl, by rw [cell_of_row _ _ 5 _ _ (0, 0) h]; rfl, by rw [cell_of_row _ _ 6 _ _ (0, 0) h]; rfl, by rw [cell_of_row _ _ 7 _ _ (0, 0) h]; rfl, by rw [cell_of_row _ _ 8 _ _ (0, 0) h]; rfl, fun j => by simp [World.frozen?, h]⟩
theorem set78 {W : World} {b : Nat} {t : TypeId} {u0 u1 u2 u3 u4 u5 u6 u7 u8 : Value} {A' B' : Option Addr} {n' c' m' d' : Nat} (h : W.heap[b]? = some (.cells #[u0, u1, u2, u3, u4, u5, u6, u7, u8] t (0, 0))) :
    ((W.setCell ⟨b, 7, none⟩ (.slice A' n' c')).setCell ⟨b, 8, none⟩ (.slice B' m' d')).heap[b]? = some (.cells #[u0, u1, u2, u3, u4, u5, u6, .slice A' n' c', .slice B' m' d'] t (0, 0)) := by
  simp only [World.setCell, Array.getElem?_modify, h]
  simp
theorem set78_ne (W : World) (k b : Nat) (u v : Value) (h : k ≠ b) : ((W.setCell ⟨b, 7, none⟩ u).setCell ⟨b, 8, none⟩ v).heap[k]? = W.heap[k]? :=
  (Below.heap_setCell _ ⟨b, 8, none⟩ v k h).trans (Below.heap_setCell W ⟨b, 7, none⟩ u k h)
theorem set78_kx (W : World) (b : Nat) (u v : Value) : Kx (fun j => j = b) W ((W.setCell ⟨b, 7, none⟩ u).setCell ⟨b, 8, none⟩ v) := kx_setg (kx_setg (Kx.refl _ W) 7 u) 8 v
theorem own_bd {W : World} {base e sz n c : Nat} {A : Option Addr} {xs : List Value} (h : W.ownsRow base e sz (.slice A n c) n xs) : ∀ a, A = some a → base ≤ a.block ∧ a.block < W.heap.size := by
  rcases h.2 with ⟨h1, h2⟩ | ⟨g, cap, cur, h1, h2, h3, _⟩
  · simp only [Value.slice.injEq] at h1
    obtain ⟨rfl, _⟩ := h1
    exact fun a ha => by simp at ha
  · simp only [Value.slice.injEq, true_and] at h1
    obtain ⟨rfl, _⟩ := h1
    exact fun a ha => by injection ha with ha; subst ha; exact ⟨h2, (Array.getElem?_eq_some_iff.1 h3).1⟩
def put9 (W : World) (b : Nat) (v0 v1 v2 v3 v4 v5 v6 v7 v8 : Value) : World :=
  ((((((((W.setCell ⟨b, 0, none⟩ v0).setCell ⟨b, 1, none⟩ v1).setCell ⟨b, 2, none⟩ v2).setCell ⟨b, 3, none⟩ v3).setCell ⟨b, 4, none⟩ v4).setCell ⟨b, 5, none⟩ v5).setCell ⟨b, 6, none⟩ v6).setCell ⟨b, 7, none⟩ v7).setCell ⟨b, 8, none⟩ v8
theorem set9 {W : World} {b : Nat} {t : TypeId} {u0 u1 u2 u3 u4 u5 u6 u7 u8 v0 v1 v2 v3 v4 v5 v6 v7 v8 : Value} (h : W.heap[b]? = some (.cells #[u0, u1, u2, u3, u4, u5, u6, u7, u8] t (0, 0))) :
    (put9 W b v0 v1 v2 v3 v4 v5 v6 v7 v8).heap[b]? = some (.cells #[v0, v1, v2, v3, v4, v5, v6, v7, v8] t (0, 0)) := by
  unfold put9
  simp only [World.setCell, Array.getElem?_modify, h]
  simp
theorem kx9 (W : World) (b : Nat) (v0 v1 v2 v3 v4 v5 v6 v7 v8 : Value) : Kx (fun j => j = b) W (put9 W b v0 v1 v2 v3 v4 v5 v6 v7 v8) :=
  kx_setg (kx_setg (kx_setg (kx_setg (kx_setg (kx_setg (kx_setg (kx_setg (kx_setg (Kx.refl _ W) 0 v0) 1 v1) 2 v2) 3 v3) 4 v4) 5 v5) 6 v6) 7 v7) 8 v8
set_option maxRecDepth 8000 in
set_option maxHeartbeats 8000000 in
theorem short_any (x : Rn) (A B : Option Addr) (n c m d : Nat) (fi th : List Int) (w : World) (hF : SlE intE 1 w A n fi) (hT : SlE intE 1 w B m th) (hn : n ≤ c) (hc : c ≤ 9223372036854775807) (hm : m ≤ d) (hd : d ≤ 9223372036854775807) :
    Calls Try.prog 16 #[.agg #[.int .i64 x.N, .int .i64 x.S, .int .i64 x.low, .int .i64 x.high, .int .i64 x.total, .int .i64 x.pure, .int .i64 x.worst, .slice A n c, .slice B m d]] w fun e w' => (∃ A' B' c' d', e = .returned (.agg #[.int .i64 x.N, .int .i64 x.S, .int .i64 x.low, .int .i64 x.high, .int .i64 x.total, .int .i64 x.pure, .int .i64 x.worst, .slice A' (fi.take 40).length c', .slice B' (th.take 40).length d']) ∧
      SlE intE 1 w' A' (fi.take 40).length (fi.take 40) ∧ SlE intE 1 w' B' (th.take 40).length (th.take 40)) ∧ Below w.heap.size w w' := by
  refine calls_cps ?_
  intro R hR
  go_enter Try.func16, Try.ntmps16
  go_wp2_with fail
  obtain ⟨o0, ho0⟩ : ∃ o0, (Obj.cells #[.int .i64 x.N, .int .i64 x.S, .int .i64 x.low, .int .i64 x.high, .int .i64 x.total, .int .i64 x.pure, .int .i64 x.worst, .slice A n c, .slice B m d] 24) = o0 := ⟨_, rfl⟩
  rw [ho0]
  obtain ⟨w0, hw0⟩ : ∃ w0, w.alloc o0 = w0 := ⟨_, rfl⟩
  have hb0 : Below w.heap.size w w0 := by rw [← hw0]; exact below_new w _
  have hcell : w0.heap[w.heap.size]? = some o0 := by rw [← hw0]; exact heap_alloc_new w _
  have hz0 : w0.heap.size = w.heap.size + 1 := by rw [← hw0]; simp
  rw [hw0]
  obtain ⟨b, hb⟩ : ∃ b, w.heap.size = b := ⟨_, rfl⟩
  obtain ⟨W1, hW1⟩ : ∃ W1, w0.alloc (.cells #[.int .i64 0, .int .i64 0, .int .i64 0, .int .i64 0, .int .i64 0, .int .i64 0, .int .i64 0, .slice none 0 0, .slice none 0 0] 24) = W1 := ⟨_, rfl⟩
  have hb1 : Below w.heap.size w W1 := by rw [← hW1]; exact hb0.alloc (by omega) _
  have hcell1 : W1.heap[b]? = some o0 := by rw [← hW1, Below.heap_alloc _ _ _ (by omega), ← hb]; exact hcell
  have hres1 : W1.heap[b + 1]? = some (.cells #[.int .i64 0, .int .i64 0, .int .i64 0, .int .i64 0, .int .i64 0, .int .i64 0, .int .i64 0, .slice none 0 0, .slice none 0 0] 24 (0, 0)) := by
    rw [← hW1, show b + 1 = w0.heap.size by omega]; exact heap_alloc_new w0 _
  have hz1 : W1.heap.size = b + 2 := by rw [← hW1]; simp; omega
  rw [hW1, hb]
  rw [← ho0] at hcell1
  have HF1 := Lib.hid (show SlE intE 1 W1.drew A n fi from (hF.below hb1 : SlE intE 1 W1 A n fi))
  have HT1 := Lib.hid (show SlE intE 1 W1.drew B m th from (hT.below hb1 : SlE intE 1 W1 B m th))
  obtain ⟨F, hFF⟩ : ∃ F, fi.take 40 = F := ⟨_, rfl⟩
  obtain ⟨T, hTT⟩ : ∃ T, th.take 40 = T := ⟨_, rfl⟩
  have hcF := cut_own A n c fi 40 40 rfl (by omega) W1.drew HF1.out hn hc
  have hcT := fun W2 (h : SlE intE 1 W2 B m th) => cut_own B m d th 40 40 rfl (by omega) W2 h hm hd
  rw [hFF] at hcF hR
  simp only [hTT] at hcT hR
  obtain ⟨n1, hn1⟩ : ∃ n1, F.length = n1 := ⟨_, rfl⟩
  obtain ⟨n2, hn2⟩ : ∃ n2, T.length = n2 := ⟨_, rfl⟩
  rw [hn1] at hcF hR
  simp only [hn2] at hcT hR
  have HcF := Lib.hid hcF
  have HcT := Lib.hid hcT
  have Hn1 := Lib.hid hn1
  have Hn2 := Lib.hid hn2
  clear hcF hcT hn1 hn2 hFF hTT
  have hbW : b < W1.drew.heap.size := by show b < W1.heap.size; omega
  have c7 : W1.cell? ⟨b, 7, none⟩ = some (.slice A n c) := by rw [cell_of_row _ _ 7 _ _ (0, 0) hcell1]; rfl
  have c8 : W1.cell? ⟨b, 8, none⟩ = some (.slice B m d) := by rw [cell_of_row _ _ 8 _ _ (0, 0) hcell1]; rfl
  have Hcell1 := Lib.hid hcell1
  have Hres1 := Lib.hid hres1
  rw [hb] at hb1
  have Hb1 := Lib.hid hb1
  have Hb := Lib.hid hb
  clear hW1 hcell hz0 hb0 hw0 ho0 hF hT hb1 hcell1 hres1 hb
  go_region_with (go_at_call 32; first
    | ((with_reducible refine HcF.out.mono ?_); rintro e w2 ⟨A2, c2, rfl, ho2, hb2⟩; have d7 : w2.cell? ⟨b, 7, none⟩ = some (.slice A n c) := (hb2.cell (p := ⟨b, 7, none⟩) hbW).trans c7; have d8 : w2.cell? ⟨b, 8, none⟩ = some (.slice B m d) := (hb2.cell (p := ⟨b, 8, none⟩) hbW).trans c8; have hz2 := hb2.size; have HT2 := Lib.hid (HT1.out.below hb2); have Ho2 := Lib.hid ho2; have Hb2 := Lib.hid hb2; clear ho2 hb2)
    | ((with_reducible refine (HcT.out _ HT2.out).mono ?_); rintro e w3 ⟨B3, c3, rfl, ho3, hb3⟩; have hbW2 : b < w2.heap.size := Nat.lt_of_lt_of_le hbW hz2; have g7 : w3.cell? ⟨b, 7, none⟩ = some (.slice A n c) := (hb3.cell (p := ⟨b, 7, none⟩) hbW2).trans d7; have g8 : w3.cell? ⟨b, 8, none⟩ = some (.slice B m d) := (hb3.cell (p := ⟨b, 8, none⟩) hbW2).trans d8; have hc3 := (hb3.block b hbW2).trans ((Hb2.out.block b hbW).trans Hcell1.out); have f3 : ∀ j, w3.frozen? ⟨b, j, none⟩ = false := (fun j => by simp [World.frozen?, hc3]); have Hc3 := Lib.hid hc3; clear hc3; have Ho3 := Lib.hid ho3; have Hb3 := Lib.hid hb3; clear ho3 hb3))
  all_goals
    have hc4 := set78 (A' := A2) (n' := n1) (c' := c2) (B' := B3) (m' := n2) (d' := c3) Hc3.out
    have hr3 := (Hb3.out.block (b + 1) (by have := Hb2.out.size; have : W1.drew.heap.size = b + 2 := hz1; omega)).trans ((Hb2.out.block (b + 1) (by have : W1.drew.heap.size = b + 2 := hz1; omega)).trans Hres1.out)
    have hr4 := (set78_ne w3 (b + 1) b (.slice A2 n1 c2) (.slice B3 n2 c3) (by omega)).trans hr3
    have hk4 := set78_kx w3 b (.slice A2 n1 c2) (.slice B3 n2 c3)
    obtain ⟨W4, hW4⟩ : ∃ W4, (w3.setCell ⟨b, 7, none⟩ (.slice A2 n1 c2)).setCell ⟨b, 8, none⟩ (.slice B3 n2 c3) = W4 := ⟨_, rfl⟩
    rw [hW4] at hc4 hr4 hk4 ⊢
    obtain ⟨p0, p1, p2, p3, p4, p5, p6, p7, p8, pf⟩ := cells9' hc4
    obtain ⟨q0, q1, q2, q3, q4, q5, q6, q7, q8, qf⟩ := cells9' hr4
    have Hr4 := Lib.hid hr4
    have Hk4 := Lib.hid hk4
    clear hc4 hr4 hr3 hk4 hW4 c7 c8 d7 d8 g7 g8 f3
    go_wp2_with fail
    have hr5 := set9 (v0 := .int .i64 x.N) (v1 := .int .i64 x.S) (v2 := .int .i64 x.low) (v3 := .int .i64 x.high) (v4 := .int .i64 x.total) (v5 := .int .i64 x.pure) (v6 := .int .i64 x.worst) (v7 := .slice A2 n1 c2) (v8 := .slice B3 n2 c3) Hr4.out
    have hk5 := kx9 W4 (b + 1) (.int .i64 x.N) (.int .i64 x.S) (.int .i64 x.low) (.int .i64 x.high) (.int .i64 x.total) (.int .i64 x.pure) (.int .i64 x.worst) (.slice A2 n1 c2) (.slice B3 n2 c3)
    rw [show ∀ W : World, (((((((((W.setCell ⟨b + 1, 0, none⟩ (.int .i64 x.N)).setCell ⟨b + 1, 1, none⟩ (.int .i64 x.S)).setCell ⟨b + 1, 2, none⟩ (.int .i64 x.low)).setCell ⟨b + 1, 3, none⟩ (.int .i64 x.high)).setCell ⟨b + 1, 4, none⟩ (.int .i64 x.total)).setCell ⟨b + 1, 5, none⟩ (.int .i64 x.pure)).setCell ⟨b + 1, 6, none⟩ (.int .i64 x.worst)).setCell ⟨b + 1, 7, none⟩ (.slice A2 n1 c2)).setCell ⟨b + 1, 8, none⟩ (.slice B3 n2 c3)) = put9 W (b + 1) (.int .i64 x.N) (.int .i64 x.S) (.int .i64 x.low) (.int .i64 x.high) (.int .i64 x.total) (.int .i64 x.pure) (.int .i64 x.worst) (.slice A2 n1 c2) (.slice B3 n2 c3) from fun _ => rfl]
    obtain ⟨W5, hW5⟩ : ∃ W5, put9 W4 (b + 1) (.int .i64 x.N) (.int .i64 x.S) (.int .i64 x.low) (.int .i64 x.high) (.int .i64 x.total) (.int .i64 x.pure) (.int .i64 x.worst) (.slice A2 n1 c2) (.slice B3 n2 c3) = W5 := ⟨_, rfl⟩
    rw [hW5] at hr5 hk5 ⊢
    obtain ⟨r0, r1, r2, r3, r4, r5, r6, r7, r8, -⟩ := cells9' hr5
    have hzd : W1.drew.heap.size = b + 2 := hz1
    have hza := Hb2.out.size
    have sA : SlE intE 1 W5 A2 n1 F := slE_kx (slE_kx ((SlE.of_own Ho2.out Hn1.out.symm).below Hb3.out) Hk4.out (fun a ha => by have := (own_bd Ho2.out a ha).1; omega)) hk5 (fun a ha => by have := (own_bd Ho2.out a ha).1; omega)
    have sB : SlE intE 1 W5 B3 n2 T := slE_kx (slE_kx (SlE.of_own Ho3.out Hn2.out.symm) Hk4.out (fun a ha => by have := (own_bd Ho3.out a ha).1; omega)) hk5 (fun a ha => by have := (own_bd Ho3.out a ha).1; omega)
    have hzb := Hb3.out.size
    have hbz : Below b w W5 := Kx.low (Kx.low ((Hb1.out.drew.trans (Hb2.out.mono (by omega))).trans (Hb3.out.mono (by omega))) Hk4.out (fun j hj => by omega) (by omega)) hk5 (fun j hj => by omega) (by have := Hk4.out.size; omega)
    refine bodyPost_ret (v := .agg #[.int .i64 x.N, .int .i64 x.S, .int .i64 x.low, .int .i64 x.high, .int .i64 x.total, .int .i64 x.pure, .int .i64 x.worst, .slice A2 n1 c2, .slice B3 n2 c3]) ?_ rfl (hR.out _ _ ⟨⟨A2, B3, c2, c3, rfl, sA, sB⟩, by rw [Hb.out]; exact hbz⟩)
    simp [results, Try.results16, go_sem, r0, r1, r2, r3, r4, r5, r6, r7, r8]
end Go.Proofs.Ytgmphiklkllnlaa
