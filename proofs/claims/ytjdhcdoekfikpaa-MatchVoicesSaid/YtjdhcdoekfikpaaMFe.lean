/-
  Contracts of match.Best, of the law's lives and table, and the table that a law cuts; each states its condition.
-/
import Derived.Test.YtjdhcdoekfikpaaMFd
namespace Go.Proofs.Ytjdhcdoekfikpaa
section
open Go.RowKit

/-- A matching that is the best one, with its prices. -/
structure Bst (T : List (List Int)) (m : Nat) (l : List Nat) (s : Int) (lu lv : List Int) : Prop where
  best : IsBest T m l s
  opt : Opt T m (fun i => lu.getD i 0) (fun j => lv.getD j 0) l
  du : Duals T m (fun i => lu.getD i 0) (fun j => lv.getD j 0)
  hll : l.length = T.length
  hlu : lu.length = T.length
  hlv : lv.length = m
  sum : s = dual T m (fun i => lu.getD i 0) (fun j => lv.getD j 0)
  ub : ∀ x ∈ lu, 0 ≤ x ∧ x ≤ 64000000000000
  vb : ∀ x ∈ lv, -64000000000000 ≤ x ∧ x ≤ 0
theorem getD_drop1 (l : List Int) (i : Nat) : (l.drop 1).getD i 0 = l.getD (i + 1) 0 := by
  rw [List.getD_eq_getElem?_getD, List.getElem?_drop, List.getD_eq_getElem?_getD, Nat.add_comm]
theorem mem_drop1 {l : List Int} {P : Int → Prop} (h : ∀ i, P (l.getD i 0)) : ∀ x ∈ l.drop 1, P x := by
  intro x hx
  obtain ⟨i, hi, rfl⟩ := List.getElem_of_mem (List.mem_of_mem_drop hx)
  have := h i
  rwa [getD_get _ _ _ hi] at this
theorem bst_of {T : List (List Int)} {m : Nat} {u v : List Int} {s : Int} (h : ChOk T m u v s) (hu : u.length = T.length + 1) (hv : v.length = m + 1) :
    Bst T m (firstF T m (fun i => u.getD (i + 1) 0) (fun j => v.getD (j + 1) 0) (List.range T.length) (List.replicate m false) []) s (u.drop 1) (v.drop 1) := by
  have hb := first_best h.du h.op
  have eu : (fun i => (u.drop 1).getD i 0) = fun i => u.getD (i + 1) 0 := funext fun i => getD_drop1 u i
  have ev : (fun i => (v.drop 1).getD i 0) = fun i => v.getD (i + 1) 0 := funext fun i => getD_drop1 v i
  rw [← h.co] at hb
  have ho := opt_of_cost h.du hb.asg (by rw [hb.cost, h.co])
  exact ⟨hb, by rw [eu, ev]; exact ho, by rw [eu, ev]; exact h.du, ho.len, by simp [hu], by simp [hv], by rw [eu, ev]; exact h.co, mem_drop1 h.ub, mem_drop1 h.vb⟩
theorem Sv.kx {S : Nat → Prop} {W W' : World} {sp n c m bu bv bp bw : Nat} {A : Option Addr} {u v : List Int} {p way : List Nat} (h : Sv W sp A n c m bu bv bp bw u v p way) (hk : Kx S W W') (h0 : ¬ S sp) (h1 : ¬ S bu) (h2 : ¬ S bv) (h3 : ¬ S bp) (h4 : ¬ S bw) :
    Sv W' sp A n c m bu bv bp bw u v p way := ⟨(hk.block sp h.lt h0).trans h.box, h.hu.kx hk h1, h.hv.kx hk h2, h.hp.kx hk h3, h.hw.kx hk h4, h.lu, h.lv, h.lp, h.lw⟩
theorem own_lo {W : World} {base e sz n c : Nat} {A : Option Addr} {xs : List Value} (h : W.ownsRow base e sz (.slice A n c) n xs) : (∀ a, A = some a → base ≤ a.block) ∧ n ≤ c ∧ c ≤ 9223372036854775807 := by
  rcases h.2 with ⟨h1, h2⟩ | ⟨g, cap, cur, h1, h2, _, h4, h5, _⟩
  · simp only [Value.slice.injEq] at h1
    obtain ⟨rfl, rfl, rfl⟩ := h1
    exact ⟨fun a ha => by simp at ha, Nat.le_refl _, by omega⟩
  · simp only [Value.slice.injEq, true_and] at h1
    obtain ⟨rfl, rfl⟩ := h1
    unfold maxLen at h5
    exact ⟨fun a ha => by injection ha with ha; subst ha; exact h2, h4, by omega⟩
theorem slE_kx {S : Nat → Prop} {W W' : World} {A : Option Addr} {n : Nat} {l : List Int} (h : SlE intE 1 W A n l) (hk : Kx S W W') (hs : ∀ a, A = some a → ¬ S a.block) : SlE intE 1 W' A n l :=
  ⟨h.1, h.2.1, fun hn => by
    obtain ⟨b, o, e, hb, hc⟩ := h.2.2 hn
    exact ⟨b, o, e, Nat.lt_of_lt_of_le hb hk.size, fun j u hu => (World.cell?_of_block (w := W) (hk.block b hb (hs _ e))).trans (hc j u hu)⟩⟩
def mzero : Value := .agg #[.slice none 0 0, .slice none 0 0, .slice none 0 0, .int .i64 0]
set_option maxRecDepth 100000 in
set_option maxHeartbeats 4000000 in
theorem best_no (A : Option Addr) (n c : Nat) (T : List (List Int)) (w : World) (hT : SlR w A n T) (hn : n ≤ 9223372036854775807) (hrow : ∀ r ∈ T, r.length ≤ 9223372036854775807) (ht : tabB T = false) :
    Calls Try.prog 22 #[.slice A n c] w fun e w' => e = .returned (.tuple #[.agg #[.slice none 0 0, .slice none 0 0, .slice none 0 0, .int .i64 0], .int .i64 1]) ∧ Below w.heap.size w w' := by
  refine calls_cps ?_
  intro R hR
  have hb := below_new w (.cells #[.slice none 0 0, .slice none 0 0, .slice none 0 0, .int .i64 0] 28)
  have HT := Lib.hid (hT.below hb)
  clear hT
  go_enter Try.func22, Try.ntmps22
  go_wp2_with (go_at_call 36; refine (check_any _ _ _ T _ HT.out hn hrow).mono ?_; rw [ht]; rintro e w1 ⟨rfl, rfl⟩)
  refine bodyPost_ret (v := .tuple #[.agg #[.slice none 0 0, .slice none 0 0, .slice none 0 0, .int .i64 0], .int .i64 1]) ?_ rfl (hR.out _ _ ⟨rfl, hb⟩)
  simp [results, Try.results22, go_sem]
set_option maxRecDepth 100000 in
set_option maxHeartbeats 4000000 in
theorem best_none (A : Option Addr) (n c m : Nat) (T : List (List Int)) (w : World) (hT : SlR w A n T) (hok : TOk T m) (hno : kuhn (gT T) m (List.range n) ≠ n) :
    Calls Try.prog 22 #[.slice A n c] w fun e w' => e = .returned (.tuple #[.agg #[.slice none 0 0, .slice none 0 0, .slice none 0 0, .int .i64 0], .int .i64 6]) ∧ Below w.heap.size w w' := by
  refine calls_cps ?_
  intro R hR
  have hn64 : n ≤ 64 := by rw [hT.1]; exact Nat.le_trans hok.nm hok.m64
  have hrow : ∀ r ∈ T, r.length ≤ 9223372036854775807 := fun r hr => by rw [hok.rect r hr]; have := hok.m64; omega
  have ht : tabB T = true := tabB_iff.2 (by rw [hok.wid]; exact hok)
  have hb := below_new w (.cells #[.slice none 0 0, .slice none 0 0, .slice none 0 0, .int .i64 0] 28)
  have hx := heap_alloc_new w (.cells #[.slice none 0 0, .slice none 0 0, .slice none 0 0, .int .i64 0] 28)
  have HT := Lib.hid (hT.below hb)
  have Hb := Lib.hid hb
  have Hx := Lib.hid hx
  have Hok := Lib.hid hok
  have Hrow := Lib.hid hrow
  have Ht := Lib.hid ht
  have Hno := Lib.hid hno
  clear hT hb hx hok hrow ht hno
  go_enter Try.func22, Try.ntmps22
  go_wp2_with fail
  refine (check_any _ _ _ T _ HT.out (by omega) Hrow.out).mono ?_
  rw [if_pos Ht.out]
  rintro e w0 ⟨rfl, rfl⟩
  go_wp2_with fail
  refine (cheap_no _ _ m _ T _ HT.out Hok.out Hno.out).mono ?_
  rintro e w1 ⟨rfl, hb1⟩
  have hx1 := (hb1.block _ (by simp)).trans Hx.out
  obtain ⟨r0, r1, r2, r3, r4⟩ := cells4 hx1
  have Hb1 := Lib.hid (Hb.out.trans (hb1.mono Hb.out.size))
  clear hb1 hx1
  go_wp2_with fail
  refine bodyPost_ret (v := .tuple #[.agg #[.slice none 0 0, .slice none 0 0, .slice none 0 0, .int .i64 0], .int .i64 6]) ?_ rfl (hR.out _ _ ⟨rfl, ?_⟩)
  · simp [results, Try.results22, go_sem, r0, r1, r2, r3]
  · have h := Hb1.out
    repeat (first | with_reducible exact h | with_reducible refine Below.setCell ?_ (by dsimp only; omega) _)
set_option maxRecDepth 100000 in
set_option maxHeartbeats 16000000 in
theorem best_yes (A : Option Addr) (n c m : Nat) (T : List (List Int)) (w : World) (hT : SlR w A n T) (hok : TOk T m) (hyes : kuhn (gT T) m (List.range n) = n) :
    Calls Try.prog 22 #[.slice A n c] w fun e w' => ∃ (A1 A2 A3 : Option Addr) (c1 c2 c3 : Nat) (l : List Nat) (s : Int) (lu lv : List Int), e = .returned (.tuple #[.agg #[.slice A1 n c1, .slice A2 n c2, .slice A3 m c3, .int .i64 s], .int .i64 0]) ∧ Bst T m l s lu lv ∧
      SlE intE 1 w' A1 n (castL l) ∧ SlE intE 1 w' A2 n lu ∧ SlE intE 1 w' A3 m lv ∧ n ≤ c1 ∧ n ≤ c2 ∧ m ≤ c3 ∧ c1 ≤ 9223372036854775807 ∧ c2 ≤ 9223372036854775807 ∧ c3 ≤ 9223372036854775807 ∧ Below w.heap.size w w' := by
  refine calls_cps ?_
  intro R hR
  have hn64 : n ≤ 64 := by rw [hT.1]; exact Nat.le_trans hok.nm hok.m64
  have hrow : ∀ r ∈ T, r.length ≤ 9223372036854775807 := fun r hr => by rw [hok.rect r hr]; have := hok.m64; omega
  have ht : tabB T = true := tabB_iff.2 (by rw [hok.wid]; exact hok)
  have hn1 : 1 ≤ n := by rw [hT.1]; exact hok.n1
  have hm64 := hok.m64
  have hnm : n ≤ m := by rw [hT.1]; exact hok.nm
  have hb := below_new w (.cells #[.slice none 0 0, .slice none 0 0, .slice none 0 0, .int .i64 0] 28)
  have hx := heap_alloc_new w (.cells #[.slice none 0 0, .slice none 0 0, .slice none 0 0, .int .i64 0] 28)
  have HT0 := Lib.hid hT
  have HT := Lib.hid (hT.below hb)
  have Hn := Lib.hid hT.1
  have Hb := Lib.hid hb
  have Hx := Lib.hid hx
  have Hok := Lib.hid hok
  have Hrow := Lib.hid hrow
  have Ht := Lib.hid ht
  have Hyes := Lib.hid hyes
  clear hT hb hx hok hrow ht hyes
  go_enter Try.func22, Try.ntmps22
  go_wp2_with fail
  refine (check_any _ _ _ T _ HT.out (by omega) Hrow.out).mono ?_
  rw [if_pos Ht.out]
  rintro e w0 ⟨rfl, rfl⟩
  go_wp2_with fail
  refine (cheap_yes _ _ m _ T _ HT.out Hok.out Hyes.out).mono ?_
  rintro e w1 ⟨sp, bu, bv, bp, bw, u, v, p, way, s, rfl, hS, hNe, hCh, hb1⟩
  have hx1 := (hb1.block _ (by simp)).trans Hx.out
  obtain ⟨l0, l1, l2, l3, l4⟩ : w.heap.size + 1 ≤ sp ∧ w.heap.size + 1 ≤ bu ∧ w.heap.size + 1 ≤ bv ∧ w.heap.size + 1 ≤ bp ∧ w.heap.size + 1 ≤ bw := by
    have h0 := hNe.l0; have h1 := hNe.l1; have h2 := hNe.l2; have h3 := hNe.l3; have h4 := hNe.l4
    simp at h0 h1 h2 h3 h4
    omega
  obtain ⟨rb, hrb⟩ : ∃ rb, w.heap.size = rb := ⟨_, rfl⟩
  have Hb1 := Lib.hid (Hb.out.trans (hb1.mono Hb.out.size))
  rw [hrb] at hx1 l0 l1 l2 l3 l4
  have Hx1 := Lib.hid hx1
  have Hrb := Lib.hid hrb
  have HS := Lib.hid hS
  have hrl := (Array.getElem?_eq_some_iff.1 hx1).1
  have Hbst := Lib.hid (bst_of hCh (by rw [← Hn.out]; exact hS.lu) hS.lv)
  have Hub := Lib.hid hCh.ub
  have Hvb := Lib.hid hCh.vb
  obtain ⟨q0, q1, q2, q3, q4⟩ := hS.cells
  have hsl := hS.lt
  have Hlu := Lib.hid (hS.hu.sl (n := n + 1) hS.lu.symm)
  have Hlv := Lib.hid (hS.hv.sl (n := m + 1) hS.lv.symm)
  have hn0 : ¬ n = 0 := by omega
  have hm0 : ¬ m = 0 := by omega
  have i1 : (1 : Int) ≤ (n : Int) + 1 := by omega
  have i2 : (1 : Int) ≤ (m : Int) + 1 := by omega
  clear hS hNe hCh hb1 hx1 hrb q0 q3 q4
  obtain ⟨FT, hFT⟩ : ∃ FT, firstF T m (fun i => u.getD (i + 1) 0) (fun j => v.getD (j + 1) 0) (List.range n) (List.replicate m false) [] = FT := ⟨_, rfl⟩
  have hbst := Hbst.out
  rw [← Hn.out, hFT] at hbst
  have HFT := Lib.hid hFT
  have Hbst2 := Lib.hid hbst
  have HFl := Lib.hid (show FT.length = n by rw [hbst.hll, Hn.out])
  clear hFT hbst
  have HTx := Lib.hid (show ∀ W', Kx (fun j => j = rb) w1 W' → SlR W' A n T from fun W' hk => HT0.out.below (Kx.low Hb1.out hk (by rintro j rfl; rw [Hrb.out]; exact Nat.le_refl _) Hb1.out.size))
  have HSx := Lib.hid (show ∀ W', Kx (fun j => j = rb) w1 W' → Sv W' sp A n c m bu bv bp bw u v p way from fun W' hk => HS.out.kx hk (by omega) (by omega) (by omega) (by omega) (by omega))
  have HUx := Lib.hid (show ∀ W', Kx (fun j => j = rb) w1 W' → SlE intE 1 W' (some ⟨bu, 1, none⟩) n (u.drop 1) from fun W' hk => by
    have h := SlE.drop1 (k := 1) ((HSx.out W' hk).hu.sl (n := n + 1) HS.out.lu.symm) (by omega)
    rw [Nat.zero_add, Nat.add_sub_cancel] at h
    exact h)
  have HVx := Lib.hid (show ∀ W', Kx (fun j => j = rb) w1 W' → SlE intE 1 W' (some ⟨bv, 1, none⟩) m (v.drop 1) from fun W' hk => by
    have h := SlE.drop1 (k := 1) ((HSx.out W' hk).hv.sl (n := m + 1) HS.out.lv.symm) (by omega)
    rw [Nat.zero_add, Nat.add_sub_cancel] at h
    exact h)
  have hsr : sp ≠ rb := by omega
  have Hsr := Lib.hid (show ∀ W', Kx (fun j => j = rb) w1 W' → W'.cell? ⟨sp, 1, none⟩ = some (.slice (some ⟨bu, 0, none⟩) (n + 1) (n + 1)) ∧ W'.cell? ⟨sp, 2, none⟩ = some (.slice (some ⟨bv, 0, none⟩) (m + 1) (m + 1)) from fun W' hk => ⟨(HSx.out W' hk).cells.2.1, (HSx.out W' hk).cells.2.2.1⟩)
  have Hrz := Lib.hid (show ∀ W', Below w1.heap.size w1 W' → W'.heap[rb]? = some (.cells #[.slice none 0 0, .slice none 0 0, .slice none 0 0, .int .i64 0] 28 (0, 0)) from fun W' hb => (hb.block rb hrl).trans Hx1.out)
  have hbz : Kx (fun j => j = rb) w1 w1.drew := (Kx.refl _ w1).drewN 1
  go_wp2_with (rw [Hrb.out])
  go_region_held3 (fun w' => Kx (fun j => j = rb) w1 w' ∧ w'.cell? ⟨sp, 1, none⟩ = some (.slice (some ⟨bu, 0, none⟩) (n + 1) (n + 1)) ∧ w'.cell? ⟨sp, 2, none⟩ = some (.slice (some ⟨bv, 0, none⟩) (m + 1) (m + 1)))
    (first
      | exact ⟨hbz, q1, q2⟩
      | exact ⟨hkf, hkf1, hkf2⟩
      | exact ⟨hka, hka1, hka2⟩
      | exact ⟨hkb, hkb1, hkb2⟩
      | exact ⟨hkz _ _ _ _, Hsr.out _ (hkz _ _ _ _)⟩
      | go_keep)
    (first
    | (go_at_call 48; have hcur := (‹Kx (fun j => j = rb) w1 _ ∧ _›).1; refine (first_any _ sp n c m bu bv bp bw A T u v p way (HSx.out _ hcur) (HTx.out _ hcur) Hok.out Hub.out Hvb.out).mono ?_; rw [HFT.out, HFl.out]; rintro e wf ⟨Af, cf, rfl, hof, hbf⟩; have hkf := hcur.below hbf; have hlf := below_of_drew hbf; obtain ⟨hkf1, hkf2⟩ := Hsr.out wf hkf; clear hcur)
    | (go_at_call 49; have hcur := (‹Kx (fun j => j = rb) w1 _ ∧ _›).1; refine (clone_any ⟨bu, 1, none⟩ n n (u.drop 1) _ (HUx.out _ hcur) (by omega)).mono ?_; rintro e wa ⟨Aa, ca, rfl, hoa, hba⟩; have hka := hcur.below hba; have hla := hlf.trans (hba.mono hlf.size); obtain ⟨hka1, hka2⟩ := Hsr.out wa hka; clear hcur)
    | (go_at_call 49; have hcur := (‹Kx (fun j => j = rb) w1 _ ∧ _›).1; refine (clone_any ⟨bv, 1, none⟩ m m (v.drop 1) _ (HVx.out _ hcur) (by omega)).mono ?_; rintro e wb ⟨Ab, cb, rfl, hob, hbb⟩; have hkb := hcur.below hbb; have hlb := hla.trans (hbb.mono hla.size); obtain ⟨hkb1, hkb2⟩ := Hsr.out wb hkb; obtain ⟨r0, r1, r2, r3, r4⟩ := cells4 (Hrz.out wb hlb); have hkz := fun (v0 v1 v2 v3 : Value) => kx_set (kx_set (kx_set (kx_set hkb (b := rb) rfl 0 v0) (b := rb) rfl 1 v1) (b := rb) rfl 2 v2) (b := rb) rfl 3 v3; clear hcur))
  go_wp2
  have hz := hkz (.slice Af n cf) (.slice Aa n ca) (.slice Ab m cb) (.int .i64 s)
  have hkw : Kx (fun j => j = rb) wb ((((wb.setCell ⟨rb, 0, none⟩ (.slice Af n cf)).setCell ⟨rb, 1, none⟩ (.slice Aa n ca)).setCell ⟨rb, 2, none⟩ (.slice Ab m cb)).setCell ⟨rb, 3, none⟩ (.int .i64 s)) := kx_set (kx_set (kx_set (kx_set (Kx.refl (fun j => j = rb) wb) (b := rb) rfl 0 _) (b := rb) rfl 1 _) (b := rb) rfl 2 _) (b := rb) rfl 3 _
  obtain ⟨of1, of2, of3⟩ := own_lo hof
  obtain ⟨oa1, oa2, oa3⟩ := own_lo hoa
  obtain ⟨ob1, ob2, ob3⟩ := own_lo hob
  have sf := ((SlE.of_own hof (by rw [castL_len, HFl.out])).below hba).below hbb
  have sa := (SlE.of_own hoa (by rw [Hbst2.out.hlu, Hn.out])).below hbb
  have sb := SlE.of_own hob (by rw [Hbst2.out.hlv])
  have szf : w1.heap.size ≤ wf.heap.size := hlf.size
  have sza : w1.heap.size ≤ wa.heap.size := hla.size
  refine bodyPost_ret (v := .tuple #[.agg #[.slice Af n cf, .slice Aa n ca, .slice Ab m cb, .int .i64 s], .int .i64 0]) ?_ rfl (hR.out _ _ ⟨Af, Aa, Ab, cf, ca, cb, FT, s, u.drop 1, v.drop 1, rfl, Hbst2.out, slE_kx sf hkw (fun a ha => ?_), slE_kx sa hkw (fun a ha => ?_), slE_kx sb hkw (fun a ha => ?_), of2, oa2, ob2, of3, oa3, ob3,
    Kx.low Hb1.out hz (by rintro j rfl; rw [Hrb.out]; exact Nat.le_refl _) Hb1.out.size⟩)
  · simp [results, Try.results22, go_sem, r0, r1, r2, r3]
  · have h1 := of1 a ha
    have h2 : w1.drew.heap.size = w1.heap.size := rfl
    omega
  · have h1 := oa1 a ha
    omega
  · have h1 := ob1 a ha
    omega
end
section
open Go.RowKit

set_option maxRecDepth 100000 in
set_option maxHeartbeats 16000000 in
theorem best_fresh (A : Option Addr) (n c m : Nat) (T : List (List Int)) (w : World) (hT : SlR w A n T) (hok : TOk T m) (hyes : kuhn (gT T) m (List.range n) = n) :
    Calls Try.prog 22 #[.slice A n c] w fun e w' => ∃ (A1 A2 A3 : Option Addr) (c1 c2 c3 : Nat) (l : List Nat) (s : Int) (lu lv : List Int), e = .returned (.tuple #[.agg #[.slice A1 n c1, .slice A2 n c2, .slice A3 m c3, .int .i64 s], .int .i64 0]) ∧ Bst T m l s lu lv ∧
      SlE intE 1 w' A1 n (castL l) ∧ SlE intE 1 w' A2 n lu ∧ SlE intE 1 w' A3 m lv ∧ n ≤ c1 ∧ n ≤ c2 ∧ m ≤ c3 ∧ c1 ≤ 9223372036854775807 ∧ c2 ≤ 9223372036854775807 ∧ c3 ≤ 9223372036854775807 ∧ Below w.heap.size w w' ∧ (∀ a, A1 = some a → w.heap.size ≤ a.block) := by
  refine calls_cps ?_
  intro R hR
  have hn64 : n ≤ 64 := by rw [hT.1]; exact Nat.le_trans hok.nm hok.m64
  have hrow : ∀ r ∈ T, r.length ≤ 9223372036854775807 := fun r hr => by rw [hok.rect r hr]; have := hok.m64; omega
  have ht : tabB T = true := tabB_iff.2 (by rw [hok.wid]; exact hok)
  have hn1 : 1 ≤ n := by rw [hT.1]; exact hok.n1
  have hm64 := hok.m64
  have hnm : n ≤ m := by rw [hT.1]; exact hok.nm
  have hb := below_new w (.cells #[.slice none 0 0, .slice none 0 0, .slice none 0 0, .int .i64 0] 28)
  have hx := heap_alloc_new w (.cells #[.slice none 0 0, .slice none 0 0, .slice none 0 0, .int .i64 0] 28)
  have HT0 := Lib.hid hT
  have HT := Lib.hid (hT.below hb)
  have Hn := Lib.hid hT.1
  have Hb := Lib.hid hb
  have Hx := Lib.hid hx
  have Hok := Lib.hid hok
  have Hrow := Lib.hid hrow
  have Ht := Lib.hid ht
  have Hyes := Lib.hid hyes
  clear hT hb hx hok hrow ht hyes
  go_enter Try.func22, Try.ntmps22
  go_wp2_with fail
  refine (check_any _ _ _ T _ HT.out (by omega) Hrow.out).mono ?_
  rw [if_pos Ht.out]
  rintro e w0 ⟨rfl, rfl⟩
  go_wp2_with fail
  refine (cheap_yes _ _ m _ T _ HT.out Hok.out Hyes.out).mono ?_
  rintro e w1 ⟨sp, bu, bv, bp, bw, u, v, p, way, s, rfl, hS, hNe, hCh, hb1⟩
  have hx1 := (hb1.block _ (by simp)).trans Hx.out
  obtain ⟨l0, l1, l2, l3, l4⟩ : w.heap.size + 1 ≤ sp ∧ w.heap.size + 1 ≤ bu ∧ w.heap.size + 1 ≤ bv ∧ w.heap.size + 1 ≤ bp ∧ w.heap.size + 1 ≤ bw := by
    have h0 := hNe.l0; have h1 := hNe.l1; have h2 := hNe.l2; have h3 := hNe.l3; have h4 := hNe.l4
    simp at h0 h1 h2 h3 h4
    omega
  obtain ⟨rb, hrb⟩ : ∃ rb, w.heap.size = rb := ⟨_, rfl⟩
  have Hb1 := Lib.hid (Hb.out.trans (hb1.mono Hb.out.size))
  rw [hrb] at hx1 l0 l1 l2 l3 l4
  have Hx1 := Lib.hid hx1
  have Hrb := Lib.hid hrb
  have HS := Lib.hid hS
  have hrl := (Array.getElem?_eq_some_iff.1 hx1).1
  have Hbst := Lib.hid (bst_of hCh (by rw [← Hn.out]; exact hS.lu) hS.lv)
  have Hub := Lib.hid hCh.ub
  have Hvb := Lib.hid hCh.vb
  obtain ⟨q0, q1, q2, q3, q4⟩ := hS.cells
  have hsl := hS.lt
  have Hlu := Lib.hid (hS.hu.sl (n := n + 1) hS.lu.symm)
  have Hlv := Lib.hid (hS.hv.sl (n := m + 1) hS.lv.symm)
  have hn0 : ¬ n = 0 := by omega
  have hm0 : ¬ m = 0 := by omega
  have i1 : (1 : Int) ≤ (n : Int) + 1 := by omega
  have i2 : (1 : Int) ≤ (m : Int) + 1 := by omega
  clear hS hNe hCh hb1 hx1 hrb q0 q3 q4
  obtain ⟨FT, hFT⟩ : ∃ FT, firstF T m (fun i => u.getD (i + 1) 0) (fun j => v.getD (j + 1) 0) (List.range n) (List.replicate m false) [] = FT := ⟨_, rfl⟩
  have hbst := Hbst.out
  rw [← Hn.out, hFT] at hbst
  have HFT := Lib.hid hFT
  have Hbst2 := Lib.hid hbst
  have HFl := Lib.hid (show FT.length = n by rw [hbst.hll, Hn.out])
  clear hFT hbst
  have HTx := Lib.hid (show ∀ W', Kx (fun j => j = rb) w1 W' → SlR W' A n T from fun W' hk => HT0.out.below (Kx.low Hb1.out hk (by rintro j rfl; rw [Hrb.out]; exact Nat.le_refl _) Hb1.out.size))
  have HSx := Lib.hid (show ∀ W', Kx (fun j => j = rb) w1 W' → Sv W' sp A n c m bu bv bp bw u v p way from fun W' hk => HS.out.kx hk (by omega) (by omega) (by omega) (by omega) (by omega))
  have HUx := Lib.hid (show ∀ W', Kx (fun j => j = rb) w1 W' → SlE intE 1 W' (some ⟨bu, 1, none⟩) n (u.drop 1) from fun W' hk => by
    have h := SlE.drop1 (k := 1) ((HSx.out W' hk).hu.sl (n := n + 1) HS.out.lu.symm) (by omega)
    rw [Nat.zero_add, Nat.add_sub_cancel] at h
    exact h)
  have HVx := Lib.hid (show ∀ W', Kx (fun j => j = rb) w1 W' → SlE intE 1 W' (some ⟨bv, 1, none⟩) m (v.drop 1) from fun W' hk => by
    have h := SlE.drop1 (k := 1) ((HSx.out W' hk).hv.sl (n := m + 1) HS.out.lv.symm) (by omega)
    rw [Nat.zero_add, Nat.add_sub_cancel] at h
    exact h)
  have hsr : sp ≠ rb := by omega
  have Hsr := Lib.hid (show ∀ W', Kx (fun j => j = rb) w1 W' → W'.cell? ⟨sp, 1, none⟩ = some (.slice (some ⟨bu, 0, none⟩) (n + 1) (n + 1)) ∧ W'.cell? ⟨sp, 2, none⟩ = some (.slice (some ⟨bv, 0, none⟩) (m + 1) (m + 1)) from fun W' hk => ⟨(HSx.out W' hk).cells.2.1, (HSx.out W' hk).cells.2.2.1⟩)
  have Hrz := Lib.hid (show ∀ W', Below w1.heap.size w1 W' → W'.heap[rb]? = some (.cells #[.slice none 0 0, .slice none 0 0, .slice none 0 0, .int .i64 0] 28 (0, 0)) from fun W' hb => (hb.block rb hrl).trans Hx1.out)
  have hbz : Kx (fun j => j = rb) w1 w1.drew := (Kx.refl _ w1).drewN 1
  go_wp2_with (rw [Hrb.out])
  go_region_held3 (fun w' => Kx (fun j => j = rb) w1 w' ∧ w'.cell? ⟨sp, 1, none⟩ = some (.slice (some ⟨bu, 0, none⟩) (n + 1) (n + 1)) ∧ w'.cell? ⟨sp, 2, none⟩ = some (.slice (some ⟨bv, 0, none⟩) (m + 1) (m + 1)))
    (first
      | exact ⟨hbz, q1, q2⟩
      | exact ⟨hkf, hkf1, hkf2⟩
      | exact ⟨hka, hka1, hka2⟩
      | exact ⟨hkb, hkb1, hkb2⟩
      | exact ⟨hkz _ _ _ _, Hsr.out _ (hkz _ _ _ _)⟩
      | go_keep)
    (first
    | (go_at_call 48; have hcur := (‹Kx (fun j => j = rb) w1 _ ∧ _›).1; refine (first_any _ sp n c m bu bv bp bw A T u v p way (HSx.out _ hcur) (HTx.out _ hcur) Hok.out Hub.out Hvb.out).mono ?_; rw [HFT.out, HFl.out]; rintro e wf ⟨Af, cf, rfl, hof, hbf⟩; have hkf := hcur.below hbf; have hlf := below_of_drew hbf; obtain ⟨hkf1, hkf2⟩ := Hsr.out wf hkf; clear hcur)
    | (go_at_call 49; have hcur := (‹Kx (fun j => j = rb) w1 _ ∧ _›).1; refine (clone_any ⟨bu, 1, none⟩ n n (u.drop 1) _ (HUx.out _ hcur) (by omega)).mono ?_; rintro e wa ⟨Aa, ca, rfl, hoa, hba⟩; have hka := hcur.below hba; have hla := hlf.trans (hba.mono hlf.size); obtain ⟨hka1, hka2⟩ := Hsr.out wa hka; clear hcur)
    | (go_at_call 49; have hcur := (‹Kx (fun j => j = rb) w1 _ ∧ _›).1; refine (clone_any ⟨bv, 1, none⟩ m m (v.drop 1) _ (HVx.out _ hcur) (by omega)).mono ?_; rintro e wb ⟨Ab, cb, rfl, hob, hbb⟩; have hkb := hcur.below hbb; have hlb := hla.trans (hbb.mono hla.size); obtain ⟨hkb1, hkb2⟩ := Hsr.out wb hkb; obtain ⟨r0, r1, r2, r3, r4⟩ := cells4 (Hrz.out wb hlb); have hkz := fun (v0 v1 v2 v3 : Value) => kx_set (kx_set (kx_set (kx_set hkb (b := rb) rfl 0 v0) (b := rb) rfl 1 v1) (b := rb) rfl 2 v2) (b := rb) rfl 3 v3; clear hcur))
  go_wp2
  have hz := hkz (.slice Af n cf) (.slice Aa n ca) (.slice Ab m cb) (.int .i64 s)
  have hkw : Kx (fun j => j = rb) wb ((((wb.setCell ⟨rb, 0, none⟩ (.slice Af n cf)).setCell ⟨rb, 1, none⟩ (.slice Aa n ca)).setCell ⟨rb, 2, none⟩ (.slice Ab m cb)).setCell ⟨rb, 3, none⟩ (.int .i64 s)) := kx_set (kx_set (kx_set (kx_set (Kx.refl (fun j => j = rb) wb) (b := rb) rfl 0 _) (b := rb) rfl 1 _) (b := rb) rfl 2 _) (b := rb) rfl 3 _
  obtain ⟨of1, of2, of3⟩ := own_lo hof
  obtain ⟨oa1, oa2, oa3⟩ := own_lo hoa
  obtain ⟨ob1, ob2, ob3⟩ := own_lo hob
  have sf := ((SlE.of_own hof (by rw [castL_len, HFl.out])).below hba).below hbb
  have sa := (SlE.of_own hoa (by rw [Hbst2.out.hlu, Hn.out])).below hbb
  have sb := SlE.of_own hob (by rw [Hbst2.out.hlv])
  have szf : w1.heap.size ≤ wf.heap.size := hlf.size
  have sza : w1.heap.size ≤ wa.heap.size := hla.size
  refine bodyPost_ret (v := .tuple #[.agg #[.slice Af n cf, .slice Aa n ca, .slice Ab m cb, .int .i64 s], .int .i64 0]) ?_ rfl (hR.out _ _ ⟨Af, Aa, Ab, cf, ca, cb, FT, s, u.drop 1, v.drop 1, rfl, Hbst2.out, slE_kx sf hkw (fun a ha => ?_), slE_kx sa hkw (fun a ha => ?_), slE_kx sb hkw (fun a ha => ?_), of2, oa2, ob2, of3, oa3, ob3,
    Kx.low Hb1.out hz (by rintro j rfl; rw [Hrb.out]; exact Nat.le_refl _) Hb1.out.size, fun a ha => Nat.le_trans Hb1.out.size (of1 a ha)⟩)
  · simp [results, Try.results22, go_sem, r0, r1, r2, r3]
  · have h1 := of1 a ha
    have h2 : w1.drew.heap.size = w1.heap.size := rfl
    omega
  · have h1 := oa1 a ha
    omega
  · have h1 := ob1 a ha
    omega
end
section
open Go.RowKit

theorem hall_some (A : Option Addr) (n c m : Nat) (T : List (List Int)) (w : World) (hT : SlR w A n T) (hok : TOk T m) (h : kuhn (gT T) m (List.range n) ≠ n) (S : List Nat) (hS : hallF (gT T) m (List.range n) (List.range n) = S) :
    Calls Try.prog 28 #[.slice A n c] w fun e w' => (∃ A' c', e = .returned (.tuple #[.slice A' S.length c', .int .i64 0]) ∧ SlE intE 1 w' A' S.length (castL S) ∧ S.length ≤ c' ∧ c' ≤ 9223372036854775807) ∧ Below w.heap.size w w' := by
  subst hS
  exact (hall_yes A n c m T w hT hok).mono fun _ _ hh => by rw [if_neg h] at hh; exact hh
theorem hall_none (A : Option Addr) (n c m : Nat) (T : List (List Int)) (w : World) (hT : SlR w A n T) (hok : TOk T m) (h : kuhn (gT T) m (List.range n) = n) :
    Calls Try.prog 28 #[.slice A n c] w fun e w' => e = .returned (.tuple #[.slice none 0 0, .int .i64 6]) ∧ Below w.heap.size w w' :=
  (hall_yes A n c m T w hT hok).mono fun _ _ hh => by rw [if_pos h] at hh; exact hh
def T1 : List (List Int) := [[4, 1], [2, 0]]
def T2 : List (List Int) := [[5, -1], [7, -1]]
theorem t1_ok : TOk T1 2 := tabB_iff.1 (by decide +kernel)
theorem t2_ok : TOk T2 2 := tabB_iff.1 (by decide +kernel)
theorem t1_kuhn : kuhn (gT T1) 2 (List.range 2) = 2 := by decide +kernel
theorem t2_kuhn : kuhn (gT T2) 2 (List.range 2) ≠ 2 := by decide +kernel
theorem t2_hall : hallF (gT T2) 2 (List.range 2) (List.range 2) = [0, 1] := by decide +kernel
theorem t1_best : bestO T1 2 = some ([1, 0], 3) := by decide +kernel
theorem t1_bst {l : List Nat} {s : Int} {lu lv : List Int} (h : Bst T1 2 l s lu lv) : l = [1, 0] ∧ s = 3 := IsBest.unique h.best (bestO_some t1_best)
theorem slR_two (w : World) (a b c d : Int) : SlR (((w.alloc (.cells #[.int .i64 a, .int .i64 b] 3)).alloc (.cells #[.int .i64 c, .int .i64 d] 3)).alloc (.cells #[.slice (some ⟨w.heap.size, 0, none⟩) 2 2, .slice (some ⟨w.heap.size + 1, 0, none⟩) 2 2] 26)) (some ⟨w.heap.size + 1 + 1, 0, none⟩) 2 [[a, b], [c, d]] := by
  have b2 := below_new ((w.alloc (.cells #[.int .i64 a, .int .i64 b] 3)).alloc (.cells #[.int .i64 c, .int .i64 d] 3)) (.cells #[.slice (some ⟨w.heap.size, 0, none⟩) 2 2, .slice (some ⟨w.heap.size + 1, 0, none⟩) 2 2] 26)
  have h0 := (b2.block w.heap.size (by simp <;> omega)).trans (heap_two1 w _ _)
  have h1 := (b2.block (w.heap.size + 1) (by simp)).trans (heap_two2 w _ _)
  have h2 := heap_alloc_new ((w.alloc (.cells #[.int .i64 a, .int .i64 b] 3)).alloc (.cells #[.int .i64 c, .int .i64 d] 3)) (.cells #[.slice (some ⟨w.heap.size, 0, none⟩) 2 2, .slice (some ⟨w.heap.size + 1, 0, none⟩) 2 2] 26)
  simp only [World.size_alloc] at h2
  refine ⟨rfl, fun _ => ⟨_, 0, rfl, by simp, fun i r hr => ?_⟩⟩
  rw [Nat.zero_add, cell_of_row _ _ _ _ _ (0, 0) h2]
  match i, hr with
  | 0, hr =>
    simp at hr
    subst hr
    exact ⟨_, _, rfl, slE_of_block (e := 3) h0 rfl⟩
  | 1, hr =>
    simp at hr
    subst hr
    exact ⟨_, _, rfl, slE_of_block (e := 3) h1 rfl⟩
  | i + 2, hr => simp at hr
theorem slR_twoAt {w : World} {g : Nat} (a b c d : Int) (hg : g = w.heap.size) : SlR (((w.alloc (.cells #[.int .i64 a, .int .i64 b] 3)).alloc (.cells #[.int .i64 c, .int .i64 d] 3)).alloc (.cells #[.slice (some ⟨g, 0, none⟩) 2 2, .slice (some ⟨g + 1, 0, none⟩) 2 2] 26)) (some ⟨g + 1 + 1, 0, none⟩) 2 [[a, b], [c, d]] := by
  subst hg; exact slR_two w a b c d
theorem below_three (w : World) (o0 o1 o2 : Obj) : Below w.heap.size w (((w.alloc o0).alloc o1).alloc o2) := (below_two w o0 o1).trans ((below_new _ o2).mono (by simp <;> omega))
theorem slE_pair {w : World} {b : Nat} (x y : Int) (hb : b = w.heap.size) : SlE intE 1 (w.alloc (.cells #[.int .i64 x, .int .i64 y] 3)) (some ⟨b, 0, none⟩) 2 [x, y] := by
  subst hb
  exact slE_of_block (e := 3) (heap_alloc_new w _) rfl
set_option maxRecDepth 100000 in
set_option maxHeartbeats 400000 in
theorem lives_any (w : World) : Calls Try.prog 24 #[] w fun e w' => e = .returned (.bool true) ∧ Below w.heap.size w w' := by
  refine calls_cps ?_
  intro R hR
  go_enter Try.func24, Try.ntmps24
  go_wp2_with fail
  refine (best_yes _ 2 2 2 T1 _ (slR_two w 4 1 2 0) t1_ok t1_kuhn).mono ?_
  rintro e w1 ⟨A1, A2, A3, c1, c2, c3, l, s, lu, lv, rfl, hB, s1, _, _, hc1, hc2, hc3, hd1, hd2, hd3, hb1⟩
  obtain ⟨rfl, rfl⟩ := t1_bst hB
  have Hf1 := Lib.hid ((below_three w _ _ _).trans (hb1.mono (by simp <;> omega)))
  have S1 := Lib.hid (s1.alloc (.cells #[.slice A1 2 c1, .slice A2 2 c2, .slice A3 2 c3, .int .i64 3] 28))
  have X1 := Lib.hid (heap_alloc_new w1 (.cells #[.slice A1 2 c1, .slice A2 2 c2, .slice A3 2 c3, .int .i64 3] 28))
  have Hba := Lib.hid (below_new w1 (.cells #[.slice A1 2 c1, .slice A2 2 c2, .slice A3 2 c3, .int .i64 3] 28))
  clear hB s1 hb1
  go_wp2_with fail
  refine (hall_some _ 2 2 2 T2 _ (slR_twoAt 5 (-1) 7 (-1) (World.size_alloc _ _).symm) t2_ok t2_kuhn [0, 1] t2_hall).mono ?_
  rintro e w2 ⟨⟨A4, c4, rfl, s4, _, _⟩, hb2⟩
  have hx2 := (hb2.block w1.heap.size (by simp <;> omega)).trans (((below_three (w1.alloc (.cells #[.slice A1 2 c1, .slice A2 2 c2, .slice A3 2 c3, .int .i64 3] 28)) _ _ _).block w1.heap.size (by simp)).trans X1.out)
  obtain ⟨r0, r1, r2, r3, r4⟩ := cells4 hx2
  have hba2 := Hba.out.trans (((below_three (w1.alloc (.cells #[.slice A1 2 c1, .slice A2 2 c2, .slice A3 2 c3, .int .i64 3] 28)) _ _ _).trans (hb2.mono (by simp <;> omega))).mono (by simp))
  have S2 := Lib.hid ((S1.out.below (below_three _ _ _ _)).below hb2)
  have Hf2 := Lib.hid (Hf1.out.trans (hba2.mono Hf1.out.size))
  have S4 := Lib.hid s4
  have hsz := hba2.size
  clear hb2 hx2 s4 hba2
  go_wp2_with fail
  refine (same_any A1 _ 2 c1 2 2 [1, 0] [1, 0] _ (S2.out.alloc _) (slE_pair 1 0 rfl) (by omega) (by omega)).mono ?_
  rw [decide_eq_true rfl]
  rintro e w3 ⟨rfl, hq3⟩
  have hb3 : Below w2.heap.size w2 w3 := (below_new w2 _).trans (hq3.below.mono (by simp <;> omega))
  have S5 := Lib.hid (S4.out.below hb3)
  have Hf3 := Lib.hid (Hf2.out.trans (hb3.mono Hf2.out.size))
  clear hq3 hb3 r0 r1 r2 r3 r4
  go_wp2_with fail
  refine (same_any A4 _ 2 c4 2 2 [0, 1] [0, 1] _ (S5.out.alloc _) (slE_pair 0 1 rfl) (by omega) (by omega)).mono ?_
  rw [decide_eq_true rfl]
  rintro e w4 ⟨rfl, hq4⟩
  have hf4 := Hf3.out.trans (((below_new w3 (.cells #[.int .i64 0, .int .i64 1] 3)).trans (hq4.below.mono (by simp <;> omega))).mono Hf3.out.size)
  clear hq4
  go_wp2
  exact hR.out _ _ ⟨rfl, hf4⟩
end
section
open Go.RowKit

theorem elemRow : ElemOk Try.prog 22 26 1 24 := ElemOk.of (z := .slice none 0 0) Try.underlying22 (by kernel_rfl) rfl (by omega)
theorem one1s (a : Option Addr) (n c : Nat) : ∀ u ∈ (#[Value.slice a n c] : Array Value).toList, u.oneCell' = true := by simp [Value.oneCell']
theorem own_base' {W : World} {b b' e s n : Nat} {v : Value} {xs : List Value} (h : W.ownsRow b e s v n xs) (hb : b' ≤ b) : W.ownsRow b' e s v n xs := by
  refine ⟨h.1, ?_⟩
  rcases h.2 with h | ⟨g, c, cur, h1, h2, h3⟩
  · exact .inl h
  · exact .inr ⟨g, c, cur, h1, Nat.le_trans hb h2, h3⟩
theorem slE_cut {w : World} {A : Option Addr} {n k : Nat} {l : List Int} (h : SlE intE 1 w A n l) (hk : k ≤ n) : SlE intE 1 w A k (l.take k) := by
  refine ⟨by rw [List.length_take, ← h.1]; omega, by rw [flat_length intE_len, List.length_take, ← h.1, Nat.min_eq_left hk], fun h0 => ?_⟩
  obtain ⟨b, o, hA, hb, hc⟩ := h.2.2 (by omega)
  refine ⟨b, o, hA, hb, fun j u hu => hc j u ?_⟩
  rw [← List.take_append_drop k l, List.flatMap_append, List.getElem?_append_left (List.getElem?_eq_some_iff.1 hu).1]
  exact hu
/-- A table in memory, with its rows' capacities. -/
def SlRc (w : World) (A : Option Addr) (n : Nat) (rows : List (List Int)) : Prop :=
  n = rows.length ∧ (0 < n → ∃ b o, A = some ⟨b, o, none⟩ ∧ b < w.heap.size ∧ ∀ i r, rows[i]? = some r → ∃ Ai ci, w.cell? ⟨b, o + i, none⟩ = some (.slice Ai r.length ci) ∧ r.length ≤ ci ∧ ci ≤ 9223372036854775807 ∧ SlE intE 1 w Ai r.length r)
section
variable {w w' : World} {A : Option Addr} {n k : Nat} {rows : List (List Int)}
theorem SlRc.slr (h : SlRc w A n rows) : SlR w A n rows := ⟨h.1, fun hn => by
  obtain ⟨b, o, e, hb, hc⟩ := h.2 hn
  exact ⟨b, o, e, hb, fun i r hr => by
    obtain ⟨Ai, ci, h1, _, _, h4⟩ := hc i r hr
    exact ⟨Ai, ci, h1, h4⟩⟩⟩
theorem SlRc.at_ (h : SlRc w A n rows) (hk : k < n) : ∃ b o r Ai ci, A = some ⟨b, o, none⟩ ∧ b < w.heap.size ∧ rows[k]? = some r ∧ w.cell? ⟨b, o + k, none⟩ = some (.slice Ai r.length ci) ∧ r.length ≤ ci ∧ ci ≤ 9223372036854775807 ∧ SlE intE 1 w Ai r.length r := by
  obtain ⟨h1, h2⟩ := h
  obtain ⟨b, o, hA, hb, hc⟩ := h2 (by omega)
  have hr : rows[k]? = some (rows[k]'(by omega)) := List.getElem?_eq_getElem (by omega)
  obtain ⟨Ai, ci, a1, a2, a3, a4⟩ := hc k _ hr
  exact ⟨b, o, _, Ai, ci, hA, hb, hr, a1, a2, a3, a4⟩
theorem SlRc.below (h : SlRc w A n rows) (hb : Below w.heap.size w w') : SlRc w' A n rows := ⟨h.1, fun hn => by
  obtain ⟨b, o, e, hl, hc⟩ := h.2 hn
  exact ⟨b, o, e, Nat.lt_of_lt_of_le hl hb.size, fun i r hr => by
    obtain ⟨Ai, ci, h1, h2, h3, h4⟩ := hc i r hr
    exact ⟨Ai, ci, (hb.cell (p := ⟨b, o + i, none⟩) hl).trans h1, h2, h3, h4.below hb⟩⟩⟩
theorem SlRc.rowle (h : SlRc w A n rows) : ∀ r ∈ rows, r.length ≤ 9223372036854775807 := fun r hr => by
  obtain ⟨i, hi, rfl⟩ := List.getElem_of_mem hr
  have hn : 0 < n := by rw [h.1]; omega
  obtain ⟨b, o, e, hl, hc⟩ := h.2 hn
  obtain ⟨Ai, ci, _, h2, h3, _⟩ := hc i _ (List.getElem?_eq_getElem hi)
  omega
theorem TblR.slrc {base c : Nat} {eo ei : TypeId} (t : TblR w base eo ei (.slice A n c) n rows) : SlRc w A n rows := by
  obtain ⟨outer, h1, h2, h3⟩ := t
  refine ⟨h1, fun hn => ?_⟩
  obtain ⟨b, c', hv, _, hb⟩ := h2.form hn
  have hA : A = some ⟨b, 0, none⟩ := by injection hv
  subst hA
  refine ⟨b, 0, rfl, hb, fun i r hr => ?_⟩
  obtain ⟨Ai, ci, a, a2, cc⟩ := h3 i r hr
  refine ⟨Ai, ci, ?_, a2, (own_lo cc).2.2, SlE.of_own cc rfl⟩
  rw [Nat.zero_add, h2.cellAt i (by rw [Nat.mul_one]; have := (List.getElem?_eq_some_iff.1 hr).1; omega)]
  exact a
end
def tabL (R C : Nat) (T : List (List Int)) : List (List Int) := (T.take R).map fun r => r.take C
theorem tabL_len (R C : Nat) (T : List (List Int)) : (tabL R C T).length = min R T.length := by simp [tabL]
theorem tabL_take {R C k : Nat} {T : List (List Int)} {r : List Int} (_hk : k < R) (hr : T[k]? = some r) : tabL (k + 1) C T = tabL k C T ++ [r.take C] := by
  obtain ⟨h, rfl⟩ := List.getElem?_eq_some_iff.1 hr
  unfold tabL
  rw [List.take_succ_eq_append_getElem h, List.map_append]
  rfl
set_option maxRecDepth 100000 in
set_option maxHeartbeats 4000000 in
theorem table_any (A : Option Addr) (n c : Nat) (T : List (List Int)) (R C : Nat) (hR66 : R ≤ 66) (hC66 : C ≤ 66) (w : World) (hT : SlRc w A n T) (_hn : n ≤ 9223372036854775807) :
    Calls Try.prog 20 #[.slice A n c, .int .i64 (R : Int), .int .i64 (C : Int)] w fun e w' => ∃ A' c', e = .returned (.slice A' (min R n) c') ∧ TblR w' w.heap.size 26 3 (.slice A' (min R n) c') (min R n) (tabL R C T) ∧ Below w.heap.size w w' := by
  refine calls_cps ?_
  intro K hK
  have HT := Lib.hid hT
  have Hl := Lib.hid hT.1
  clear hT
  go_enter Try.func20, Try.ntmps20
  go_wp2_with fail
  go_loopg [7, 8] (min R n) (fun gk s7 s8 wr => ∃ (k : Nat) (A' : Option Addr) (c' : Nat), k + gk = min R n ∧ s8 = .int .i64 ((k : Nat) : Int) ∧ s7 = .slice A' k c' ∧ TblR wr w.heap.size 26 3 (.slice A' k c') k (tabL k C T) ∧ Below w.heap.size w wr)
  case atStart => exact ⟨0, _, _, by omega, rfl, rfl, ⟨[], by simp [tabL]; exact TblO.start (own_new w #[] 26 1 0 w.heap.size rfl (Nat.le_refl _) (by unfold maxLen; omega))⟩, below_new w _⟩
  case round =>
    obtain ⟨k, A', c', hgk, rfl, rfl, ht, hb⟩ := hrel
    obtain ⟨wi, rfl⟩ : ∃ wi : World, wi = wr := ⟨_, rfl⟩
    by_cases hlt : k < n
    · by_cases hltR : k < R
      · obtain ⟨b, o, r, Ai, ci, rfl, hbl, hr, hcell, hc1, hc2, hsl⟩ := (HT.out.below hb).at_ hlt
        have i1 : (k : Int) < (n : Int) := by omega
        have i2 : (k : Int) < (R : Int) := by omega
        have Hst := Lib.hid (tabL_take (C := C) hltR hr)
        obtain ⟨l, hl⟩ : ∃ l, r.length = l := ⟨_, rfl⟩
        rw [hl] at hcell hsl hc1
        have Hsl := Lib.hid hsl
        have HL := Lib.hid hl
        have hsz := hb.size
        obtain ⟨outer, ht⟩ := ht
        have Ht := Lib.hid ht
        have Hb := Lib.hid hb
        clear hr hl hsl ht hb
        by_cases hlC : C < l
        · have hcut := slE_cut Hsl.out (k := C) (by omega)
          have HC := Lib.hid hcut
          have HtC := Lib.hid (show (r.take C).length = C by rw [List.length_take, HL.out]; omega)
          have i3 : (C : Int) ≤ (ci : Int) := by omega
          have i4 : (C : Int) < (l : Int) := by omega
          clear hcut
          go_wp2_with (first
            | (at_builtin; refine wpList_app rfl (.tmp 34) (.tmp 35) _ rfl elemInt wi.heap.size _ _ _ rfl (own_new wi _ _ 1 0 wi.heap.size rfl (Nat.le_refl _) (by unfold maxLen; omega)) _ _ _ _ rfl (HC.out.2.alloc _) (int_one _) (by unfold maxLen; omega) (by omega) (by simp) ?_; intro A1 c1 w1 ho1 hg1 _; rw [Nat.zero_add, List.nil_append] at ho1; have hb1 : Below wi.heap.size wi w1 := app_below1 rfl hg1)
            | (at_builtin; refine wpList_app rfl (.tmp 33) (.tmp 37) _ rfl elemRow w.heap.size _ _ _ rfl ((Ht.out.below hb1).own.kept (World.grownBy_alloc w1 _ none) (by cases (Value.slice A' k c').ownBlock <;> simp)) _ _ _ _ rfl (Sl.new _ _ _ 1 1 rfl) (one1s _ _ _) (by unfold maxLen; omega) (by omega) (by have := hb1.size; simp; omega) ?_; intro A2 c2 w2 ho2 hg2 _))
          have ht2 := (Ht.out.below (hb1.trans ((below_new w1 (.cells #[.slice A1 C c1] 26)).mono hb1.size))).snoc (by decide) HtC.out ((own_base' ho1 hsz).kept (World.grownBy_alloc w1 _ none) (by cases (Value.slice A1 C c1).ownBlock <;> simp)) (own_lo ho1).2.1 ho2 hg2
          have hb2 : Below w.heap.size w w2 := below_own ((Hb.out.trans (hb1.mono hsz)).alloc (Nat.le_trans hsz hb1.size) (.cells #[.slice A1 C c1] 26)) ((Ht.out.below hb1).own.kept (World.grownBy_alloc w1 _ none) (by cases (Value.slice A' k c').ownBlock <;> simp)) (Nat.le_refl _) (by have := hb1.size; simp <;> omega) hg2
          rw [← Hst.out] at ht2
          have HT2 := Lib.hid ht2
          have HB2 := Lib.hid hb2
          clear ho1 hg1 hb1 ho2 hg2 ht2 hb2
          go_roundg (gk - 1)
          case measure => omega
          case rel => exact ⟨k + 1, A2, c2, by omega, by go_num, rfl, ⟨_, HT2.out⟩, HB2.out⟩
        · have hlC' : l ≤ C := by omega
          have HtC := Lib.hid (show (r.take C).length = l by rw [List.length_take, HL.out]; omega)
          have Hrr := Lib.hid (show r.take C = r from List.take_of_length_le (by rw [HL.out]; exact hlC'))
          have HC := Lib.hid (show SlE intE 1 wi Ai l (r.take C) by rw [Hrr.out]; exact Hsl.out)
          go_wp2_with (first
            | (at_builtin; refine wpList_app rfl (.tmp 34) (.tmp 35) _ rfl elemInt wi.heap.size _ _ _ rfl (own_new wi _ _ 1 0 wi.heap.size rfl (Nat.le_refl _) (by unfold maxLen; omega)) _ _ _ _ rfl (HC.out.2.alloc _) (int_one _) (by unfold maxLen; omega) (by omega) (by simp) ?_; intro A1 c1 w1 ho1 hg1 _; rw [Nat.zero_add, List.nil_append] at ho1; have hb1 : Below wi.heap.size wi w1 := app_below1 rfl hg1)
            | (at_builtin; refine wpList_app rfl (.tmp 33) (.tmp 37) _ rfl elemRow w.heap.size _ _ _ rfl ((Ht.out.below hb1).own.kept (World.grownBy_alloc w1 _ none) (by cases (Value.slice A' k c').ownBlock <;> simp)) _ _ _ _ rfl (Sl.new _ _ _ 1 1 rfl) (one1s _ _ _) (by unfold maxLen; omega) (by omega) (by have := hb1.size; simp; omega) ?_; intro A2 c2 w2 ho2 hg2 _))
          have ht2 := (Ht.out.below (hb1.trans ((below_new w1 (.cells #[.slice A1 l c1] 26)).mono hb1.size))).snoc (by decide) HtC.out ((own_base' ho1 hsz).kept (World.grownBy_alloc w1 _ none) (by cases (Value.slice A1 l c1).ownBlock <;> simp)) (own_lo ho1).2.1 ho2 hg2
          have hb2 : Below w.heap.size w w2 := below_own ((Hb.out.trans (hb1.mono hsz)).alloc (Nat.le_trans hsz hb1.size) (.cells #[.slice A1 l c1] 26)) ((Ht.out.below hb1).own.kept (World.grownBy_alloc w1 _ none) (by cases (Value.slice A' k c').ownBlock <;> simp)) (Nat.le_refl _) (by have := hb1.size; simp <;> omega) hg2
          rw [← Hst.out] at ht2
          have HT2 := Lib.hid ht2
          have HB2 := Lib.hid hb2
          clear ho1 hg1 hb1 ho2 hg2 ht2 hb2
          go_roundg (gk - 1)
          case measure => omega
          case rel => exact ⟨k + 1, A2, c2, by omega, by go_num, rfl, ⟨_, HT2.out⟩, HB2.out⟩
      · have hkR : k = R := by omega
        have hmin : min R n = k := by omega
        have Hf := Lib.hid (hK.out (.returned (.slice A' k c')) wi (by rw [hmin, ← hkR]; exact ⟨A', c', rfl, ht, hb⟩))
        have i1 : (k : Int) < (n : Int) := by omega
        clear ht hb hmin hkR
        go_wp2
        exact Hf.out
    · have hkn : k = n := by omega
      have hmin : min R n = k := by omega
      have htl : tabL R C T = tabL k C T := by unfold tabL; rw [hkn, List.take_of_length_le (by rw [← Hl.out]; omega), List.take_of_length_le (by rw [← Hl.out]; exact Nat.le_refl _)]
      have Hf := Lib.hid (hK.out (.returned (.slice A' k c')) wi (by rw [hmin, htl]; exact ⟨A', c', rfl, ht, hb⟩))
      clear ht hb hmin hkn htl
      go_wp2
      exact Hf.out
end
section
open Go.RowKit

/-- No two rows share a block. -/
def Dst (outer : List Value) : Prop := ∀ (i j : Nat) (Ai Aj : Option Addr) (li lj ci cj : Nat), i ≠ j → outer[i]? = some (Value.slice Ai li ci) → outer[j]? = some (Value.slice Aj lj cj) → ∀ a b, Ai = some a → Aj = some b → a.block ≠ b.block
theorem Dst.nil : Dst [] := fun i j Ai Aj li lj ci cj _ h => by simp at h
theorem Dst.snoc {outer : List Value} {B lr cr : Nat} {Ar : Option Addr} (h : Dst outer) (hlt : ∀ (i : Nat) (Ai : Option Addr) (li ci : Nat), outer[i]? = some (Value.slice Ai li ci) → ∀ a, Ai = some a → a.block < B) (hge : ∀ a, Ar = some a → B ≤ a.block) : Dst (outer ++ [.slice Ar lr cr]) := by
  have key : ∀ (i : Nat) (Ai : Option Addr) (li ci : Nat), (outer ++ [Value.slice Ar lr cr])[i]? = some (Value.slice Ai li ci) → (i < outer.length ∧ outer[i]? = some (Value.slice Ai li ci)) ∨ (i = outer.length ∧ Ai = Ar) := fun i Ai li ci hi => by
    by_cases hl : i < outer.length
    · rw [List.getElem?_append_left hl] at hi; exact .inl ⟨hl, hi⟩
    · have hi' : i = outer.length := by
        have := (List.getElem?_eq_some_iff.1 hi).1
        simp at this; omega
      subst hi'
      simp at hi
      exact .inr ⟨rfl, hi.1.symm⟩
  intro i j Ai Aj li lj ci cj hne hi hj a b ha hb
  rcases key i Ai li ci hi with ⟨_, h1⟩ | ⟨e1, rfl⟩ <;> rcases key j Aj lj cj hj with ⟨_, h2⟩ | ⟨e2, rfl⟩
  · exact h i j _ _ _ _ _ _ hne h1 h2 a b ha hb
  · have h3 := hlt i _ _ _ h1 a ha
    have h4 := hge b hb
    omega
  · have h3 := hlt j _ _ _ h2 b hb
    have h4 := hge a ha
    omega
  · omega
theorem own_bd' {W : World} {base e sz n c : Nat} {A : Option Addr} {xs : List Value} (h : W.ownsRow base e sz (.slice A n c) n xs) : ∀ a, A = some a → base ≤ a.block ∧ a.block < W.heap.size := by
  rcases h.2 with ⟨h1, h2⟩ | ⟨g, cap, cur, h1, h2, h3, _⟩
  · simp only [Value.slice.injEq] at h1
    obtain ⟨rfl, _⟩ := h1
    exact fun a ha => by simp at ha
  · simp only [Value.slice.injEq, true_and] at h1
    obtain ⟨rfl, _⟩ := h1
    exact fun a ha => by injection ha with ha; subst ha; exact ⟨h2, (Array.getElem?_eq_some_iff.1 h3).1⟩
theorem TblO.hd {W : World} {base L : Nat} {eo ei : TypeId} {v : Value} {rows : List (List Int)} {outer : List Value} (t : TblO W base eo ei v L rows outer) {i : Nat} {Ai : Option Addr} {li ci : Nat} (hi : outer[i]? = some (Value.slice Ai li ci)) :
    ∃ r, rows[i]? = some r ∧ li = r.length ∧ W.ownsRow base ei 1 (.slice Ai r.length ci) r.length (r.flatMap intE) := by
  obtain ⟨h1, h2, h3⟩ := t
  have hl : outer.length = rows.length := by have := h2.1; simp at this; omega
  obtain ⟨r, hr⟩ : ∃ r, rows[i]? = some r := ⟨rows[i]'(by rw [← hl]; exact (List.getElem?_eq_some_iff.1 hi).1), List.getElem?_eq_getElem _⟩
  obtain ⟨Ai', ci', a, _, c⟩ := h3 i _ hr
  rw [hi] at a
  simp only [Option.some.injEq, Value.slice.injEq] at a
  obtain ⟨rfl, rfl, rfl⟩ := a
  exact ⟨_, hr, rfl, c⟩
theorem TblO.lt {W : World} {base L : Nat} {eo ei : TypeId} {v : Value} {rows : List (List Int)} {outer : List Value} (t : TblO W base eo ei v L rows outer) : ∀ (i : Nat) (Ai : Option Addr) (li ci : Nat), outer[i]? = some (Value.slice Ai li ci) → ∀ a, Ai = some a → a.block < W.heap.size := fun i Ai li ci hi a ha => by
  obtain ⟨r, _, _, ho⟩ := t.hd hi
  exact (own_bd' ho a ha).2
set_option maxRecDepth 100000 in
set_option maxHeartbeats 4000000 in
theorem table_own (A : Option Addr) (n c : Nat) (T : List (List Int)) (R C : Nat) (hR66 : R ≤ 66) (hC66 : C ≤ 66) (w : World) (hT : SlRc w A n T) (_hn : n ≤ 9223372036854775807) :
    Calls Try.prog 20 #[.slice A n c, .int .i64 (R : Int), .int .i64 (C : Int)] w fun e w' => ∃ A' c', e = .returned (.slice A' (min R n) c') ∧ (∃ outer, TblO w' w.heap.size 26 3 (.slice A' (min R n) c') (min R n) (tabL R C T) outer ∧ Dst outer) ∧ Below w.heap.size w w' := by
  refine calls_cps ?_
  intro K hK
  have HT := Lib.hid hT
  have Hl := Lib.hid hT.1
  clear hT
  go_enter Try.func20, Try.ntmps20
  go_wp2_with fail
  go_loopg [7, 8] (min R n) (fun gk s7 s8 wr => ∃ (k : Nat) (A' : Option Addr) (c' : Nat), k + gk = min R n ∧ s8 = .int .i64 ((k : Nat) : Int) ∧ s7 = .slice A' k c' ∧ (∃ outer, TblO wr w.heap.size 26 3 (.slice A' k c') k (tabL k C T) outer ∧ Dst outer) ∧ Below w.heap.size w wr)
  case atStart => exact ⟨0, _, _, by omega, rfl, rfl, ⟨[], by simp [tabL]; exact TblO.start (own_new w #[] 26 1 0 w.heap.size rfl (Nat.le_refl _) (by unfold maxLen; omega)), Dst.nil⟩, below_new w _⟩
  case round =>
    obtain ⟨k, A', c', hgk, rfl, rfl, ht, hb⟩ := hrel
    obtain ⟨wi, rfl⟩ : ∃ wi : World, wi = wr := ⟨_, rfl⟩
    by_cases hlt : k < n
    · by_cases hltR : k < R
      · obtain ⟨b, o, r, Ai, ci, rfl, hbl, hr, hcell, hc1, hc2, hsl⟩ := (HT.out.below hb).at_ hlt
        have i1 : (k : Int) < (n : Int) := by omega
        have i2 : (k : Int) < (R : Int) := by omega
        have Hst := Lib.hid (tabL_take (C := C) hltR hr)
        obtain ⟨l, hl⟩ : ∃ l, r.length = l := ⟨_, rfl⟩
        rw [hl] at hcell hsl hc1
        have Hsl := Lib.hid hsl
        have HL := Lib.hid hl
        have hsz := hb.size
        obtain ⟨outer, ht, hd⟩ := ht
        have Ht := Lib.hid ht
        have Hd := Lib.hid hd
        have Hb := Lib.hid hb
        clear hr hl hsl ht hb hd
        by_cases hlC : C < l
        · have hcut := slE_cut Hsl.out (k := C) (by omega)
          have HC := Lib.hid hcut
          have HtC := Lib.hid (show (r.take C).length = C by rw [List.length_take, HL.out]; omega)
          have i3 : (C : Int) ≤ (ci : Int) := by omega
          have i4 : (C : Int) < (l : Int) := by omega
          clear hcut
          go_wp2_with (first
            | (at_builtin; refine wpList_app rfl (.tmp 34) (.tmp 35) _ rfl elemInt wi.heap.size _ _ _ rfl (own_new wi _ _ 1 0 wi.heap.size rfl (Nat.le_refl _) (by unfold maxLen; omega)) _ _ _ _ rfl (HC.out.2.alloc _) (int_one _) (by unfold maxLen; omega) (by omega) (by simp) ?_; intro A1 c1 w1 ho1 hg1 _; rw [Nat.zero_add, List.nil_append] at ho1; have hb1 : Below wi.heap.size wi w1 := app_below1 rfl hg1)
            | (at_builtin; refine wpList_app rfl (.tmp 33) (.tmp 37) _ rfl elemRow w.heap.size _ _ _ rfl ((Ht.out.below hb1).own.kept (World.grownBy_alloc w1 _ none) (by cases (Value.slice A' k c').ownBlock <;> simp)) _ _ _ _ rfl (Sl.new _ _ _ 1 1 rfl) (one1s _ _ _) (by unfold maxLen; omega) (by omega) (by have := hb1.size; simp; omega) ?_; intro A2 c2 w2 ho2 hg2 _))
          have ht2 := (Ht.out.below (hb1.trans ((below_new w1 (.cells #[.slice A1 C c1] 26)).mono hb1.size))).snoc (by decide) HtC.out ((own_base' ho1 hsz).kept (World.grownBy_alloc w1 _ none) (by cases (Value.slice A1 C c1).ownBlock <;> simp)) (own_lo ho1).2.1 ho2 hg2
          have HD := Lib.hid (Hd.out.snoc (Ht.out.lt) (own_lo ho1).1 (lr := C) (cr := c1))
          have hb2 : Below w.heap.size w w2 := below_own ((Hb.out.trans (hb1.mono hsz)).alloc (Nat.le_trans hsz hb1.size) (.cells #[.slice A1 C c1] 26)) ((Ht.out.below hb1).own.kept (World.grownBy_alloc w1 _ none) (by cases (Value.slice A' k c').ownBlock <;> simp)) (Nat.le_refl _) (by have := hb1.size; simp <;> omega) hg2
          rw [← Hst.out] at ht2
          have HT2 := Lib.hid ht2
          have HB2 := Lib.hid hb2
          clear ho1 hg1 hb1 ho2 hg2 ht2 hb2
          go_roundg (gk - 1)
          case measure => omega
          case rel => exact ⟨k + 1, A2, c2, by omega, by go_num, rfl, ⟨_, HT2.out, HD.out⟩, HB2.out⟩
        · have hlC' : l ≤ C := by omega
          have HtC := Lib.hid (show (r.take C).length = l by rw [List.length_take, HL.out]; omega)
          have Hrr := Lib.hid (show r.take C = r from List.take_of_length_le (by rw [HL.out]; exact hlC'))
          have HC := Lib.hid (show SlE intE 1 wi Ai l (r.take C) by rw [Hrr.out]; exact Hsl.out)
          go_wp2_with (first
            | (at_builtin; refine wpList_app rfl (.tmp 34) (.tmp 35) _ rfl elemInt wi.heap.size _ _ _ rfl (own_new wi _ _ 1 0 wi.heap.size rfl (Nat.le_refl _) (by unfold maxLen; omega)) _ _ _ _ rfl (HC.out.2.alloc _) (int_one _) (by unfold maxLen; omega) (by omega) (by simp) ?_; intro A1 c1 w1 ho1 hg1 _; rw [Nat.zero_add, List.nil_append] at ho1; have hb1 : Below wi.heap.size wi w1 := app_below1 rfl hg1)
            | (at_builtin; refine wpList_app rfl (.tmp 33) (.tmp 37) _ rfl elemRow w.heap.size _ _ _ rfl ((Ht.out.below hb1).own.kept (World.grownBy_alloc w1 _ none) (by cases (Value.slice A' k c').ownBlock <;> simp)) _ _ _ _ rfl (Sl.new _ _ _ 1 1 rfl) (one1s _ _ _) (by unfold maxLen; omega) (by omega) (by have := hb1.size; simp; omega) ?_; intro A2 c2 w2 ho2 hg2 _))
          have ht2 := (Ht.out.below (hb1.trans ((below_new w1 (.cells #[.slice A1 l c1] 26)).mono hb1.size))).snoc (by decide) HtC.out ((own_base' ho1 hsz).kept (World.grownBy_alloc w1 _ none) (by cases (Value.slice A1 l c1).ownBlock <;> simp)) (own_lo ho1).2.1 ho2 hg2
          have HD := Lib.hid (Hd.out.snoc (Ht.out.lt) (own_lo ho1).1 (lr := l) (cr := c1))
          have hb2 : Below w.heap.size w w2 := below_own ((Hb.out.trans (hb1.mono hsz)).alloc (Nat.le_trans hsz hb1.size) (.cells #[.slice A1 l c1] 26)) ((Ht.out.below hb1).own.kept (World.grownBy_alloc w1 _ none) (by cases (Value.slice A' k c').ownBlock <;> simp)) (Nat.le_refl _) (by have := hb1.size; simp <;> omega) hg2
          rw [← Hst.out] at ht2
          have HT2 := Lib.hid ht2
          have HB2 := Lib.hid hb2
          clear ho1 hg1 hb1 ho2 hg2 ht2 hb2
          go_roundg (gk - 1)
          case measure => omega
          case rel => exact ⟨k + 1, A2, c2, by omega, by go_num, rfl, ⟨_, HT2.out, HD.out⟩, HB2.out⟩
      · have hkR : k = R := by omega
        have hmin : min R n = k := by omega
        have Hf := Lib.hid (hK.out (.returned (.slice A' k c')) wi (by rw [hmin, ← hkR]; exact ⟨A', c', rfl, ht, hb⟩))
        have i1 : (k : Int) < (n : Int) := by omega
        clear ht hb hmin hkR
        go_wp2
        exact Hf.out
    · have hkn : k = n := by omega
      have hmin : min R n = k := by omega
      have htl : tabL R C T = tabL k C T := by unfold tabL; rw [hkn, List.take_of_length_le (by rw [← Hl.out]; omega), List.take_of_length_le (by rw [← Hl.out]; exact Nat.le_refl _)]
      have Hf := Lib.hid (hK.out (.returned (.slice A' k c')) wi (by rw [hmin, htl]; exact ⟨A', c', rfl, ht, hb⟩))
      clear ht hb hmin hkn htl
      go_wp2
      exact Hf.out

/-- A table of one's own: its blocks are among P. -/
structure TM (W : World) (P : Nat → Prop) (A : Option Addr) (L c : Nat) (rows : List (List Int)) (hd : List Value) : Prop where
  o : TblO W 0 26 3 (.slice A L c) L rows hd
  d : Dst hd
  oP : ∀ a, A = some a → P a.block
  rP : ∀ (i : Nat) (Ai : Option Addr) (li ci : Nat), hd[i]? = some (Value.slice Ai li ci) → ∀ a, Ai = some a → P a.block
section
variable {W W' : World} {P S : Nat → Prop} {A : Option Addr} {L c : Nat} {rows : List (List Int)} {hd : List Value}
theorem own_zero {W : World} {b e s n : Nat} {v : Value} {xs : List Value} (h : W.ownsRow b e s v n xs) : W.ownsRow 0 e s v n xs := own_base' h (Nat.zero_le _)
theorem TblO.zero {base : Nat} {eo ei : TypeId} {v : Value} (t : TblO W base eo ei v L rows hd) : TblO W 0 eo ei v L rows hd := ⟨t.1, own_zero t.2.1, fun i r hr => by
  obtain ⟨Ai, ci, a, b, c⟩ := t.2.2 i r hr
  exact ⟨Ai, ci, a, b, own_zero c⟩⟩
theorem TM.slr (t : TM W P A L c rows hd) : SlR W A L rows := TblR.slr ⟨hd, t.o⟩
theorem own_kx {base e sz n c : Nat} {A : Option Addr} {xs : List Value} (h : W.ownsRow base e sz (.slice A n c) n xs) (hk : Kx S W W') (hs : ∀ a, A = some a → ¬ S a.block) : W'.ownsRow base e sz (.slice A n c) n xs := by
  refine ⟨h.1, ?_⟩
  rcases h.2 with h1 | ⟨g, cap, cur, h1, h2, h3, h4⟩
  · exact .inl h1
  · simp only [Value.slice.injEq, true_and] at h1
    obtain ⟨rfl, rfl⟩ := h1
    exact .inr ⟨g, _, cur, rfl, h2, (hk.block g (Array.getElem?_eq_some_iff.1 h3).1 (hs _ rfl)).trans h3, h4⟩
theorem TM.kx (t : TM W P A L c rows hd) (hk : Kx S W W') (hS : ∀ j, P j → ¬ S j) : TM W' P A L c rows hd := by
  refine ⟨⟨t.o.1, own_kx t.o.2.1 hk (fun a ha => hS _ (t.oP a ha)), fun i r hr => ?_⟩, t.d, t.oP, t.rP⟩
  obtain ⟨Ai, ci, a, b, c⟩ := t.o.2.2 i r hr
  exact ⟨Ai, ci, a, b, own_kx c hk (fun x hx => hS _ (t.rP i Ai _ ci a x hx))⟩
theorem TM.below (t : TM W P A L c rows hd) (hb : Below W.heap.size W W') : TM W' P A L c rows hd := ⟨t.o.below hb, t.d, t.oP, t.rP⟩
theorem TM.at_ (t : TM W P A L c rows hd) {i : Nat} (hi : i < L) : ∃ b r Ai ci, A = some ⟨b, 0, none⟩ ∧ P b ∧ rows[i]? = some r ∧ hd[i]? = some (Value.slice Ai r.length ci) ∧ W.cell? ⟨b, i, none⟩ = some (.slice Ai r.length ci) ∧ W.ownsRow 0 3 1 (.slice Ai r.length ci) r.length (r.flatMap intE) := by
  obtain ⟨b, c', hv, _, hb⟩ := t.o.2.1.form (by omega)
  have hA : A = some ⟨b, 0, none⟩ := by injection hv
  subst hA
  have hr : rows[i]? = some (rows[i]'(by rw [← t.o.1]; exact hi)) := List.getElem?_eq_getElem _
  obtain ⟨Ai, ci, a, _, o⟩ := t.o.2.2 i _ hr
  refine ⟨b, _, Ai, ci, rfl, t.oP _ rfl, hr, a, ?_, o⟩
  rw [t.o.2.1.cellAt i (by have := (List.getElem?_eq_some_iff.1 a).1; have := t.o.2.1.1; omega)]
  exact a
theorem map_set'' (l : List Int) (k : Nat) (x : Int) : (l.set k x).flatMap intE = (l.flatMap intE).set k (.int .i64 x) := by rw [flat_int, flat_int, map_set']
/-- A store into one cell of the table. -/
theorem TM.set (t : TM W P A L c rows hd) {i g ci : Nat} {r : List Int} (hr : rows[i]? = some r) (hh : hd[i]? = some (Value.slice (some ⟨g, 0, none⟩) r.length ci)) (k : Nat) (x : Int) :
    TM (W.setCell ⟨g, k, none⟩ (.int .i64 x)) P A L c (rows.set i (r.set k x)) hd ∧ Kx P W (W.setCell ⟨g, k, none⟩ (.int .i64 x)) := by
  have hil : i < rows.length := (List.getElem?_eq_some_iff.1 hr).1
  obtain ⟨r', hr', _, ho⟩ := t.o.hd hh
  rw [hr] at hr'
  injection hr' with hr'
  subst hr'
  obtain ⟨s1, s2⟩ := ho.stored k (.int .i64 x)
  have hP := t.rP i _ _ _ hh _ rfl
  refine ⟨⟨⟨by rw [List.length_set]; exact t.o.1, t.o.2.1.kept s2 (own_ne t.o.2.1 ho (by decide)), fun j r2 hr2 => ?_⟩, t.d, t.oP, t.rP⟩, (Kx.refl _ _).grown s2 (fun j hj => .inl (by injection hj with hj; subst hj; exact hP))⟩
  by_cases hji : j = i
  · subst hji
    rw [List.getElem?_set_self hil] at hr2
    injection hr2 with hr2
    subst hr2
    rw [List.length_set, map_set'']
    refine ⟨_, _, hh, ?_, s1⟩
    obtain ⟨Ai, ci', a, b, _⟩ := t.o.2.2 j _ hr
    rw [hh] at a
    simp only [Option.some.injEq, Value.slice.injEq] at a
    obtain ⟨_, _, rfl⟩ := a
    exact b
  · rw [List.getElem?_set_ne (fun e => hji e.symm)] at hr2
    obtain ⟨Aj, cj, a, b, o⟩ := t.o.2.2 j r2 hr2
    refine ⟨Aj, cj, a, b, o.kept s2 ?_⟩
    cases Aj with
    | none => exact .inl rfl
    | some a' =>
      refine .inr ?_
      have := t.d j i _ _ _ _ _ _ hji a hh _ _ rfl rfl
      simpa [Value.ownBlock] using this
end
theorem table_tm (A : Option Addr) (n c : Nat) (T : List (List Int)) (x y : Int) (R C : Nat) (hx : x = (R : Int)) (hy : y = (C : Int)) (hR : R ≤ 66) (hC : C ≤ 66) (w : World) (hT : SlRc w A n T) (hn : n ≤ 9223372036854775807) :
    Calls Try.prog 20 #[.slice A n c, .int .i64 x, .int .i64 y] w fun e w' => ∃ A' c' hd, e = .returned (.slice A' (tabL R C T).length c') ∧ TM w' (fun j => w.heap.size ≤ j ∧ j < w'.heap.size) A' (tabL R C T).length c' (tabL R C T) hd ∧ (tabL R C T).length ≤ 66 ∧ SlRc w' A' (tabL R C T).length (tabL R C T) ∧ Below w.heap.size w w' := by
  subst hx hy
  refine (table_own A n c T R C hR hC w hT hn).mono ?_
  rintro e w' ⟨A', c', rfl, ⟨outer, ht, hd⟩, hb⟩
  have hl : (tabL R C T).length = min R n := by rw [tabL_len, ← hT.1]
  rw [hl]
  exact ⟨A', c', outer, rfl, ⟨ht.zero, hd, own_bd' ht.2.1, fun i Ai li ci hi a ha => by
    obtain ⟨r, _, rfl, ho⟩ := ht.hd hi
    exact own_bd' ho a ha⟩, by omega, TblR.slrc ⟨outer, ht⟩, hb⟩
/-- A table by its entries. -/
def tabF (L m : Nat) (f : Nat → Nat → Int) : List (List Int) := (List.range L).map fun a => (List.range m).map (f a)
theorem tabF_len (L m : Nat) (f : Nat → Nat → Int) : (tabF L m f).length = L := by simp [tabF]
theorem tabF_row {L m i : Nat} {f : Nat → Nat → Int} (hi : i < L) : (tabF L m f)[i]? = some ((List.range m).map (f i)) := by simp [tabF, hi]
theorem ct_tabF {L m i j : Nat} {f : Nat → Nat → Int} (hi : i < L) (hj : j < m) : ct (tabF L m f) i j = f i j := by
  unfold ct
  rw [List.getD_eq_getElem?_getD (l := tabF L m f), tabF_row hi, Option.getD_some, List.getD_eq_getElem?_getD, List.getElem?_map, List.getElem?_range hj]
  rfl
theorem tabF_congr {L m : Nat} {f g : Nat → Nat → Int} (h : ∀ a, a < L → ∀ b, b < m → f a b = g a b) : tabF L m f = tabF L m g := by
  unfold tabF
  refine List.map_congr_left fun a ha => List.map_congr_left fun b hb => h a (List.mem_range.1 ha) b (List.mem_range.1 hb)
theorem tabF_self {T : List (List Int)} {m : Nat} (h : ∀ x ∈ T, x.length = m) : tabF T.length m (ct T) = T := by
  apply List.ext_getElem?
  intro i
  by_cases hi : i < T.length
  · rw [tabF_row hi, List.getElem?_eq_getElem hi]
    congr 1
    have hl := h _ (List.getElem_mem hi)
    apply List.ext_getElem?
    intro j
    by_cases hj : j < m
    · rw [List.getElem?_map, List.getElem?_range hj, List.getElem?_eq_getElem (by rw [hl]; exact hj)]
      simp only [Option.map_some, Option.some.injEq]
      unfold ct
      rw [getD_get _ _ _ hi, getD_get _ _ _ (by rw [hl]; exact hj)]
    · rw [List.getElem?_eq_none (by simp; omega), List.getElem?_eq_none (by omega)]
  · rw [List.getElem?_eq_none (by rw [tabF_len]; omega), List.getElem?_eq_none (by omega)]
theorem tabF_set {L m i j : Nat} {f : Nat → Nat → Int} (hi : i < L) (_hj : j < m) (x : Int) : (tabF L m f).set i (((List.range m).map (f i)).set j x) = tabF L m (fun a b => if a = i ∧ b = j then x else f a b) := by
  apply List.ext_getElem?
  intro a
  by_cases ha : a < L
  · rw [tabF_row ha]
    by_cases e : a = i
    · subst e
      rw [List.getElem?_set_self (by rw [tabF_len]; exact hi)]
      congr 1
      apply List.ext_getElem?
      intro b
      by_cases hb : b < m
      · by_cases e2 : b = j
        · subst e2
          rw [List.getElem?_set_self (by simpa using hb), List.getElem?_map, List.getElem?_range hb]
          simp
        · rw [List.getElem?_set_ne (fun e => e2 e.symm), List.getElem?_map, List.getElem?_map, List.getElem?_range hb]
          simp [e2]
      · rw [List.getElem?_eq_none (by simp; omega), List.getElem?_eq_none (by simp; omega)]
    · rw [List.getElem?_set_ne (fun e' => e e'.symm), tabF_row ha]
      congr 1
      refine List.map_congr_left fun b _ => by simp [e]
  · rw [List.getElem?_eq_none (by rw [List.length_set, tabF_len]; omega), List.getElem?_eq_none (by rw [tabF_len]; omega)]
theorem tok_tabF {L m : Nat} {f : Nat → Nat → Int} (h1 : 1 ≤ L) (h2 : L ≤ m) (h3 : m ≤ 64) (hf : ∀ a, a < L → ∀ b, b < m → -1 ≤ f a b ∧ f a b ≤ 1000000000) : TOk (tabF L m f) m := by
  refine ⟨by rw [tabF_len]; exact h1, by rw [tabF_len]; exact h2, h3, fun x hx => ?_, fun x hx v hv => ?_⟩
  · obtain ⟨a, _, rfl⟩ := List.mem_map.1 hx
    simp
  · obtain ⟨a, ha, rfl⟩ := List.mem_map.1 hx
    obtain ⟨b, hb, rfl⟩ := List.mem_map.1 hv
    exact hf a (List.mem_range.1 ha) b (List.mem_range.1 hb)
/-- A store into a table that is given by its entries. -/
theorem TM.setF {W : World} {P : Nat → Prop} {A : Option Addr} {L c m : Nat} {f : Nat → Nat → Int} {hd : List Value} (t : TM W P A L c (tabF L m f) hd) {i j : Nat} (hi : i < L) (hj : j < m) :
    ∃ b g ci, A = some ⟨b, 0, none⟩ ∧ P b ∧ P g ∧ W.cell? ⟨b, i, none⟩ = some (.slice (some ⟨g, 0, none⟩) m ci) ∧ W.cell? ⟨g, j, none⟩ = some (.int .i64 (f i j)) ∧ W.frozen? ⟨g, j, none⟩ = false ∧
      ∀ x, TM (W.setCell ⟨g, j, none⟩ (.int .i64 x)) P A L c (tabF L m (fun a b => if a = i ∧ b = j then x else f a b)) hd ∧ Kx P W (W.setCell ⟨g, j, none⟩ (.int .i64 x)) := by
  obtain ⟨b, r, Ai, ci, hA, hPb, hr, hh, hc, ho⟩ := t.at_ hi
  have hr' := tabF_row (m := m) (f := f) hi
  rw [hr] at hr'
  injection hr' with hr'
  subst hr'
  have hlen : ((List.range m).map (f i)).length = m := by simp
  rw [hlen] at hh hc ho
  obtain ⟨g, cap, hv, _, _⟩ := ho.form (by omega)
  simp only [Value.slice.injEq, true_and] at hv
  obtain ⟨rfl, rfl⟩ := hv
  refine ⟨b, g, _, hA, hPb, t.rP i _ _ _ hh _ rfl, hc, ?_, ho.frozenAt j, fun x => ?_⟩
  · rw [ho.cellAt j (by omega), flat_int]
    simp [hj]
  · have h := t.set (i := i) hr (by rw [hlen]; exact hh) j x
    rw [tabF_set hi hj x] at h
    exact h
end
section
open Go.RowKit

/-- The law's own copy: the table T1 of L rows reads. -/
structure Tc (w0 w : World) (A : Option Addr) (L c : Nat) (T1 : List (List Int)) : Prop where
  rc : SlRc w A L T1
  l66 : L ≤ 66
  bel : Below w0.heap.size w0 w
theorem Tc.below {w0 w w1 : World} {A : Option Addr} {L c : Nat} {T1 : List (List Int)} (h : Tc w0 w A L c T1) (hb : Below w.heap.size w w1) : Tc w0 w1 A L c T1 := ⟨h.rc.below hb, h.l66, h.bel.trans (hb.mono h.bel.size)⟩
theorem Tc.qt {w0 w w1 : World} {A : Option Addr} {L c : Nat} {T1 : List (List Int)} (h : Tc w0 w A L c T1) (hq : Qt w w1) : Tc w0 w1 A L c T1 := h.below hq.below
theorem table_tc (A : Option Addr) (n c : Nat) (T : List (List Int)) (x y : Int) (R C : Nat) (hx : x = (R : Int)) (hy : y = (C : Int)) (hR : R ≤ 66) (hC : C ≤ 66) (w : World) (hT : SlRc w A n T) (hn : n ≤ 9223372036854775807) :
    Calls Try.prog 20 #[.slice A n c, .int .i64 x, .int .i64 y] w fun e w' => ∃ A' c', e = .returned (.slice A' (tabL R C T).length c') ∧ Tc w w' A' (tabL R C T).length c' (tabL R C T) := by
  subst hx hy
  refine (table_any A n c T R C hR hC w hT hn).mono ?_
  rintro e w' ⟨A', c', rfl, ht, hb⟩
  have hl : (tabL R C T).length = min R n := by rw [tabL_len, ← hT.1]
  rw [hl]
  exact ⟨A', c', rfl, ht.slrc, by omega, hb⟩
theorem Tc.n {w0 w : World} {A : Option Addr} {L c : Nat} {T1 : List (List Int)} (h : Tc w0 w A L c T1) : L = T1.length := h.rc.1
theorem most_noT (w0 : World) (A : Option Addr) (L c : Nat) (T : List (List Int)) (w : World) (h : Tc w0 w A L c T) (ht : tabB T = false) : Calls Try.prog 34 #[.slice A L c] w fun e w' => e = .returned (.tuple #[.int .i64 0, .int .i64 1]) ∧ Tc w0 w' A L c T :=
  (most_no A L c T w h.rc.slr (by have := h.l66; omega) h.rc.rowle ht).mono fun _ _ ⟨h1, h2⟩ => ⟨h1, h.below h2⟩
theorem most_yesT (w0 : World) (A : Option Addr) (L c m K : Nat) (T : List (List Int)) (w : World) (h : Tc w0 w A L c T) (hok : TOk T m) (hK : kuhn (gT T) m (List.range L) = K) : Calls Try.prog 34 #[.slice A L c] w fun e w' => e = .returned (.tuple #[.int .i64 (K : Int), .int .i64 0]) ∧ Tc w0 w' A L c T := by
  subst hK
  exact (most_yes A L c m T w h.rc.slr hok).mono fun _ _ ⟨h1, h2⟩ => ⟨h1, h.below h2⟩
theorem refCheck_noT (w0 : World) (A : Option Addr) (L c : Nat) (T : List (List Int)) (w : World) (h : Tc w0 w A L c T) (ht : tabB T = false) : Calls Try.prog 21 #[.slice A L c] w fun e w' => e = .returned (.int .i64 1) ∧ Tc w0 w' A L c T :=
  (refCheck_any A L c T w h.rc.slr (by have := h.l66; omega) h.rc.rowle).mono fun _ _ ⟨h1, h2⟩ => ⟨by rw [h1, if_neg (by rw [ht]; simp)], h.qt h2⟩
theorem refCheck_yesT (w0 : World) (A : Option Addr) (L c : Nat) (T : List (List Int)) (w : World) (h : Tc w0 w A L c T) (ht : tabB T = true) : Calls Try.prog 21 #[.slice A L c] w fun e w' => e = .returned (.int .i64 0) ∧ Tc w0 w' A L c T :=
  (refCheck_any A L c T w h.rc.slr (by have := h.l66; omega) h.rc.rowle).mono fun _ _ ⟨h1, h2⟩ => ⟨by rw [h1, if_pos ht], h.qt h2⟩
theorem best_noT (w0 : World) (A : Option Addr) (L c : Nat) (T : List (List Int)) (w : World) (h : Tc w0 w A L c T) (ht : tabB T = false) : Calls Try.prog 22 #[.slice A L c] w fun e w' => e = .returned (.tuple #[.agg #[.slice none 0 0, .slice none 0 0, .slice none 0 0, .int .i64 0], .int .i64 1]) ∧ Tc w0 w' A L c T :=
  (best_no A L c T w h.rc.slr (by have := h.l66; omega) h.rc.rowle ht).mono fun _ _ ⟨h1, h2⟩ => ⟨h1, h.below h2⟩
theorem best_noneT (w0 : World) (A : Option Addr) (L c m : Nat) (T : List (List Int)) (w : World) (h : Tc w0 w A L c T) (hok : TOk T m) (hno : kuhn (gT T) m (List.range L) ≠ L) : Calls Try.prog 22 #[.slice A L c] w fun e w' => e = .returned (.tuple #[.agg #[.slice none 0 0, .slice none 0 0, .slice none 0 0, .int .i64 0], .int .i64 6]) ∧ Tc w0 w' A L c T :=
  (best_none A L c m T w h.rc.slr hok hno).mono fun _ _ ⟨h1, h2⟩ => ⟨h1, h.below h2⟩
/-- A matching in memory. -/
structure Mm (w : World) (A1 A2 A3 : Option Addr) (n m c1 c2 c3 : Nat) (l : List Nat) (lu lv : List Int) : Prop where
  s1 : SlE intE 1 w A1 n (castL l)
  s2 : SlE intE 1 w A2 n lu
  s3 : SlE intE 1 w A3 m lv
  k1 : n ≤ c1
  k2 : n ≤ c2
  k3 : m ≤ c3
  d1 : c1 ≤ 9223372036854775807
  d2 : c2 ≤ 9223372036854775807
  d3 : c3 ≤ 9223372036854775807
theorem Mm.below {w w1 : World} {A1 A2 A3 : Option Addr} {n m c1 c2 c3 : Nat} {l : List Nat} {lu lv : List Int} (h : Mm w A1 A2 A3 n m c1 c2 c3 l lu lv) (hb : Below w.heap.size w w1) : Mm w1 A1 A2 A3 n m c1 c2 c3 l lu lv := ⟨h.s1.below hb, h.s2.below hb, h.s3.below hb, h.k1, h.k2, h.k3, h.d1, h.d2, h.d3⟩
theorem best_yesT (w0 : World) (A : Option Addr) (L c m : Nat) (T : List (List Int)) (w : World) (h : Tc w0 w A L c T) (hok : TOk T m) (hyes : kuhn (gT T) m (List.range L) = L) : Calls Try.prog 22 #[.slice A L c] w fun e w' => ∃ (A1 A2 A3 : Option Addr) (c1 c2 c3 : Nat) (l : List Nat) (s : Int) (lu lv : List Int),
    e = .returned (.tuple #[.agg #[.slice A1 L c1, .slice A2 L c2, .slice A3 m c3, .int .i64 s], .int .i64 0]) ∧ Bst T m l s lu lv ∧ Mm w' A1 A2 A3 L m c1 c2 c3 l lu lv ∧ Tc w0 w' A L c T :=
  (best_yes A L c m T w h.rc.slr hok hyes).mono fun _ _ ⟨A1, A2, A3, c1, c2, c3, l, s, lu, lv, h1, h2, h3, h4, h5, h6, h7, h8, h9, h10, h11, h12⟩ => ⟨A1, A2, A3, c1, c2, c3, l, s, lu, lv, h1, h2, ⟨h3, h4, h5, h6, h7, h8, h9, h10, h11⟩, h.below h12⟩
theorem hall_noT (w0 : World) (A : Option Addr) (L c : Nat) (T : List (List Int)) (w : World) (h : Tc w0 w A L c T) (ht : tabB T = false) : Calls Try.prog 28 #[.slice A L c] w fun e w' => e = .returned (.tuple #[.slice none 0 0, .int .i64 1]) ∧ Tc w0 w' A L c T :=
  (hall_no A L c T w h.rc.slr (by have := h.l66; omega) h.rc.rowle ht).mono fun _ _ ⟨h1, h2⟩ => ⟨h1, h.below h2⟩
theorem hall_noneT (w0 : World) (A : Option Addr) (L c m : Nat) (T : List (List Int)) (w : World) (h : Tc w0 w A L c T) (hok : TOk T m) (hk : kuhn (gT T) m (List.range L) = L) : Calls Try.prog 28 #[.slice A L c] w fun e w' => e = .returned (.tuple #[.slice none 0 0, .int .i64 6]) ∧ Tc w0 w' A L c T :=
  (hall_none A L c m T w h.rc.slr hok hk).mono fun _ _ ⟨h1, h2⟩ => ⟨h1, h.below h2⟩
theorem hall_someT (w0 : World) (A : Option Addr) (L c m : Nat) (T : List (List Int)) (w : World) (h : Tc w0 w A L c T) (hok : TOk T m) (hk : kuhn (gT T) m (List.range L) ≠ L) (S : List Nat) (hS : hallF (gT T) m (List.range L) (List.range L) = S) : Calls Try.prog 28 #[.slice A L c] w fun e w' =>
    ∃ A' c', e = .returned (.tuple #[.slice A' S.length c', .int .i64 0]) ∧ SlE intE 1 w' A' S.length (castL S) ∧ S.length ≤ c' ∧ c' ≤ 9223372036854775807 ∧ Tc w0 w' A L c T :=
  (hall_some A L c m T w h.rc.slr hok hk S hS).mono fun _ _ ⟨⟨A', c', h1, h2, h3, h4⟩, h5⟩ => ⟨A', c', h1, h2, h3, h4, h.below h5⟩
theorem lives_T (w0 : World) (A : Option Addr) (L c : Nat) (T : List (List Int)) (w : World) (h : Tc w0 w A L c T) : Calls Try.prog 24 #[] w fun e w' => e = .returned (.bool true) ∧ Tc w0 w' A L c T :=
  (lives_any w).mono fun _ _ ⟨h1, h2⟩ => ⟨h1, h.below h2⟩
theorem refAll_T (w0 : World) (A : Option Addr) (L c : Nat) (T : List (List Int)) (w : World) (h : Tc w0 w A L c T) (hL : L ≤ 64) : Calls Try.prog 30 #[.slice A L c] w fun e w' => ∃ A' c', e = .returned (.slice A' L c') ∧ SlE intE 1 w' A' L (castL (List.range L)) ∧ Tc w0 w' A L c T :=
  (refAll_any A L c hL w).mono fun _ _ ⟨A', c', h1, h2, h3⟩ => ⟨A', c', h1, SlE.of_own h2 (by rw [castL_len, List.length_range]), h.below h3⟩
theorem refMost_T (w0 : World) (A : Option Addr) (L c m K : Nat) (T : List (List Int)) (A2 : Option Addr) (L2 c2 : Nat) (rows : List Nat) (w : World) (h : Tc w0 w A L c T) (hok : TOk T m) (hA : SlE intE 1 w A2 L2 (castL rows)) (hL : L2 ≤ 1000) (hrows : ∀ r ∈ rows, r < L) (hK : kuhn (gT T) m rows = K) :
    Calls Try.prog 29 #[.slice A L c, .slice A2 L2 c2] w fun e w' => e = .returned (.int .i64 (K : Int)) ∧ Below w.heap.size w w' ∧ Tc w0 w' A L c T := by
  subst hK
  exact (refMost_any A L c m T A2 L2 c2 rows w h.rc.slr hok hA hL hrows).mono fun _ _ ⟨h1, h2⟩ => ⟨h1, h2, h.below h2⟩
theorem tok_of {T : List (List Int)} (h : tabB T = true) : ∃ m, TOk T m := ⟨wid T, tabB_iff.1 h⟩
end
end Go.Proofs.Ytjdhcdoekfikpaa
