/-
  The contract of match.Best: the cheapest assignment, with prices that prove it; condition: the table reads.
-/
import Derived.Test.YtjdhcdoekfikpaaMFirstW
namespace Go.Proofs.Ytjdhcdoekfikpaa
open Go.RowKit

/-- A matching that is the best one, with its prices. -/
structure Bst (T : List (List Int)) (m : Nat) (l : List Nat) (s : Int) (lu lv : List Int) : Prop where
  best : IsBest T m l s
  opt : Opt T m (fun i => lu.getD i 0) (fun j => lv.getD j 0) l
  du : Duals T m (fun i => lu.getD i 0) (fun j => lv.getD j 0)
  hll : l.length = T.length
  hlu : lu.length = T.length
  hlv : lv.length = m
  sum : s = dual T m (fun i => lu.getD i 0) (fun j => lv.getD j 0)
  ub : ∀ x ∈ lu, 0 ≤ x ∧ x ≤ 64000000000000
  vb : ∀ x ∈ lv, -64000000000000 ≤ x ∧ x ≤ 0
theorem getD_drop1 (l : List Int) (i : Nat) : (l.drop 1).getD i 0 = l.getD (i + 1) 0 := by
  rw [List.getD_eq_getElem?_getD, List.getElem?_drop, List.getD_eq_getElem?_getD, Nat.add_comm]
theorem mem_drop1 {l : List Int} {P : Int → Prop} (h : ∀ i, P (l.getD i 0)) : ∀ x ∈ l.drop 1, P x := by
  intro x hx
  obtain ⟨i, hi, rfl⟩ := List.getElem_of_mem (List.mem_of_mem_drop hx)
  have := h i
  rwa [getD_get _ _ _ hi] at this
theorem bst_of {T : List (List Int)} {m : Nat} {u v : List Int} {s : Int} (h : ChOk T m u v s) (hu : u.length = T.length + 1) (hv : v.length = m + 1) :
    Bst T m (firstF T m (fun i => u.getD (i + 1) 0) (fun j => v.getD (j + 1) 0) (List.range T.length) (List.replicate m false) []) s (u.drop 1) (v.drop 1) := by
  have hb := first_best h.du h.op
  have eu : (fun i => (u.drop 1).getD i 0) = fun i => u.getD (i + 1) 0 := funext fun i => getD_drop1 u i
  have ev : (fun i => (v.drop 1).getD i 0) = fun i => v.getD (i + 1) 0 := funext fun i => getD_drop1 v i
  rw [← h.co] at hb
  have ho := opt_of_cost h.du hb.asg (by rw [hb.cost, h.co])
  exact ⟨hb, by rw [eu, ev]; exact ho, by rw [eu, ev]; exact h.du, ho.len, by simp [hu], by simp [hv], by rw [eu, ev]; exact h.co, mem_drop1 h.ub, mem_drop1 h.vb⟩
theorem Sv.kx {S : Nat → Prop} {W W' : World} {sp n c m bu bv bp bw : Nat} {A : Option Addr} {u v : List Int} {p way : List Nat} (h : Sv W sp A n c m bu bv bp bw u v p way) (hk : Kx S W W') (h0 : ¬ S sp) (h1 : ¬ S bu) (h2 : ¬ S bv) (h3 : ¬ S bp) (h4 : ¬ S bw) :
    Sv W' sp A n c m bu bv bp bw u v p way := ⟨(hk.block sp h.lt h0).trans h.box, h.hu.kx hk h1, h.hv.kx hk h2, h.hp.kx hk h3, h.hw.kx hk h4, h.lu, h.lv, h.lp, h.lw⟩
theorem own_lo {W : World} {base e sz n c : Nat} {A : Option Addr} {xs : List Value} (h : W.ownsRow base e sz (.slice A n c) n xs) : (∀ a, A = some a → base ≤ a.block) ∧ n ≤ c ∧ c ≤ 9223372036854775807 := by
  rcases h.2 with ⟨h1, h2⟩ | ⟨g, cap, cur, h1, h2, _, h4, h5, _⟩
  · simp only [Value.slice.injEq] at h1
    obtain ⟨rfl, rfl, rfl⟩ := h1
    exact ⟨fun a ha => by simp at ha, Nat.le_refl _, by omega⟩
  · simp only [Value.slice.injEq, true_and] at h1
    obtain ⟨rfl, rfl⟩ := h1
    unfold maxLen at h5
    exact ⟨fun a ha => by injection ha with ha; subst ha; exact h2, h4, by omega⟩
theorem slE_kx {S : Nat → Prop} {W W' : World} {A : Option Addr} {n : Nat} {l : List Int} (h : SlE intE 1 W A n l) (hk : Kx S W W') (hs : ∀ a, A = some a → ¬ S a.block) : SlE intE 1 W' A n l :=
  ⟨h.1, h.2.1, fun hn => by
    obtain ⟨b, o, e, hb, hc⟩ := h.2.2 hn
    exact ⟨b, o, e, Nat.lt_of_lt_of_le hb hk.size, fun j u hu => (World.cell?_of_block (w := W) (hk.block b hb (hs _ e))).trans (hc j u hu)⟩⟩
def mzero : Value := .agg #[.slice none 0 0, .slice none 0 0, .slice none 0 0, .int .i64 0]
set_option maxRecDepth 100000 in
set_option maxHeartbeats 4000000 in
theorem best_no (A : Option Addr) (n c : Nat) (T : List (List Int)) (w : World) (hT : SlR w A n T) (hn : n ≤ 9223372036854775807) (hrow : ∀ r ∈ T, r.length ≤ 9223372036854775807) (ht : tabB T = false) :
    Calls Try.prog 22 #[.slice A n c] w fun e w' => e = .returned (.tuple #[.agg #[.slice none 0 0, .slice none 0 0, .slice none 0 0, .int .i64 0], .int .i64 1]) ∧ Below w.heap.size w w' := by
  refine calls_cps ?_
  intro R hR
  have hb := below_new w (.cells #[.slice none 0 0, .slice none 0 0, .slice none 0 0, .int .i64 0] 28)
  have HT := Lib.hid (hT.below hb)
  clear hT
  go_enter Try.func22, Try.ntmps22
  go_wp2_with (go_at_call 36; refine (check_any _ _ _ T _ HT.out hn hrow).mono ?_; rw [ht]; rintro e w1 ⟨rfl, rfl⟩)
  refine bodyPost_ret (v := .tuple #[.agg #[.slice none 0 0, .slice none 0 0, .slice none 0 0, .int .i64 0], .int .i64 1]) ?_ rfl (hR.out _ _ ⟨rfl, hb⟩)
  simp [results, Try.results22, go_sem]
set_option maxRecDepth 100000 in
set_option maxHeartbeats 4000000 in
theorem best_none (A : Option Addr) (n c m : Nat) (T : List (List Int)) (w : World) (hT : SlR w A n T) (hok : TOk T m) (hno : kuhn (gT T) m (List.range n) ≠ n) :
    Calls Try.prog 22 #[.slice A n c] w fun e w' => e = .returned (.tuple #[.agg #[.slice none 0 0, .slice none 0 0, .slice none 0 0, .int .i64 0], .int .i64 6]) ∧ Below w.heap.size w w' := by
  refine calls_cps ?_
  intro R hR
  have hn64 : n ≤ 64 := by rw [hT.1]; exact Nat.le_trans hok.nm hok.m64
  have hrow : ∀ r ∈ T, r.length ≤ 9223372036854775807 := fun r hr => by rw [hok.rect r hr]; have := hok.m64; omega
  have ht : tabB T = true := tabB_iff.2 (by rw [hok.wid]; exact hok)
  have hb := below_new w (.cells #[.slice none 0 0, .slice none 0 0, .slice none 0 0, .int .i64 0] 28)
  have hx := heap_alloc_new w (.cells #[.slice none 0 0, .slice none 0 0, .slice none 0 0, .int .i64 0] 28)
  have HT := Lib.hid (hT.below hb)
  have Hb := Lib.hid hb
  have Hx := Lib.hid hx
  have Hok := Lib.hid hok
  have Hrow := Lib.hid hrow
  have Ht := Lib.hid ht
  have Hno := Lib.hid hno
  clear hT hb hx hok hrow ht hno
  go_enter Try.func22, Try.ntmps22
  go_wp2_with fail
  refine (check_any _ _ _ T _ HT.out (by omega) Hrow.out).mono ?_
  rw [if_pos Ht.out]
  rintro e w0 ⟨rfl, rfl⟩
  go_wp2_with fail
  refine (cheap_no _ _ m _ T _ HT.out Hok.out Hno.out).mono ?_
  rintro e w1 ⟨rfl, hb1⟩
  have hx1 := (hb1.block _ (by simp)).trans Hx.out
  obtain ⟨r0, r1, r2, r3, r4⟩ := cells4 hx1
  have Hb1 := Lib.hid (Hb.out.trans (hb1.mono Hb.out.size))
  clear hb1 hx1
  go_wp2_with fail
  refine bodyPost_ret (v := .tuple #[.agg #[.slice none 0 0, .slice none 0 0, .slice none 0 0, .int .i64 0], .int .i64 6]) ?_ rfl (hR.out _ _ ⟨rfl, ?_⟩)
  · simp [results, Try.results22, go_sem, r0, r1, r2, r3]
  · have h := Hb1.out
    repeat (first | with_reducible exact h | with_reducible refine Below.setCell ?_ (by dsimp only; omega) _)
set_option maxRecDepth 100000 in
set_option maxHeartbeats 16000000 in
theorem best_yes (A : Option Addr) (n c m : Nat) (T : List (List Int)) (w : World) (hT : SlR w A n T) (hok : TOk T m) (hyes : kuhn (gT T) m (List.range n) = n) :
    Calls Try.prog 22 #[.slice A n c] w fun e w' => ∃ (A1 A2 A3 : Option Addr) (c1 c2 c3 : Nat) (l : List Nat) (s : Int) (lu lv : List Int), e = .returned (.tuple #[.agg #[.slice A1 n c1, .slice A2 n c2, .slice A3 m c3, .int .i64 s], .int .i64 0]) ∧ Bst T m l s lu lv ∧
      SlE intE 1 w' A1 n (castL l) ∧ SlE intE 1 w' A2 n lu ∧ SlE intE 1 w' A3 m lv ∧ n ≤ c1 ∧ n ≤ c2 ∧ m ≤ c3 ∧ c1 ≤ 9223372036854775807 ∧ c2 ≤ 9223372036854775807 ∧ c3 ≤ 9223372036854775807 ∧ Below w.heap.size w w' := by
  refine calls_cps ?_
  intro R hR
  have hn64 : n ≤ 64 := by rw [hT.1]; exact Nat.le_trans hok.nm hok.m64
  have hrow : ∀ r ∈ T, r.length ≤ 9223372036854775807 := fun r hr => by rw [hok.rect r hr]; have := hok.m64; omega
  have ht : tabB T = true := tabB_iff.2 (by rw [hok.wid]; exact hok)
  have hn1 : 1 ≤ n := by rw [hT.1]; exact hok.n1
  have hm64 := hok.m64
  have hnm : n ≤ m := by rw [hT.1]; exact hok.nm
  have hb := below_new w (.cells #[.slice none 0 0, .slice none 0 0, .slice none 0 0, .int .i64 0] 28)
  have hx := heap_alloc_new w (.cells #[.slice none 0 0, .slice none 0 0, .slice none 0 0, .int .i64 0] 28)
  have HT0 := Lib.hid hT
  have HT := Lib.hid (hT.below hb)
  have Hn := Lib.hid hT.1
  have Hb := Lib.hid hb
  have Hx := Lib.hid hx
  have Hok := Lib.hid hok
  have Hrow := Lib.hid hrow
  have Ht := Lib.hid ht
  have Hyes := Lib.hid hyes
  clear hT hb hx hok hrow ht hyes
  go_enter Try.func22, Try.ntmps22
  go_wp2_with fail
  refine (check_any _ _ _ T _ HT.out (by omega) Hrow.out).mono ?_
  rw [if_pos Ht.out]
  rintro e w0 ⟨rfl, rfl⟩
  go_wp2_with fail
  refine (cheap_yes _ _ m _ T _ HT.out Hok.out Hyes.out).mono ?_
  rintro e w1 ⟨sp, bu, bv, bp, bw, u, v, p, way, s, rfl, hS, hNe, hCh, hb1⟩
  have hx1 := (hb1.block _ (by simp)).trans Hx.out
  obtain ⟨l0, l1, l2, l3, l4⟩ : w.heap.size + 1 ≤ sp ∧ w.heap.size + 1 ≤ bu ∧ w.heap.size + 1 ≤ bv ∧ w.heap.size + 1 ≤ bp ∧ w.heap.size + 1 ≤ bw := by
    have h0 := hNe.l0; have h1 := hNe.l1; have h2 := hNe.l2; have h3 := hNe.l3; have h4 := hNe.l4
    simp at h0 h1 h2 h3 h4
    omega
  obtain ⟨rb, hrb⟩ : ∃ rb, w.heap.size = rb := ⟨_, rfl⟩
  have Hb1 := Lib.hid (Hb.out.trans (hb1.mono Hb.out.size))
  rw [hrb] at hx1 l0 l1 l2 l3 l4
  have Hx1 := Lib.hid hx1
  have Hrb := Lib.hid hrb
  have HS := Lib.hid hS
  have hrl := (Array.getElem?_eq_some_iff.1 hx1).1
  have Hbst := Lib.hid (bst_of hCh (by rw [← Hn.out]; exact hS.lu) hS.lv)
  have Hub := Lib.hid hCh.ub
  have Hvb := Lib.hid hCh.vb
  obtain ⟨q0, q1, q2, q3, q4⟩ := hS.cells
  have hsl := hS.lt
  have Hlu := Lib.hid (hS.hu.sl (n := n + 1) hS.lu.symm)
  have Hlv := Lib.hid (hS.hv.sl (n := m + 1) hS.lv.symm)
  have hn0 : ¬ n = 0 := by omega
  have hm0 : ¬ m = 0 := by omega
  have i1 : (1 : Int) ≤ (n : Int) + 1 := by omega
  have i2 : (1 : Int) ≤ (m : Int) + 1 := by omega
  clear hS hNe hCh hb1 hx1 hrb q0 q3 q4
  obtain ⟨FT, hFT⟩ : ∃ FT, firstF T m (fun i => u.getD (i + 1) 0) (fun j => v.getD (j + 1) 0) (List.range n) (List.replicate m false) [] = FT := ⟨_, rfl⟩
  have hbst := Hbst.out
  rw [← Hn.out, hFT] at hbst
  have HFT := Lib.hid hFT
  have Hbst2 := Lib.hid hbst
  have HFl := Lib.hid (show FT.length = n by rw [hbst.hll, Hn.out])
  clear hFT hbst
  have HTx := Lib.hid (show ∀ W', Kx (fun j => j = rb) w1 W' → SlR W' A n T from fun W' hk => HT0.out.below (Kx.low Hb1.out hk (by rintro j rfl; rw [Hrb.out]; exact Nat.le_refl _) Hb1.out.size))
  have HSx := Lib.hid (show ∀ W', Kx (fun j => j = rb) w1 W' → Sv W' sp A n c m bu bv bp bw u v p way from fun W' hk => HS.out.kx hk (by omega) (by omega) (by omega) (by omega) (by omega))
  have HUx := Lib.hid (show ∀ W', Kx (fun j => j = rb) w1 W' → SlE intE 1 W' (some ⟨bu, 1, none⟩) n (u.drop 1) from fun W' hk => by
    have h := SlE.drop1 (k := 1) ((HSx.out W' hk).hu.sl (n := n + 1) HS.out.lu.symm) (by omega)
    rw [Nat.zero_add, Nat.add_sub_cancel] at h
    exact h)
  have HVx := Lib.hid (show ∀ W', Kx (fun j => j = rb) w1 W' → SlE intE 1 W' (some ⟨bv, 1, none⟩) m (v.drop 1) from fun W' hk => by
    have h := SlE.drop1 (k := 1) ((HSx.out W' hk).hv.sl (n := m + 1) HS.out.lv.symm) (by omega)
    rw [Nat.zero_add, Nat.add_sub_cancel] at h
    exact h)
  have hsr : sp ≠ rb := by omega
  have Hsr := Lib.hid (show ∀ W', Kx (fun j => j = rb) w1 W' → W'.cell? ⟨sp, 1, none⟩ = some (.slice (some ⟨bu, 0, none⟩) (n + 1) (n + 1)) ∧ W'.cell? ⟨sp, 2, none⟩ = some (.slice (some ⟨bv, 0, none⟩) (m + 1) (m + 1)) from fun W' hk => ⟨(HSx.out W' hk).cells.2.1, (HSx.out W' hk).cells.2.2.1⟩)
  have Hrz := Lib.hid (show ∀ W', Below w1.heap.size w1 W' → W'.heap[rb]? = some (.cells #[.slice none 0 0, .slice none 0 0, .slice none 0 0, .int .i64 0] 28 (0, 0)) from fun W' hb => (hb.block rb hrl).trans Hx1.out)
  have hbz : Kx (fun j => j = rb) w1 w1.drew := (Kx.refl _ w1).drewN 1
  go_wp2_with (rw [Hrb.out])
  go_region_held3 (fun w' => Kx (fun j => j = rb) w1 w' ∧ w'.cell? ⟨sp, 1, none⟩ = some (.slice (some ⟨bu, 0, none⟩) (n + 1) (n + 1)) ∧ w'.cell? ⟨sp, 2, none⟩ = some (.slice (some ⟨bv, 0, none⟩) (m + 1) (m + 1)))
    (first
      | exact ⟨hbz, q1, q2⟩
      | exact ⟨hkf, hkf1, hkf2⟩
      | exact ⟨hka, hka1, hka2⟩
      | exact ⟨hkb, hkb1, hkb2⟩
      | exact ⟨hkz _ _ _ _, Hsr.out _ (hkz _ _ _ _)⟩
      | go_keep)
    (first
    | (go_at_call 48; have hcur := (‹Kx (fun j => j = rb) w1 _ ∧ _›).1; refine (first_any _ sp n c m bu bv bp bw A T u v p way (HSx.out _ hcur) (HTx.out _ hcur) Hok.out Hub.out Hvb.out).mono ?_; rw [HFT.out, HFl.out]; rintro e wf ⟨Af, cf, rfl, hof, hbf⟩; have hkf := hcur.below hbf; have hlf := below_of_drew hbf; obtain ⟨hkf1, hkf2⟩ := Hsr.out wf hkf; clear hcur)
    | (go_at_call 49; have hcur := (‹Kx (fun j => j = rb) w1 _ ∧ _›).1; refine (clone_any ⟨bu, 1, none⟩ n n (u.drop 1) _ (HUx.out _ hcur) (by omega)).mono ?_; rintro e wa ⟨Aa, ca, rfl, hoa, hba⟩; have hka := hcur.below hba; have hla := hlf.trans (hba.mono hlf.size); obtain ⟨hka1, hka2⟩ := Hsr.out wa hka; clear hcur)
    | (go_at_call 49; have hcur := (‹Kx (fun j => j = rb) w1 _ ∧ _›).1; refine (clone_any ⟨bv, 1, none⟩ m m (v.drop 1) _ (HVx.out _ hcur) (by omega)).mono ?_; rintro e wb ⟨Ab, cb, rfl, hob, hbb⟩; have hkb := hcur.below hbb; have hlb := hla.trans (hbb.mono hla.size); obtain ⟨hkb1, hkb2⟩ := Hsr.out wb hkb; obtain ⟨r0, r1, r2, r3, r4⟩ := cells4 (Hrz.out wb hlb); have hkz := fun (v0 v1 v2 v3 : Value) => kx_set (kx_set (kx_set (kx_set hkb (b := rb) rfl 0 v0) (b := rb) rfl 1 v1) (b := rb) rfl 2 v2) (b := rb) rfl 3 v3; clear hcur))
  go_wp2
  have hz := hkz (.slice Af n cf) (.slice Aa n ca) (.slice Ab m cb) (.int .i64 s)
  have hkw : Kx (fun j => j = rb) wb ((((wb.setCell ⟨rb, 0, none⟩ (.slice Af n cf)).setCell ⟨rb, 1, none⟩ (.slice Aa n ca)).setCell ⟨rb, 2, none⟩ (.slice Ab m cb)).setCell ⟨rb, 3, none⟩ (.int .i64 s)) := kx_set (kx_set (kx_set (kx_set (Kx.refl (fun j => j = rb) wb) (b := rb) rfl 0 _) (b := rb) rfl 1 _) (b := rb) rfl 2 _) (b := rb) rfl 3 _
  obtain ⟨of1, of2, of3⟩ := own_lo hof
  obtain ⟨oa1, oa2, oa3⟩ := own_lo hoa
  obtain ⟨ob1, ob2, ob3⟩ := own_lo hob
  have sf := ((SlE.of_own hof (by rw [castL_len, HFl.out])).below hba).below hbb
  have sa := (SlE.of_own hoa (by rw [Hbst2.out.hlu, Hn.out])).below hbb
  have sb := SlE.of_own hob (by rw [Hbst2.out.hlv])
  have szf : w1.heap.size ≤ wf.heap.size := hlf.size
  have sza : w1.heap.size ≤ wa.heap.size := hla.size
  refine bodyPost_ret (v := .tuple #[.agg #[.slice Af n cf, .slice Aa n ca, .slice Ab m cb, .int .i64 s], .int .i64 0]) ?_ rfl (hR.out _ _ ⟨Af, Aa, Ab, cf, ca, cb, FT, s, u.drop 1, v.drop 1, rfl, Hbst2.out, slE_kx sf hkw (fun a ha => ?_), slE_kx sa hkw (fun a ha => ?_), slE_kx sb hkw (fun a ha => ?_), of2, oa2, ob2, of3, oa3, ob3,
    Kx.low Hb1.out hz (by rintro j rfl; rw [Hrb.out]; exact Nat.le_refl _) Hb1.out.size⟩)
  · simp [results, Try.results22, go_sem, r0, r1, r2, r3]
  · have h1 := of1 a ha
    have h2 : w1.drew.heap.size = w1.heap.size := rfl
    omega
  · have h1 := oa1 a ha
    omega
  · have h1 := ob1 a ha
    omega
end Go.Proofs.Ytjdhcdoekfikpaa
