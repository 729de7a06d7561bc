/-
  Contracts of the first reference's Of, Small, Bits, Bit, Cmp, Add, Sub; each states its condition.
-/
import Derived.Test.YtojbldoekalbnaaGreatNOy
namespace Go.Proofs.YtojbldoekalbnaaGreat
section
open Go.RowKit
theorem elemN : ElemOk Tryz.prog 104 137 1 4 := ElemOk.of (z := .int .u32 0) Tryz.underlying104 infoU rfl (by omega)
/-- A row of one's own of limbs. -/
def RowU (w : World) (base : Nat) (V : Value) (n : Nat) (f : Nat → Nat) : Prop := w.ownsRow base 137 1 V n ((List.range n).map fun i => Value.int .u32 (f i : Nat))
theorem RowU.start (w : World) : RowU (w.alloc (.cells #[] 137)) w.heap.size (.slice (some ⟨w.heap.size, 0, none⟩) 0 0) 0 (fun _ => 0) :=
  own_newAt w #[] 137 1 0 w.heap.size rfl (Nat.le_refl _) (by unfold maxLen; omega) rfl
theorem RowU.below {w w' : World} {base n : Nat} {V : Value} {f : Nat → Nat} (h : RowU w base V n f) (hb : Below w.heap.size w w') : RowU w' base V n f := ownsRow_below h hb
theorem RowU.snoc {w : World} {base n : Nat} {V : Value} {f : Nat → Nat} {x : Nat} (h : w.ownsRow base 137 1 V (n + 1) (((List.range n).map fun i => Value.int .u32 (f i : Nat)) ++ [Value.int .u32 (x : Nat)])) : RowU w base V (n + 1) (upd1 f n x) := by
  unfold RowU
  have e : (List.range (n + 1)).map (fun i => Value.int .u32 ((upd1 f n x i : Nat) : Int)) = ((List.range n).map fun i => Value.int .u32 (f i : Nat)) ++ [Value.int .u32 (x : Nat)] := by
    rw [List.range_succ, List.map_append]
    congr 1
    · refine List.map_congr_left fun i hi => ?_
      rw [upd1_ne (by have := List.mem_range.1 hi; omega)]
    · simp [upd1_self]
  rw [e]; exact h
theorem RowU.rd {w : World} {base n c : Nat} {A : Option Addr} {f : Nat → Nat} (h : RowU w base (.slice A n c) n f) (hl : Lm f n) : Rd w A n f := Rd.of_sl hl (Sl.of_own h)
theorem RowU.cap {w : World} {base n c : Nat} {A : Option Addr} {f : Nat → Nat} (h : RowU w base (.slice A n c) n f) : n ≤ c := by
  obtain ⟨A2, c2, e, h1, _, _⟩ := own_slice h
  injection e with _ _ e3
  omega
/-- What an append of one limb leaves. -/
theorem RowU.app_below {w w' w2 : World} {base n : Nat} {V : Value} {f : Nat → Nat} (hb : Below base w w') (h : RowU w' base V n f) (hw : base ≤ w'.heap.size) (hg : w'.grownBy w2 V.ownBlock) : Below base w w2 := below_own hb h (Nat.le_refl _) hw hg
/-- A number in a block from B on. -/
def NumB (B : Nat) (w : World) (V : Value) (v : Nat) : Prop := ∃ A n c, V = .slice A n c ∧ n ≤ c ∧ Nm w A n v ∧ (0 < n → ∀ ad : Addr, A = some ad → B ≤ ad.block)
theorem NumB.num {B : Nat} {w : World} {V : Value} {v : Nat} (h : NumB B w V v) : Num w V v := by
  obtain ⟨A, n, c, e, h1, h2, _⟩ := h
  exact ⟨A, n, c, e, h1, h2⟩
theorem NumB.set {B g k : Nat} {w : World} {V u : Value} {v : Nat} (h : NumB B w V v) (hg : g < B) : Num (w.setCell ⟨g, k, none⟩ u) V v := by
  obtain ⟨A, n, c, e, h1, h2, h3⟩ := h
  exact ⟨A, n, c, e, h1, h2.kx (S := fun j => j = g) (kx_set (S := fun j => j = g) (Kx.refl _ _) rfl _ _) (fun hn ad ha hs => by have := h3 hn ad ha; omega)⟩
theorem NumB.less {B B' : Nat} {w : World} {V : Value} {v : Nat} (h : NumB B w V v) (hb : B' ≤ B) : NumB B' w V v := by
  obtain ⟨A, n, c, e, h1, h2, h3⟩ := h
  exact ⟨A, n, c, e, h1, h2, fun hn ad ha => Nat.le_trans hb (h3 hn ad ha)⟩
/-- A call that hands back a number in new memory. -/
def GetsNew (w : World) (v : Nat) (e : Ending) (w' : World) : Prop := ∃ V, e = .returned V ∧ NumB w.heap.size w' V v ∧ Below w.heap.size w w'
theorem GetsNew.gets {w w' : World} {v : Nat} {e : Ending} (h : GetsNew w v e w') : GetsNum w v e w' := by
  obtain ⟨V, e, h1, h2⟩ := h
  exact ⟨V, e, h1.num, h2⟩
set_option maxRecDepth 16000 in
set_option maxHeartbeats 2000000 in
theorem rtrim_new (A : Option Addr) (n c v : Nat) (f : Nat → Nat) (w : World) (h : Rd w A n f) (hn : n ≤ 600000) (hv : fv f n = v) :
    Calls Tryz.prog 139 #[.slice A n c] w (GetsNew w v) := by
  refine calls_cps ?_
  intro R hR
  have HR := Lib.hid (show ∀ V W, NumB w.heap.size W V v → Below w.heap.size w W → R (.returned V) W from fun V W g1 g2 => hR.out _ _ ⟨V, rfl, g1, g2⟩)
  have H := Lib.hid h
  have Hv := Lib.hid hv
  clear hR h hv
  go_enter Tryz.func139, Tryz.ntmps139
  go_upto_block 0 with fail
  go_cut [3] (fun s3 wx => ∃ k : Nat, s3 = .int .i64 (k : Nat) ∧ k ≤ n ∧ Hid ((∀ i, k ≤ i → i < n → f i = 0) ∧ (k = 0 ∨ f (k - 1) ≠ 0)) ∧ wx = w)
  case first =>
    go_wp2_with fail
    go_loop [3] (fun s3 => ∃ k : Nat, s3 = .int .i64 (k : Nat) ∧ k ≤ n ∧ Hid (∀ i, k ≤ i → i < n → f i = 0)) (fun s3 => (intOf s3).toNat)
    case atStart => exact ⟨n, rfl, Nat.le_refl _, Lib.hid fun i h1 h2 => by omega⟩
    case round =>
      obtain ⟨k, rfl, hk, H0⟩ := hrel
      rcases k with _ | j
      · go_wp2_with fail
        go_meet
        exact ⟨0, rfl, Nat.zero_le _, Lib.hid ⟨H0.out, .inl rfl⟩, rfl⟩
      · obtain ⟨b, o, rfl, hb, q0⟩ := H.out.at_ (k := j) (by omega)
        have i0 : (0 : Int) < (j : Int) + 1 := by omega
        have i1 : (0 : Int) ≤ (j : Int) := by omega
        have i2 : (j : Int) < (n : Int) := by omega
        by_cases hz : f j = 0
        · rw [hz] at q0
          have HZ := Lib.hid hz
          clear hz
          go_wp2_with fail
          refine ⟨⟨j, by go_num, by omega, Lib.hid fun i h1 h2 => ?_⟩, by simp [intOf]⟩
          rcases Nat.lt_or_ge j i with h3 | h3
          · exact H0.out i h3 h2
          · obtain rfl : i = j := by omega
            exact HZ.out
        · have hz' : (((f j : Nat) : Int) == 0) = false := by simp; omega
          have HZ := Lib.hid hz
          clear hz
          go_wp2_with fail
          go_meet
          exact ⟨j + 1, by go_num, hk, Lib.hid ⟨H0.out, .inr HZ.out⟩, rfl⟩
  case rest =>
    obtain ⟨k, rfl, hk, HK, hwc⟩ := hcut
    subst hwc
    have Hs := Lib.hid (RowU.start wc)
    have Hb := Lib.hid (below_new wc (.cells #[] 137))
    have Hnm := Lib.hid (Nm.of_rd H.out hk HK.out.1 HK.out.2)
    rw [Hv.out] at Hnm
    obtain ⟨W1, hW1⟩ : ∃ W, wc.alloc (.cells #[] 137) = W := ⟨_, rfl⟩
    obtain ⟨g, hg⟩ : ∃ g, wc.heap.size = g := ⟨_, rfl⟩
    have Hgs := Lib.hid (show g ≤ W1.heap.size by rw [← hW1, ← hg]; simp)
    rw [hW1] at Hs Hb
    rw [hg] at Hs Hb
    have HW1 := Lib.hid hW1
    have Hg := Lib.hid hg
    clear hW1 hg
    go_upto_region 5 with fail
    rw [HW1.out, Hg.out]
    go_wp2_with fail
    go_loopw [4, 5] (fun s4 s5 wr => ∃ (i c4 : Nat) (A4 : Option Addr) (o : Nat → Nat), s4 = .slice A4 i c4 ∧ s5 = .int .i64 (i : Nat) ∧ i ≤ k ∧ Hid (RowU wr g (.slice A4 i c4) i o ∧ (∀ j, j < i → o j = f j)) ∧ Hid (Below g wc wr)) (fun _ s5 _ => k - (intOf s5).toNat)
    case atStart => exact ⟨0, 0, _, fun _ => 0, rfl, rfl, Nat.zero_le _, Lib.hid ⟨Hs.out, fun j hj => by omega⟩, Hb⟩
    case round =>
      obtain ⟨i, c4, A4, o, rfl, rfl, hi, HI, HW⟩ := hrel
      by_cases hlt : i < k
      · have i1 : (i : Int) < (k : Int) := by omega
        have i2 : (i : Int) < (n : Int) := by omega
        obtain ⟨b, oa, rfl, hb, q0⟩ := (H.out.below (show Below wc.heap.size wc wr by rw [Hg.out]; exact HW.out)).at_ (k := i) (by omega)
        have hsz : g ≤ wr.heap.size := by have := HW.out.size; rw [Hg.out] at this; exact this
        go_wp2_with (at_builtin; refine wpList_app rfl (.tmp 26) (.tmp 31) _ rfl elemN g _ _ _ rfl (HI.out.1.below (below_new wr _)) _ _ _ _ rfl (Sl.new wr _ _ 1 1 rfl) (by simp [Value.oneCell']) (by unfold maxLen; omega) (by omega) (by simp; omega) ?_; intro A8 c8 w5 ho5 hg5 _)
        have hb5 : Below g wc w5 := RowU.app_below (HW.out.alloc hsz (.cells #[.int .u32 (f i : Nat)] 137)) (HI.out.1.below (below_new wr (.cells #[.int .u32 (f i : Nat)] 137))) (by simp; omega) hg5
        have HF := Lib.hid (And.intro (RowU.snoc ho5) hb5)
        clear ho5 hg5 hb5
        go_wp2_with fail
        refine ⟨⟨i + 1, c8, A8, _, rfl, by go_num, by omega, Lib.hid ⟨HF.out.1, fun j hj => ?_⟩, Lib.hid HF.out.2⟩, by simp [intOf]; omega⟩
        by_cases e : j = i
        · subst e; exact upd1_self _ _ _
        · rw [upd1_ne e]; exact HI.out.2 j (by omega)
      · obtain rfl : k = i := by omega
        have hl : Lm o k := fun j hj => by rw [HI.out.2 j hj]; exact H.out.1 j (by omega)
        have Hf := Lib.hid (HR.out (.slice A4 k c4) wr ⟨A4, k, c4, rfl, HI.out.1.cap, ⟨Hnm.out.1, (HI.out.1.rd hl).congr fun j hj => by rw [HI.out.2 j hj, ← Hv.out, lim_fv H.out.1 (by omega)]⟩, fun h0 ad ha => by obtain ⟨g', c', e', h1', _⟩ := HI.out.1.form h0; injection e' with e1'; rw [ha] at e1'; injection e1' with e1'; rw [e1', Hg.out]; exact h1'⟩ (by rw [Hg.out]; exact HW.out))
        clear hl
        go_wp2_with fail
        exact Hf.out
theorem rtrim_any (A : Option Addr) (n c v : Nat) (f : Nat → Nat) (w : World) (h : Rd w A n f) (hn : n ≤ 600000) (hv : fv f n = v) :
    Calls Tryz.prog 139 #[.slice A n c] w (GetsNum w v) := (rtrim_new A n c v f w h hn hv).mono fun _ _ h => h.gets
set_option maxHeartbeats 1000000 in
theorem rOf_new (v : Nat) (w : World) (hv : v < 18446744073709551616) : Calls Tryz.prog 99 #[.int .u64 (v : Nat)] w (GetsNew w v) := by
  refine calls_cps ?_
  intro R hR
  obtain ⟨lo, hlo⟩ : ∃ x, v % 4294967296 = x := ⟨_, rfl⟩
  obtain ⟨hi, hhi⟩ : ∃ x, v / 4294967296 = x := ⟨_, rfl⟩
  have e1 : (v : Int) % 4294967296 = (lo : Int) := by omega
  have e2 : (v : Int) / 4294967296 = (hi : Int) := by omega
  have e3 : (hi : Int) % 4294967296 = (hi : Int) := by omega
  have e4 : (lo : Int) % 4294967296 = (lo : Int) := by omega
  have Hr := Lib.hid (show Rd (w.alloc (.cells #[Value.int .u32 (lo : Nat), Value.int .u32 (hi : Nat)] 137)) (some ⟨w.heap.size, 0, none⟩) 2 (fun i => if i = 0 then lo else hi) from
    ⟨fun i _ => by dsimp only; split <;> omega, fun _ => ⟨_, _, rfl, by simp, fun i hi' => by
      rw [cell_of_row _ _ _ _ _ (0, 0) (heap_alloc_new w _)]
      obtain rfl | rfl : i = 0 ∨ i = 1 := by omega
      · rfl
      · rfl⟩⟩)
  have Hv := Lib.hid (show fv (fun i => if i = 0 then lo else hi) 2 = v from by
    show 0 + lo * pw 0 + hi * pw 1 = v
    rw [pw_zero, pw_one]; omega)
  have Hf := Lib.hid (show ∀ V W, NumB (w.alloc (.cells #[Value.int .u32 (lo : Nat), Value.int .u32 (hi : Nat)] 137)).heap.size W V v → Below (w.alloc (.cells #[Value.int .u32 (lo : Nat), Value.int .u32 (hi : Nat)] 137)).heap.size (w.alloc (.cells #[Value.int .u32 (lo : Nat), Value.int .u32 (hi : Nat)] 137)) W → R (.returned V) W from fun V W g1 g2 => hR.out _ _ ⟨V, rfl, g1.less (by simp), below_one _ g2⟩)
  clear hR hlo hhi
  go_enter Tryz.func99, Tryz.ntmps99
  go_wp2_with fail
  refine (rtrim_new _ 2 2 v _ _ Hr.out (by omega) Hv.out).mono ?_
  rintro e w' ⟨V, rfl, hV, hb⟩
  have Hg := Lib.hid (Hf.out V w' hV hb)
  clear hV hb
  go_wp2_with fail
  exact Hg.out
theorem rOf_any (v : Nat) (w : World) (hv : v < 18446744073709551616) : Calls Tryz.prog 99 #[.int .u64 (v : Nat)] w (GetsNum w v) := (rOf_new v w hv).mono fun _ _ h => h.gets
theorem rat_any (V : Value) (a i : Nat) (w : World) (h : Num w V a) (_hi : i ≤ 1000000) :
    Calls Tryz.prog 166 #[V, .int .i64 (i : Nat)] w fun e w' => e = .returned (.int .u64 (lim a i : Nat)) ∧ w = w' := by
  obtain ⟨A, n, c, rfl, hnc, hN⟩ := h
  refine calls_cps ?_
  intro R hR
  have HR := Lib.hid hR
  clear hR
  rcases Nat.lt_or_ge i n with hlt | hge
  · obtain ⟨b, o, rfl, hb, q0⟩ := hN.2.at_ hlt
    have i1 : (i : Int) < (n : Int) := by omega
    have hx := lim_lt a i
    go_enter Tryz.func166, Tryz.ntmps166
    go_wp2_with fail
    exact HR.out.out _ _ ⟨rfl, rfl⟩
  · have i1 : decide ((i : Int) < (n : Int)) = false := decide_eq_false (by omega)
    have i2 : decide (i < n) = false := decide_eq_false (by omega)
    have Hz := Lib.hid (hN.over hge)
    clear hge
    go_enter Tryz.func166, Tryz.ntmps166
    go_wp2_with fail
    exact HR.out.out _ _ ⟨by rw [Hz.out]; rfl, rfl⟩
theorem top_step {a k : Nat} : a / pw k = a / pw (k + 1) * 4294967296 + lim a k := by
  unfold lim
  rw [pw_succ, Nat.mul_comm 4294967296 (pw k), ← Nat.div_div_eq_div_mul]
  have := Nat.div_add_mod (a / pw k) 4294967296
  omega
set_option maxRecDepth 16000 in
set_option maxHeartbeats 1000000 in
theorem rsmall_any (V : Value) (a : Nat) (w : World) (h : Num w V a) (hl : ln a ≤ 600000) :
    Calls Tryz.prog 74 #[V] w fun e w' => e = .returned (if a < 18446744073709551616 then .tuple #[.int .u64 (a : Nat), .bool true] else .tuple #[.int .u64 0, .bool false]) ∧ w = w' := by
  obtain ⟨A, n, c, rfl, hnc, hN⟩ := h
  refine calls_cps ?_
  intro R hR
  have h2 := ln_two_iff a
  rw [← hN.1] at h2
  have hn : n ≤ 600000 := by rw [hN.1]; exact hl
  rcases Nat.lt_or_ge a 18446744073709551616 with h64 | h64
  · have hn2 := h2.2 h64
    have HR := Lib.hid (hR.out (.returned (.tuple #[.int .u64 (a : Nat), .bool true])) w ⟨by rw [if_pos h64], rfl⟩)
    have HN := Lib.hid hN
    have t1 : decide ((2 : Int) < (n : Int)) = false := decide_eq_false (by omega)
    have t2 : decide (2 < n) = false := decide_eq_false (by omega)
    have Ha := Lib.hid h64
    clear hR h2 hN h64
    go_enter Tryz.func74, Tryz.ntmps74
    go_wp2_with fail
    go_loopw [4, 5] (fun s4 s5 wr => ∃ (k v : Nat), s4 = .int .u64 (v : Nat) ∧ s5 = .int .i64 ((k : Int) - 1) ∧ k ≤ n ∧ Hid (v = a / pw k) ∧ wr = w) (fun _ s5 _ => (intOf s5 + 1).toNat)
    case atStart => exact ⟨n, 0, rfl, rfl, Nat.le_refl _, Lib.hid (Nat.div_eq_of_lt HN.out.lt).symm, rfl⟩
    case round =>
      obtain ⟨k, v, rfl, rfl, hk, HI, hwr⟩ := hrel
      subst hwr
      rcases k with _ | k
      · have hv : v = a := by rw [HI.out, pw_zero, Nat.div_one]
        subst hv
        go_wp2_with fail
        exact HR.out
      · obtain ⟨b, o, rfl, hb, q0⟩ := HN.out.2.at_ (k := k) (by omega)
        have i0 : (0 : Int) ≤ (k : Int) := by omega
        have i1 : (k : Int) < (n : Int) := by omega
        have hst := top_step (a := a) (k := k)
        rw [← HI.out] at hst
        have hx := lim_lt a k
        obtain ⟨x, hxx⟩ : ∃ x, lim a k = x := ⟨_, rfl⟩
        rw [hxx] at q0 hx hst
        have hle : a / pw k ≤ a := Nat.div_le_self _ _
        have hb1 : v * 4294967296 + x < 18446744073709551616 := by rw [← hst]; have := Ha.out; omega
        have hbi : (v : Int) * 4294967296 + (x : Int) ≤ 18446744073709551615 := by omega
        have Hst := Lib.hid hst
        clear hxx hst hle
        go_wp2_with fail
        exact ⟨⟨k, v * 4294967296 + x, by go_num, by go_num, by omega, Lib.hid Hst.out.symm, trivial⟩, by simp [intOf]⟩
  · have hn2 : 2 < n := Nat.lt_of_not_le fun h => by have := h2.1 h; omega
    have HR := Lib.hid (hR.out (.returned (.tuple #[.int .u64 0, .bool false])) w ⟨by rw [if_neg (by omega)], rfl⟩)
    have t1 : decide ((2 : Int) < (n : Int)) = true := decide_eq_true (by omega)
    have t2 : decide (2 < n) = true := decide_eq_true (by omega)
    clear hR h2 hN h64
    go_enter Tryz.func74, Tryz.ntmps74
    go_wp2_with fail
    exact HR.out
theorem bitsN_half {v : Nat} (h : 0 < v) : bitsN v = bitsN (v / 2) + 1 := by
  obtain ⟨j, hj⟩ : ∃ j, bitsN v = j + 1 := ⟨bitsN v - 1, by have := bitsN_pos h; omega⟩
  have a1 := two_le_of_bits (v := v) (k := j) (by omega)
  have a2 := lt_two_bits v
  rw [hj] at a2
  rcases j with _ | j
  · rw [Nat.zero_add, Nat.pow_one] at a2
    have e : v / 2 = 0 := by omega
    rw [hj, e, bitsN_zero]
  · rw [hj]
    congr 1
    refine (bitsN_eq ?_ ?_).symm
    · rw [Nat.pow_succ] at a1; omega
    · rw [Nat.pow_succ] at a2; omega
set_option maxHeartbeats 1000000 in
theorem rbits_any (V : Value) (a : Nat) (w : World) (h : Num w V a) (hl : ln a ≤ 600000) :
    Calls Tryz.prog 104 #[V] w fun e w' => e = .returned (.int .i64 (bitsN a : Nat)) ∧ w = w' := by
  obtain ⟨A, n, c, rfl, hnc, hN⟩ := h
  refine calls_cps ?_
  intro R hR
  have hn : n ≤ 600000 := by rw [hN.1]; exact hl
  rcases n with _ | n
  · have h0 : a = 0 := ln_eq_zero.1 hN.1.symm
    have Hf := Lib.hid (hR.out (.returned (.int .i64 0)) w ⟨by rw [h0]; rfl, rfl⟩)
    clear h0 hR
    go_enter Tryz.func104, Tryz.ntmps104
    go_wp2
    exact Hf.out
  · obtain ⟨b, o, rfl, hb, q0⟩ := hN.2.at_ (k := n) (by omega)
    have hx := lim_lt a n
    have Hbt := Lib.hid (bitsN_top hN.1.symm)
    obtain ⟨x, hxx⟩ : ∃ x, lim a n = x := ⟨_, rfl⟩
    rw [hxx] at q0 hx Hbt
    have hb32 := bitsN_32 hx
    have i0 : (0 : Int) ≤ (n : Int) := by omega
    have HR := Lib.hid (show ∀ v, v = bitsN a → R (.returned (.int .i64 (v : Nat))) w from fun v hv => hR.out _ _ ⟨by rw [hv], rfl⟩)
    clear hxx hR hN
    go_enter Tryz.func104, Tryz.ntmps104
    go_wp2_with fail
    go_loop [3, 4] (fun s3 s4 => ∃ (k y : Nat), s3 = .int .i64 (k : Nat) ∧ s4 = .int .u32 (y : Nat) ∧ y < 4294967296 ∧ k ≤ 32 ∧ Hid (k + bitsN y = bitsN x)) (fun _ s4 => (intOf s4).toNat)
    case atStart => exact ⟨0, x, rfl, rfl, hx, by omega, Lib.hid (Nat.zero_add _)⟩
    case round =>
      obtain ⟨k, y, rfl, rfl, hy, hk, HI⟩ := hrel
      rcases Nat.eq_zero_or_pos y with h0 | h0
      · subst h0
        have hk2 : k = bitsN x := by have := HI.out; rw [bitsN_zero] at this; omega
        have Hf := HR.out (32 * n + k) (by rw [Hbt.out, hk2])
        rw [Int.natCast_add, Int.natCast_mul] at Hf
        have Hf := Lib.hid Hf
        clear hk2
        go_wp2_with fail
        exact Hf.out
      · have j1 : (0 : Int) < (y : Int) := by omega
        have hh := bitsN_half h0
        have hk2 : k + 1 ≤ 32 := by have := HI.out; omega
        have Hh := Lib.hid (show k + 1 + bitsN (y / 2) = bitsN x by rw [← HI.out, hh]; omega)
        clear hh
        go_wp2_with fail
        exact ⟨⟨k + 1, y / 2, by go_num, by simp, by omega, hk2, Hh⟩, by simp [intOf]; omega⟩
end
section
open Go.RowKit
theorem bit_of {a i : Nat} : lim a (i / 32) / 2 ^ (i % 32) % 2 = a / 2 ^ i % 2 := by
  have e : a / 2 ^ i = a / pw (i / 32) / 2 ^ (i % 32) := by
    rw [pw_two, Nat.div_div_eq_div_mul, ← Nat.pow_add, Nat.div_add_mod]
  rw [e]
  unfold lim
  obtain ⟨y, hy⟩ : ∃ y, a / pw (i / 32) = y := ⟨_, rfl⟩
  rw [hy]
  obtain ⟨r, hr⟩ : ∃ r, i % 32 = r := ⟨_, rfl⟩
  have hr32 : r < 32 := by omega
  rw [hr]
  have h32 : 4294967296 = 2 ^ r * (2 * 2 ^ (31 - r)) := by
    rw [Nat.mul_left_comm, ← Nat.pow_add, show r + (31 - r) = 31 by omega]
  have hd := Nat.div_add_mod y 4294967296
  obtain ⟨q, hq⟩ : ∃ q, y / 4294967296 = q := ⟨_, rfl⟩
  obtain ⟨m, hm⟩ : ∃ m, y % 4294967296 = m := ⟨_, rfl⟩
  rw [hq, hm] at hd
  rw [hm, ← hd]
  have e2 : 4294967296 * q + m = 2 ^ r * (2 * (2 ^ (31 - r) * q)) + m := by
    conv => lhs; rw [h32]
    rw [Nat.mul_assoc, Nat.mul_assoc]
  rw [e2, Nat.mul_add_div (Nat.pow_pos (by omega)), Nat.mul_add_mod]
set_option maxRecDepth 16000 in
set_option maxHeartbeats 1000000 in
theorem rbit_any (V : Value) (a i : Nat) (w : World) (h : Num w V a) (hi : i ≤ 20000000) :
    Calls Tryz.prog 153 #[V, .int .i64 (i : Nat)] w fun e w' => e = .returned (.int .u32 ((a / 2 ^ i % 2 : Nat))) ∧ w = w' := by
  obtain ⟨A, n, c, rfl, hnc, hN⟩ := h
  refine calls_cps ?_
  intro R hR
  obtain ⟨q, hq⟩ : ∃ q, i / 32 = q := ⟨_, rfl⟩
  obtain ⟨r, hr⟩ : ∃ r, i % 32 = r := ⟨_, rfl⟩
  have hqi : (i : Int) / 32 = (q : Int) := by omega
  have hri : (i : Int) % 32 = (r : Int) := by omega
  have hb := bit_of (a := a) (i := i)
  rw [hq, hr] at hb
  have t0 : decide ((i : Int) < 0) = false := decide_eq_false (by omega)
  have hr32 : r < 32 := by omega
  have HR := Lib.hid (show ∀ v, v = a / 2 ^ i % 2 → R (.returned (.int .u32 (v : Nat))) w from fun v hv => hR.out _ _ ⟨by rw [hv], rfl⟩)
  rcases Nat.lt_or_ge q n with hlt | hge
  · obtain ⟨b, o, rfl, hbl, q0⟩ := hN.2.at_ hlt
    have hx := lim_lt a q
    obtain ⟨x, hxx⟩ : ∃ x, lim a q = x := ⟨_, rfl⟩
    rw [hxx] at q0 hx hb
    have t1 : decide ((n : Int) ≤ (q : Int)) = false := decide_eq_false (by omega)
    have t2 : decide (n ≤ q) = false := decide_eq_false (by omega)
    have i1 : (q : Int) < (n : Int) := by omega
    have i2 : (0 : Int) ≤ (q : Int) := by omega
    have Hb := Lib.hid hb
    clear hq hr hb hxx hR
    go_enter Tryz.func153, Tryz.ntmps153
    go_wp2_with fail
    go_loop [5, 6] (fun s5 s6 => ∃ (k y : Nat), s6 = .int .i64 (k : Nat) ∧ s5 = .int .u32 (y : Nat) ∧ y < 4294967296 ∧ k ≤ r ∧ Hid (y = x / 2 ^ k)) (fun _ s6 => r - (intOf s6).toNat)
    case atStart => exact ⟨0, x, rfl, rfl, hx, Nat.zero_le _, Lib.hid (by rw [Nat.pow_zero, Nat.div_one])⟩
    case round =>
      obtain ⟨k, y, rfl, rfl, hy, hk, HI⟩ := hrel
      rcases Nat.lt_or_ge k r with hlt2 | hge2
      · have j1 : (k : Int) < (r : Int) := by omega
        have Hn := Lib.hid (show y / 2 = x / 2 ^ (k + 1) by rw [HI.out, Nat.div_div_eq_div_mul, Nat.pow_succ])
        go_wp2_with fail
        exact ⟨⟨k + 1, y / 2, by go_num, by simp, by omega, by omega, Hn⟩, by simp [intOf]; omega⟩
      · obtain rfl : r = k := by omega
        have Hf := HR.out (y % 2) (by rw [HI.out, Hb.out])
        have e : ((y % 2 : Nat) : Int) = (y : Int) % 2 := by omega
        rw [e] at Hf
        have Hf := Lib.hid Hf
        clear e hge2
        go_wp2_with fail
        exact Hf.out
  · have t1 : decide ((n : Int) ≤ (q : Int)) = true := decide_eq_true (by omega)
    have t2 : decide (n ≤ q) = true := decide_eq_true (by omega)
    have Hf := Lib.hid (HR.out 0 (by rw [← hb, hN.over hge, Nat.zero_div]))
    clear hq hr hb hR hge
    go_enter Tryz.func153, Tryz.ntmps153
    go_wp2_with fail
    exact Hf.out
set_option maxHeartbeats 1000000 in
theorem rcmp_any (V V2 : Value) (a b : Nat) (w : World) (g1 : Num w V a) (g2 : Num w V2 b) (hla : ln a ≤ 600000) (hlb : ln b ≤ 600000) :
    Calls Tryz.prog 123 #[V, V2] w fun e w' => e = .returned (.int .i64 (cmpN a b)) ∧ Qt w w' := by
  obtain ⟨A, n, c, rfl, hnc, h1⟩ := g1
  obtain ⟨B, m, d, rfl, hmd, h2⟩ := g2
  have hn : n ≤ 600000 := by rw [h1.1]; exact hla
  have hm : m ≤ 600000 := by rw [h2.1]; exact hlb
  refine calls_cps ?_
  intro R hR
  have Hl1 := Lib.hid h1.1
  have Hl2 := Lib.hid h2.1
  have Hlt := Lib.hid (show ∀ W', a < b → Qt w W' → R (.returned (.int .i64 (-1))) W' from fun _ h hq => hR.out _ _ ⟨by unfold cmpN; rw [if_pos h], hq⟩)
  have Hgt := Lib.hid (show ∀ W', b < a → Qt w W' → R (.returned (.int .i64 1)) W' from fun _ h hq => hR.out _ _ ⟨by unfold cmpN; rw [if_neg (by omega), if_neg (by omega)], hq⟩)
  have Heq := Lib.hid (show ∀ W', a = b → Qt w W' → R (.returned (.int .i64 0)) W' from fun _ h hq => hR.out _ _ ⟨by unfold cmpN; rw [if_neg (by omega), if_pos h], hq⟩)
  clear hR hla hlb
  by_cases hnm : n = m
  · subst hnm
    have hb0 : ((n : Int) != n) = false := by simp
    go_enter Tryz.func123, Tryz.ntmps123
    go_wp2_with fail
    go_loopw [5] (fun i wr => ∃ (k : Nat), k ≤ n ∧ i = .int .i64 ((k : Int) - 1) ∧ Hid (∀ j, k ≤ j → j < n → lim a j = lim b j) ∧ Qt w wr) (fun i _ => (intOf i + 1).toNat)
    case atStart => exact ⟨n, Nat.le_refl _, rfl, Lib.hid (fun j h1 h2 => by omega), Qt.refl _⟩
    case round =>
      obtain ⟨k, hk, rfl, HE, hq⟩ := hrel
      rcases k with _ | k
      · have he : a = b := by
          rw [← h1.val, ← h2.val]
          exact fv_congr fun i hi => HE.out i (Nat.zero_le _) hi
        have Hf := Lib.hid (Heq.out wr he hq)
        clear he
        go_wp2
        exact Hf.out
      · obtain ⟨bl, o, rfl, hbl, q0⟩ := (show Rd wr A n (lim a) from by obtain ⟨q, rfl⟩ := hq; exact h1.2).at_ (k := k) (by omega)
        obtain ⟨bl', o', rfl, hbl', r0⟩ := (show Rd wr B n (lim b) from by obtain ⟨q, rfl⟩ := hq; exact h2.2).at_ (k := k) (by omega)
        have i1 : (0 : Int) ≤ (k : Int) := by omega
        have i2 : (k : Int) < (n : Int) := by omega
        have Hless := Lib.hid (fun hl => @fv_less (lim a) (lim b) n k h1.2.1 h2.2.1 (by omega) (fun j g1 g2 => HE.out j (by omega) g2) hl)
        have Hmore := Lib.hid (fun hl => @fv_less (lim b) (lim a) n k h2.2.1 h1.2.1 (by omega) (fun j g1 g2 => (HE.out j (by omega) g2).symm) hl)
        rw [h1.val, h2.val] at Hless Hmore
        obtain ⟨x, hx⟩ : ∃ x, lim a k = x := ⟨_, rfl⟩
        obtain ⟨y, hy⟩ : ∃ y, lim b k = y := ⟨_, rfl⟩
        rw [hx] at q0 Hless Hmore
        rw [hy] at r0 Hless Hmore
        have Hx := Lib.hid hx
        have Hy := Lib.hid hy
        clear hx hy
        rcases Nat.lt_trichotomy x y with hl | hl | hl
        · have t2 : decide (((x : Nat) : Int) < (y : Int)) = true := decide_eq_true (by omega)
          have t3 : decide (x < y) = true := decide_eq_true (by omega)
          have Hf := Lib.hid (fun W h => Hlt.out W (Hless.out hl) h)
          clear hl
          go_wp2_with fail
          go_quiet (fail)
          go_wp2_with fail
          exact Hf.out _ (hq.step _)
        · have t2 : decide (((x : Nat) : Int) < (y : Int)) = false := decide_eq_false (by omega)
          have t3 : decide (x < y) = false := decide_eq_false (by omega)
          have t4 : decide (((y : Nat) : Int) < (x : Int)) = false := decide_eq_false (by omega)
          have t5 : decide (y < x) = false := decide_eq_false (by omega)
          have HL := Lib.hid hl
          clear hl
          go_wp2_with fail
          go_quiet (fail)
          go_wp2_with fail
          go_quiet (fail)
          go_wp2_with fail
          refine ⟨⟨k, by omega, by go_num, Lib.hid fun j g1 g2 => ?_, (by first | exact hq.step _ | exact (hq.step _).step _)⟩, by simp [intOf]⟩
          rcases Nat.lt_or_ge k j with h | h
          · exact HE.out j h g2
          · obtain rfl : j = k := by omega
            rw [Hx.out, Hy.out, HL.out]
        · have t2 : decide (((x : Nat) : Int) < (y : Int)) = false := decide_eq_false (by omega)
          have t3 : decide (x < y) = false := decide_eq_false (by omega)
          have t4 : decide (((y : Nat) : Int) < (x : Int)) = true := decide_eq_true (by omega)
          have t5 : decide (y < x) = true := decide_eq_true (by omega)
          have Hf := Lib.hid (fun W h => Hgt.out W (Hmore.out hl) h)
          clear hl
          go_wp2_with fail
          go_quiet (fail)
          go_wp2_with fail
          go_quiet (fail)
          go_wp2_with fail
          exact Hf.out _ (by first | exact hq.step _ | exact (hq.step _).step _)
  · have hb0 : ((n : Int) != m) = true := by simp; omega
    rcases Nat.lt_or_ge n m with hl | hl
    · have hb1 : decide ((n : Int) < (m : Int)) = true := decide_eq_true (by omega)
      have hb2 : decide (n < m) = true := decide_eq_true (by omega)
      have Hf := Lib.hid (Hlt.out w (lt_of_ln (by rw [← Hl1.out, ← Hl2.out]; exact hl)) (Qt.refl _))
      clear hnm hl
      go_enter Tryz.func123, Tryz.ntmps123
      go_wp2
      exact Hf.out
    · have hb1 : decide ((n : Int) < (m : Int)) = false := decide_eq_false (by omega)
      have hb2 : decide (n < m) = false := decide_eq_false (by omega)
      have Hf := Lib.hid (Hgt.out w (lt_of_ln (by rw [← Hl1.out, ← Hl2.out]; omega)) (Qt.refl _))
      clear hnm hl
      go_enter Tryz.func123, Tryz.ntmps123
      go_wp2
      exact Hf.out
end
section
open Go.RowKit
set_option maxRecDepth 16000 in
set_option maxHeartbeats 4000000 in
theorem radd_any (V V2 : Value) (a b : Nat) (w : World) (g1 : Num w V a) (g2 : Num w V2 b) (hla : ln a ≤ 100000) (hlb : ln b ≤ 100000) :
    Calls Tryz.prog 151 #[V, V2] w (GetsNum w (a + b)) := by
  have G1 := Lib.hid g1
  have G2 := Lib.hid g2
  obtain ⟨A, n, c, rfl, hnc, h1⟩ := g1
  obtain ⟨B, m, d, rfl, hmd, h2⟩ := g2
  have hn : n ≤ 100000 := by rw [h1.1]; exact hla
  have hm : m ≤ 100000 := by rw [h2.1]; exact hlb
  obtain ⟨M, hM⟩ : ∃ M, max n m = M := ⟨_, rfl⟩
  have hM1 : n ≤ M ∧ m ≤ M ∧ M ≤ 100000 := by omega
  obtain ⟨m1, m2, m3⟩ := hM1
  have HM := Lib.hid hM
  refine calls_cps ?_
  intro R hR
  have HR := Lib.hid (show ∀ V W, Num W V (a + b) → Below w.heap.size w W → R (.returned V) W from fun V W g1 g2 => hR.out _ _ ⟨V, rfl, g1, g2⟩)
  have Hs := Lib.hid (RowU.start w)
  have Hb := Lib.hid (below_new w (.cells #[] 137))
  have Hva := Lib.hid (show fv (lim a) M = a ∧ fv (lim b) M = b from ⟨fv_lim_eq (Nat.lt_of_lt_of_le h1.lt (pw_le m1)), fv_lim_eq (Nat.lt_of_lt_of_le h2.lt (pw_le m2))⟩)
  clear hR hla hlb hM h1 h2
  obtain ⟨W1, hW1⟩ : ∃ W, w.alloc (.cells #[] 137) = W := ⟨_, rfl⟩
  obtain ⟨g, hg⟩ : ∃ g, w.heap.size = g := ⟨_, rfl⟩
  rw [hW1] at Hs Hb
  rw [hg] at Hs Hb
  have HW1 := Lib.hid hW1
  have Hg := Lib.hid hg
  clear hW1 hg
  go_enter Tryz.func151, Tryz.ntmps151
  go_upto_region 2 with fail
  rw [HW1.out, Hg.out]
  go_wp2_with fail
  go_loopw [5, 6, 7, 8] (fun s5 s6 s7 _ wr => ∃ (i cy c5 : Nat) (A5 : Option Addr) (o : Nat → Nat), s5 = .slice A5 i c5 ∧ s6 = .int .u64 (cy : Nat) ∧ s7 = .int .i64 (i : Nat) ∧ i ≤ M ∧ cy ≤ 1 ∧ Hid (RowU wr g (.slice A5 i c5) i o ∧ Lm o i ∧ fv o i + cy * pw i = fv (lim a) i + fv (lim b) i) ∧ Hid (Below g w wr)) (fun _ _ s7 _ _ => M - (intOf s7).toNat)
  case atStart => exact ⟨0, 0, 0, _, fun _ => 0, rfl, rfl, rfl, Nat.zero_le _, by omega, Lib.hid ⟨Hs.out, fun i hi => by omega, rfl⟩, Hb⟩
  case round =>
    obtain ⟨i, cy, c5, A5, o, rfl, rfl, rfl, hi, hcy, HI, HW⟩ := hrel
    have hsz : g ≤ wr.heap.size := by have := HW.out.size; rw [Hg.out] at this; exact this
    rcases Nat.lt_or_ge i M with hlt | hge
    · have hx := lim_lt a i
      have hy := lim_lt b i
      have Hat := Lib.hid (show Num wr (.slice A n c) a ∧ Num wr (.slice B m d) b from ⟨G1.out.below (by rw [Hg.out]; exact HW.out), G2.out.below (by rw [Hg.out]; exact HW.out)⟩)
      have hc1 := fun W h => rat_any (.slice A n c) a i W h (by omega)
      have hc2 := fun W h => rat_any (.slice B m d) b i W h (by omega)
      obtain ⟨x, hxx⟩ : ∃ x, lim a i = x := ⟨_, rfl⟩
      obtain ⟨y, hyy⟩ : ∃ y, lim b i = y := ⟨_, rfl⟩
      rw [hxx] at hx hc1
      rw [hyy] at hy hc2
      have Hc1 := Lib.hid hc1
      have Hc2 := Lib.hid hc2
      obtain ⟨lo, hlo⟩ : ∃ t, (x + y + cy) % 4294967296 = t := ⟨_, rfl⟩
      obtain ⟨hi', hhi⟩ : ∃ t, (x + y + cy) / 4294967296 = t := ⟨_, rfl⟩
      have e1 : ((x : Int) + (y : Int) + (cy : Int)) % 4294967296 = (lo : Int) := by omega
      have e2 : ((x : Int) + (y : Int) + (cy : Int)) / 4294967296 = (hi' : Int) := by omega
      have e3 : (lo : Int) % 4294967296 = (lo : Int) := by omega
      have hlol : lo < 4294967296 := by omega
      have hhil : hi' ≤ 1 := by omega
      have Hst := Lib.hid (show Lm (upd1 o i lo) (i + 1) ∧ fv (upd1 o i lo) (i + 1) + hi' * pw (i + 1) = fv (lim a) (i + 1) + fv (lim b) (i + 1) from by
        refine ⟨fun j hj => ?_, ?_⟩
        · by_cases e : j = i
          · subst e; rw [upd1_self]; exact hlol
          · rw [upd1_ne e]; exact HI.out.2.1 j (by omega)
        · have h := plus_step (f := upd1 o i lo) (a := lim a) (b := lim b) (i := i) (c := cy) (c' := hi') (s := lo) (V := fv (lim a) i + fv (lim b) i) (by rw [fv_upd_out (Nat.le_refl _)]; exact HI.out.2.2) (by rw [hxx, hyy, ← hlo, ← hhi]; exact Nat.mod_add_div _ _) (upd1_self _ _ _)
          rw [h, fv_succ, fv_succ]; omega)
      clear hxx hyy hlo hhi hc1 hc2
      have Hcond := Lib.hid (show i < n ∨ (n ≤ i ∧ i < m) by have := HM.out; omega)
      rcases Hcond.out with hc | ⟨hc, hc'⟩
      · have t1 : (i : Int) < (n : Int) := by omega
        go_wp2_with (first
          | ((with_reducible refine (Hc1.out _ Hat.out.1).mono ?_); rintro e w' ⟨rfl, hw⟩; subst hw)
          | ((with_reducible refine (Hc2.out _ Hat.out.2).mono ?_); rintro e w' ⟨rfl, hw⟩; subst hw)
          | (at_builtin; refine wpList_app rfl (.tmp 31) (.tmp 35) _ rfl elemN g _ _ _ rfl (HI.out.1.below (below_new wr _)) _ _ _ _ rfl (Sl.new wr _ _ 1 1 rfl) (by simp [Value.oneCell']) (by unfold maxLen; omega) (by omega) (by simp; omega) ?_; intro A8 c8 w5 ho5 hg5 _))
        have hb5 : Below g w w5 := RowU.app_below (HW.out.alloc hsz (.cells #[.int .u32 (lo : Nat)] 137)) (HI.out.1.below (below_new wr (.cells #[.int .u32 (lo : Nat)] 137))) (by simp; omega) hg5
        have HF := Lib.hid (And.intro (RowU.snoc ho5) hb5)
        clear ho5 hg5 hb5
        exact ⟨⟨i + 1, hi', c8, A8, _, rfl, by rw [e2], by go_num, by omega, hhil, Lib.hid ⟨HF.out.1, Hst.out⟩, Lib.hid HF.out.2⟩, by simp [intOf]; omega⟩
      · have t1 : decide ((i : Int) < (n : Int)) = false := decide_eq_false (by omega)
        have t2 : decide (i < n) = false := decide_eq_false (by omega)
        have t3 : (i : Int) < (m : Int) := by omega
        clear hc
        go_wp2_with (first
          | ((with_reducible refine (Hc1.out _ Hat.out.1).mono ?_); rintro e w' ⟨rfl, hw⟩; subst hw)
          | ((with_reducible refine (Hc2.out _ Hat.out.2).mono ?_); rintro e w' ⟨rfl, hw⟩; subst hw)
          | (at_builtin; refine wpList_app rfl (.tmp 31) (.tmp 35) _ rfl elemN g _ _ _ rfl (HI.out.1.below (below_new wr _)) _ _ _ _ rfl (Sl.new wr _ _ 1 1 rfl) (by simp [Value.oneCell']) (by unfold maxLen; omega) (by omega) (by simp; omega) ?_; intro A8 c8 w5 ho5 hg5 _))
        have hb5 : Below g w w5 := RowU.app_below (HW.out.alloc hsz (.cells #[.int .u32 (lo : Nat)] 137)) (HI.out.1.below (below_new wr (.cells #[.int .u32 (lo : Nat)] 137))) (by simp; omega) hg5
        have HF := Lib.hid (And.intro (RowU.snoc ho5) hb5)
        clear ho5 hg5 hb5
        exact ⟨⟨i + 1, hi', c8, A8, _, rfl, by rw [e2], by go_num, by omega, hhil, Lib.hid ⟨HF.out.1, Hst.out⟩, Lib.hid HF.out.2⟩, by simp [intOf]; omega⟩
    · obtain rfl : M = i := by omega
      have t1 : decide ((M : Int) < (n : Int)) = false := decide_eq_false (by omega)
      have t2 : decide (M < n) = false := decide_eq_false (by omega)
      have t3 : decide ((M : Int) < (m : Int)) = false := decide_eq_false (by omega)
      have t4 : decide (M < m) = false := decide_eq_false (by omega)
      have e3 : (cy : Int) % 4294967296 = (cy : Int) := by omega
      clear hge m1 m2
      go_wp2_with (at_builtin; refine wpList_app rfl (.tmp 39) (.tmp 42) _ rfl elemN g _ _ _ rfl (HI.out.1.below (below_new wr _)) _ _ _ _ rfl (Sl.new wr _ _ 1 1 rfl) (by simp [Value.oneCell']) (by unfold maxLen; omega) (by omega) (by simp; omega) ?_; intro A8 c8 w5 ho5 hg5 _)
      have hb5 : Below g w w5 := RowU.app_below (HW.out.alloc hsz (.cells #[.int .u32 (cy : Nat)] 137)) (HI.out.1.below (below_new wr (.cells #[.int .u32 (cy : Nat)] 137))) (by simp; omega) hg5
      have hl : Lm (upd1 o M cy) (M + 1) := fun j hj => by
        by_cases e : j = M
        · subst e; rw [upd1_self]; omega
        · rw [upd1_ne e]; exact HI.out.2.1 j (by omega)
      have HF := Lib.hid (And.intro ((RowU.snoc ho5).rd hl) hb5)
      have Hv := Lib.hid (show fv (upd1 o M cy) (M + 1) = a + b by rw [fv_succ, upd1_self, fv_upd_out (Nat.le_refl _), HI.out.2.2, Hva.out.1, Hva.out.2])
      clear ho5 hg5 hb5 hl
      refine (rtrim_any A8 (M + 1) c8 (a + b) _ w5 HF.out.1 (by omega) Hv.out).mono ?_
      rintro e w6 ⟨V6, rfl, hV6, hb6⟩
      have Hf := Lib.hid (HR.out V6 w6 hV6 (by rw [Hg.out]; exact HF.out.2.trans (hb6.mono (by have := HF.out.2.size; rw [Hg.out] at this; exact this))))
      clear hV6 hb6
      go_wp2_with fail
      exact Hf.out
set_option maxRecDepth 16000 in
set_option maxHeartbeats 4000000 in
theorem rsub_new (V V2 : Value) (a b : Nat) (w : World) (g1 : Num w V a) (g2 : Num w V2 b) (hla : ln a ≤ 100000) (hba : b ≤ a) :
    Calls Tryz.prog 154 #[V, V2] w (GetsNew w (a - b)) := by
  have G1 := Lib.hid g1
  have G2 := Lib.hid g2
  obtain ⟨A, n, c, rfl, hnc, h1⟩ := g1
  obtain ⟨B, m, d, rfl, hmd, h2⟩ := g2
  have hn : n ≤ 100000 := by rw [h1.1]; exact hla
  have hm : m ≤ n := by rw [h1.1, h2.1]; exact ln_mono hba
  refine calls_cps ?_
  intro R hR
  have HR := Lib.hid (show ∀ V W, NumB w.heap.size W V (a - b) → Below w.heap.size w W → R (.returned V) W from fun V W g1 g2 => hR.out _ _ ⟨V, rfl, g1, g2⟩)
  have Hs := Lib.hid (RowU.start w)
  have Hb := Lib.hid (below_new w (.cells #[] 137))
  have Hva := Lib.hid (show fv (lim a) n = a ∧ fv (lim b) n = b ∧ a < pw n from ⟨fv_lim_eq h1.lt, fv_lim_eq (Nat.lt_of_lt_of_le h2.lt (pw_le hm)), h1.lt⟩)
  have Hba := Lib.hid hba
  clear hR hla h1 h2 hba
  obtain ⟨W1, hW1⟩ : ∃ W, w.alloc (.cells #[] 137) = W := ⟨_, rfl⟩
  obtain ⟨g, hg⟩ : ∃ g, w.heap.size = g := ⟨_, rfl⟩
  rw [hW1] at Hs Hb
  rw [hg] at Hs Hb
  have HW1 := Lib.hid hW1
  have Hg := Lib.hid hg
  clear hW1 hg
  go_enter Tryz.func154, Tryz.ntmps154
  go_upto_region 2 with fail
  rw [HW1.out, Hg.out]
  go_wp2_with fail
  go_loopw [5, 6, 7, 8] (fun s5 s6 s7 _ wr => ∃ (i bo c5 : Nat) (A5 : Option Addr) (o : Nat → Nat), s5 = .slice A5 i c5 ∧ s6 = .int .u64 (bo : Nat) ∧ s7 = .int .i64 (i : Nat) ∧ i ≤ n ∧ bo ≤ 1 ∧ Hid (RowU wr g (.slice A5 i c5) i o ∧ Lm o i ∧ fv o i + fv (lim b) i = fv (lim a) i + bo * pw i) ∧ Hid (Below g w wr)) (fun _ _ s7 _ _ => n - (intOf s7).toNat)
  case atStart => exact ⟨0, 0, 0, _, fun _ => 0, rfl, rfl, rfl, Nat.zero_le _, by omega, Lib.hid ⟨Hs.out, fun i hi => by omega, rfl⟩, Hb⟩
  case round =>
    obtain ⟨i, bo, c5, A5, o, rfl, rfl, rfl, hi, hbo, HI, HW⟩ := hrel
    have hsz : g ≤ wr.heap.size := by have := HW.out.size; rw [Hg.out] at this; exact this
    rcases Nat.lt_or_ge i n with hlt | hge
    · have hx := lim_lt a i
      have hy := lim_lt b i
      have Hat := Lib.hid (show Num wr (.slice A n c) a ∧ Num wr (.slice B m d) b from ⟨G1.out.below (by rw [Hg.out]; exact HW.out), G2.out.below (by rw [Hg.out]; exact HW.out)⟩)
      have hc1 := fun W h => rat_any (.slice A n c) a i W h (by omega)
      have hc2 := fun W h => rat_any (.slice B m d) b i W h (by omega)
      obtain ⟨x, hxx⟩ : ∃ x, lim a i = x := ⟨_, rfl⟩
      obtain ⟨y, hyy⟩ : ∃ y, lim b i = y := ⟨_, rfl⟩
      rw [hxx] at hx hc1
      rw [hyy] at hy hc2
      have Hc1 := Lib.hid hc1
      have Hc2 := Lib.hid hc2
      obtain ⟨v, hv⟩ : ∃ v, 4294967296 + x - y - bo = v := ⟨_, rfl⟩
      obtain ⟨lo, hlo⟩ : ∃ t, v % 4294967296 = t := ⟨_, rfl⟩
      obtain ⟨q, hq⟩ : ∃ t, v / 4294967296 = t := ⟨_, rfl⟩
      have hq1 : q ≤ 1 := by omega
      have e0 : (4294967296 : Int) + (x : Int) - (y : Int) - (bo : Int) = (v : Int) := by omega
      have e1 : (v : Int) % 4294967296 = (lo : Int) := by omega
      have e2 : (v : Int) / 4294967296 = (q : Int) := by omega
      have e3 : (lo : Int) % 4294967296 = (lo : Int) := by omega
      have e4 : (1 : Int) - (q : Int) = ((1 - q : Nat) : Int) := by omega
      have hlol : lo < 4294967296 := by omega
      have hdig : lo + y + bo = x + 4294967296 * (1 - q) := by omega
      obtain ⟨q', hq'⟩ : ∃ q', 1 - q = q' := ⟨_, rfl⟩
      rw [hq'] at e4 hdig
      have hq'1 : q' ≤ 1 := by omega
      have Hst := Lib.hid (show Lm (upd1 o i lo) (i + 1) ∧ fv (upd1 o i lo) (i + 1) + fv (lim b) (i + 1) = fv (lim a) (i + 1) + q' * pw (i + 1) from by
        refine ⟨fun j hj => ?_, ?_⟩
        · by_cases e : j = i
          · subst e; rw [upd1_self]; exact hlol
          · rw [upd1_ne e]; exact HI.out.2.1 j (by omega)
        · exact minus_step (f := upd1 o i lo) (a := lim a) (b := lim b) (i := i) (c := bo) (c' := q') (s := lo) (by rw [fv_upd_out (Nat.le_refl _)]; exact HI.out.2.2) (by rw [hxx, hyy]; exact hdig) (upd1_self _ _ _))
      have t1 : (i : Int) < (n : Int) := by omega
      clear hxx hyy hlo hq hc1 hc2 hv hq' hdig
      go_wp2_with (first
        | ((with_reducible refine (Hc1.out _ Hat.out.1).mono ?_); rintro e w' ⟨rfl, hw⟩; subst hw)
        | ((with_reducible refine (Hc2.out _ Hat.out.2).mono ?_); rintro e w' ⟨rfl, hw⟩; subst hw)
        | (at_builtin; refine wpList_app rfl (.tmp 26) (.tmp 30) _ rfl elemN g _ _ _ rfl (HI.out.1.below (below_new wr _)) _ _ _ _ rfl (Sl.new wr _ _ 1 1 rfl) (by simp [Value.oneCell']) (by unfold maxLen; omega) (by omega) (by simp; omega) ?_; intro A8 c8 w5 ho5 hg5 _))
      have hb5 : Below g w w5 := RowU.app_below (HW.out.alloc hsz (.cells #[.int .u32 (lo : Nat)] 137)) (HI.out.1.below (below_new wr (.cells #[.int .u32 (lo : Nat)] 137))) (by simp; omega) hg5
      have HF := Lib.hid (And.intro (RowU.snoc ho5) hb5)
      clear ho5 hg5 hb5
      exact ⟨⟨i + 1, q', c8, A8, _, rfl, by simp, by go_num, by omega, hq'1, Lib.hid ⟨HF.out.1, Hst.out⟩, Lib.hid HF.out.2⟩, by simp [intOf]; omega⟩
    · obtain rfl : n = i := by omega
      have Hv := Lib.hid (show fv o n = a - b from by
        have h := HI.out.2.2
        rw [Hva.out.1, Hva.out.2.1] at h
        have hf := fv_lt HI.out.2.1
        have hlt := Hva.out.2.2
        have hb0 : bo = 0 := Nat.eq_zero_of_not_pos fun hp => by
          obtain rfl : bo = 1 := by omega
          have := Hba.out
          omega
        rw [hb0] at h
        omega)
      have HF := Lib.hid (HI.out.1.rd HI.out.2.1)
      go_wp2_with fail
      refine (rtrim_new A5 n c5 (a - b) o wr HF.out (by omega) Hv.out).mono ?_
      rintro e w6 ⟨V6, rfl, hV6, hb6⟩
      have Hf := Lib.hid (HR.out V6 w6 (hV6.less (by rw [Hg.out]; exact hsz)) (by rw [Hg.out]; exact HW.out.trans (hb6.mono hsz)))
      clear hV6 hb6
      go_wp2_with fail
      exact Hf.out
theorem rsub_any (V V2 : Value) (a b : Nat) (w : World) (g1 : Num w V a) (g2 : Num w V2 b) (hla : ln a ≤ 100000) (hba : b ≤ a) :
    Calls Tryz.prog 154 #[V, V2] w (GetsNum w (a - b)) := (rsub_new V V2 a b w g1 g2 hla hba).mono fun _ _ h => h.gets
end
end Go.Proofs.YtojbldoekalbnaaGreat
