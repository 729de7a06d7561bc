/-
  The bytes of an entry: put, sum, encode; no condition but the sizes that each theorem states.
-/
import Derived.Test.YtndcijkgaadpgaaGreatDoorUa
import Derived.Deep.LoopGhost
import Derived.IntWalk
import Derived.Laws.BitsAllLaws
import Derived.Lib.AppendStr
namespace Go.Proofs.YtndcijkgaadpgaaGreatDoor
section
open Go.RowKit
set_option maxHeartbeats 2000000 in
theorem put_any (A : Option Addr) (m c n size B : Nat) (xs : List UInt8) (w : World) (ho : w.ownsRow B 5 1 (.slice A m c) m (xs.flatMap byE)) (hB : B ≤ w.heap.size) (_hn : n < 4294967296) (hs : size ≤ 4) (hm : m ≤ 100000) :
    Calls Tryz.prog 366 #[.slice A m c, .int .u32 (n : Int), .int .i64 (size : Int)] w fun e w' => ∃ A' c', e = .returned (.slice A' (m + size) c') ∧ w'.ownsRow B 5 1 (.slice A' (m + size) c') (m + size) ((xs ++ putL n size).flatMap byE) ∧ Below B w w' := by
  refine calls_cps ?_
  intro R hR
  have Hr := Lib.hid hR.out
  have HO := Lib.hid ho
  clear hR ho
  go_enter Tryz.func366, Tryz.ntmps366
  go_wp2_with fail
  go_loopw [0, 7] (fun s0 s7 wr => ∃ (k : Nat) (dn : List UInt8) (A' : Option Addr) (c' l : Nat), k ≤ size ∧ s7 = .int .i64 ((k : Int) - 1) ∧ Hid (putL n size = dn ++ putL n k) ∧ s0 = .slice A' l c' ∧ l ≤ 100004 ∧ Hid (l = m + (size - k)) ∧ Hid (wr.ownsRow B 5 1 (.slice A' l c') l ((xs ++ dn).flatMap byE)) ∧ Hid (Below B w wr)) (fun _ s7 _ => (intOf s7 + 1).toNat)
  case atStart => exact ⟨size, [], A, c, m, Nat.le_refl _, rfl, Lib.hid rfl, rfl, by omega, Lib.hid (by omega), Lib.hid (by rw [List.append_nil]; exact HO.out), Lib.hid (Below.refl _ _)⟩
  case round =>
    obtain ⟨k, dn, A', c', l, hk, rfl, Hp, rfl, hl, Hl, Ho, Hb⟩ := hrel
    cases k with
    | zero =>
      rw [show ((0 : Nat) : Int) - 1 = -1 from rfl]
      have Hf := Lib.hid (show R (.returned (.slice A' l c')) wr from Hr.out _ _ (by
        have hl' := Hl.out
        have hp := Hp.out
        have ho := Ho.out
        simp only [Nat.sub_zero] at hl'
        subst hl'
        simp only [putL, List.append_nil] at hp
        rw [← hp] at ho
        exact ⟨A', c', rfl, ho, Hb.out⟩))
      clear Hr HO Ho Hb Hp Hl
      go_wp2
      exact Hf.out
    | succ k =>
      rw [show (((k + 1 : Nat) : Int) - 1) = (k : Int) by omega]
      have i1 : 0 ≤ 8 * (k : Int) := by omega
      have i2 : 8 * (k : Int) ≤ 24 := by omega
      have HA : ∀ o, Hid ((wr.alloc o).ownsRow B 5 1 (.slice A' l c') l ((xs ++ dn).flatMap byE)) := fun o => Lib.hid (Ho.out.alloc o)
      have HBs := Lib.hid (Nat.le_trans hB Hb.out.size)
      go_wp2_with (at_builtin; refine wpList_app rfl (.tmp 14) (.tmp 20) _ rfl elemBy B _ _ _ rfl (HA _).out _ _ _ _ rfl (Sl.newAt wr #[.int .u8 ((n : Int) / 2 ^ (8 * k) % 256)] _ 1 1 rfl rfl) (by simp [Value.oneCell']) (by unfold maxLen; omega) (by omega) (by simp; exact Nat.le_succ_of_le HBs.out) ?_; intro A2 c2 w1 ho1 hg1 hl1)
      refine ⟨⟨k, dn ++ [UInt8.ofNat (n / 256 ^ k)], A2, c2, l + 1, by omega, rfl, Lib.hid ?_, rfl, by have := Hl.out; omega, Lib.hid (by have := Hl.out; omega), Lib.hid ?_, Lib.hid ?_⟩, by simp [intOf]⟩
      · rw [Hp.out, putL, List.append_assoc]; rfl
      · have e : byE (UInt8.ofNat (n / 256 ^ k)) = [.int .u8 ((n : Int) / 2 ^ (8 * k) % 256)] := by
          unfold byE
          rw [UInt8.toNat_ofNat', show (256 : Nat) = 2 ^ 8 from rfl, ← Nat.pow_mul]
          simp
        rw [← List.append_assoc, List.flatMap_append, List.flatMap_cons, e]
        simpa using ho1
      · exact below_own (Hb.out.alloc HBs.out _) ((HA _).out) (Nat.le_refl _) (by simp; exact Nat.le_succ_of_le HBs.out) hg1
theorem or_add (a b : Nat) (hb : b < 32) : (a * 32) ||| b = a * 32 + b := by
  have := Nat.two_pow_add_eq_or_of_lt (i := 5) (b := b) (by simpa using hb) a
  rw [show 2 ^ 5 * a = a * 32 by omega] at this
  exact this.symm
set_option maxHeartbeats 2000000 in
theorem rot5_any (x : Nat) (hx : x < 4294967296) (w : World) :
    Calls Tryz.prog 125 #[.int .u32 (x : Int), .int .i64 5] w fun e w' => e = .returned (.int .u32 (((x * 32) % 4294967296 + x / 134217728 : Nat) : Int)) ∧ w = w' := by
  have e1 : bits BinOp.and IntKind.u64 5 31 = 5 := by decide +kernel
  have hx' : (x : Int) < 4294967296 := by omega
  go_enter Tryz.func125, Tryz.ntmps125
  go_wp2_with fail
  go_ret
  refine ⟨ret_int ?_, rfl⟩
  have e2 : ((x : Int) * 32 % 4294967296) = ((x * 32 % 4294967296 : Nat) : Int) := by omega
  have e3 : ((x : Int) / 134217728) = ((x / 134217728 : Nat) : Int) := by omega
  rw [e2, e3, u32_or_nat _ _ (by omega) (by omega)]
  have e4 : x * 32 % 4294967296 = (x % 134217728) * 32 := by omega
  rw [e4, or_add _ _ (by omega)]
def rotN (s : Nat) : Nat := (s * 32) % 4294967296 + s / 134217728
theorem rotN_lt {s : Nat} (h : s < 4294967296) : rotN s < 4294967296 := by unfold rotN; omega
theorem sumS_eq (s : Nat) (c : UInt8) : ((rotN s * 31 % 4294967296) + c.toNat) % 4294967296 = sumS s c := by unfold sumS rotN; omega
theorem sumL_lt (x : List UInt8) : sumL x < 4294967296 := by
  unfold sumL
  have : ∀ (x : List UInt8) (s : Nat), s < 4294967296 → x.foldl sumS s < 4294967296 := by
    intro x
    induction x with
    | nil => intro s h; exact h
    | cons c r ih => intro s _; exact ih _ (by unfold sumS; omega)
  exact this x _ (Nat.mod_lt _ (by decide))
theorem sumS_lt (s : Nat) (c : UInt8) : sumS s c < 4294967296 := by unfold sumS; omega
set_option maxHeartbeats 2000000 in
theorem sum_any (A : Option Addr) (n c : Nat) (x : List UInt8) (w : World) (h : SlE byE 1 w A n x) (hn : n ≤ 100000) :
    Calls Tryz.prog 66 #[.slice A n c] w fun e w' => e = .returned (.int .u32 (sumL x : Nat)) ∧ w = w' := by
  refine calls_cps ?_
  intro R hR
  have Hr := Lib.hid (show ∀ v, v = sumL x → R (.returned (.int .u32 (v : Nat))) w from fun v hv => hR.out _ _ ⟨by rw [hv], rfl⟩)
  have HX := Lib.hid h
  have Hn := Lib.hid h.1
  clear hR h
  have i0 : (n : Int) < 4294967295 := by omega
  go_enter Tryz.func66, Tryz.ntmps66
  go_wp2_with fail
  go_loopw [3, 12] (fun s3 s12 wr => ∃ (k v : Nat), k ≤ n ∧ s12 = .int .i64 (k : Int) ∧ s3 = .int .u32 (v : Int) ∧ v < 4294967296 ∧ Hid (v = (x.take k).foldl sumS ((x.length + 1) % 4294967296)) ∧ w = wr) (fun _ s12 _ => n - (intOf s12).toNat)
  case atStart => exact ⟨0, n + 1, Nat.zero_le _, rfl, by simp, by omega, Lib.hid (by rw [← Hn.out, List.take_zero]; show n + 1 = (n + 1) % 4294967296; omega), rfl⟩
  case round =>
    obtain ⟨k, v, hk, rfl, rfl, hv, Hv, rfl⟩ := hrel
    by_cases hlt : k < n
    · obtain ⟨b, o, y, rfl, hb, hy, hc⟩ := HX.out.at_ byE_len hlt
      have q0 := hc 0 _ rfl
      have hy256 : (y.toNat : Int) < 256 := by have := y.toNat_lt; omega
      have i1 : (k : Int) < (n : Int) := by omega
      have Hy := Lib.hid hy
      simp only [Nat.mul_one, Nat.add_zero] at q0
      clear hc hy
      have hr2 := rotN_lt hv
      go_wp2_with (go_at_call 125; (with_reducible refine (rot5_any _ hv _).mono ?_); rintro e w' ⟨rfl, rfl⟩)
      refine ⟨⟨k + 1, sumS v y, hlt, by go_num, ?_, sumS_lt _ _, Lib.hid ?_, by trivial⟩, by simp [intOf] <;> omega⟩
      · rw [← sumS_eq]
        unfold rotN
        congr 1
      · rw [List.take_add_one, Hy.out, List.foldl_append, ← Hv.out]; rfl
    · have hkn : k = n := by omega
      subst hkn
      have i1 : ¬ (k : Int) < (k : Int) := by omega
      have Hf := Hr.out v (by rw [Hv.out, List.take_of_length_le (by rw [← Hn.out]; exact Nat.le_refl _)]; rfl)
      have HF := Lib.hid Hf
      clear Hr Hf Hv HX Hn
      go_wp2
      exact HF.out
theorem SlE.below' {α : Type} {enc : α → List Value} {sz : Nat} {w w' : World} {A : Option Addr} {n : Nat} {l : List α} (h : SlE enc sz w A n l) (hb : Below w.heap.size w w') : SlE enc sz w' A n l := h.below hb
theorem hcell4 {W : World} {b : Nat} {t : TypeId} {u0 u1 u2 u3 : Value} (h : W.heap[b]? = some (.cells #[u0, u1, u2, u3] t (0, 0))) :
    W.cell? ⟨b, 0, none⟩ = some u0 ∧ W.cell? ⟨b, 1, none⟩ = some u1 ∧ W.cell? ⟨b, 2, none⟩ = some u2 ∧ W.cell? ⟨b, 3, none⟩ = some u3 ∧ (∀ j, W.frozen? ⟨b, j, none⟩ = false) := cells4 h
theorem str_by (s : ByteArray) : Lib.strCells s = s.data.toList.flatMap byE := by
  unfold Lib.strCells
  induction s.data.toList with
  | nil => rfl
  | cons a r ih => rw [List.map_cons, List.flatMap_cons, ih]; rfl
theorem by_size (s : ByteArray) (h : s.size < 256) : byE (UInt8.ofNat s.size) = [.int .u8 (s.size : Int)] := by
  unfold byE
  rw [UInt8.toNat_ofNat', Nat.mod_eq_of_lt h]
theorem kept_box {w w' : World} {tb base e sz n : Nat} {C : Array Value} {ty : TypeId} {v : Value} {xs : List Value} (hx : w.heap[tb]? = some (.cells C ty (0, 0))) (ho : w.ownsRow base e sz v n xs) (hne : e ≠ ty) (hg : w.grownBy w' v.ownBlock) : w'.heap[tb]? = some (.cells C ty (0, 0)) :=
  (hg.block tb (Array.getElem?_eq_some_iff.1 hx).1 fun h => own_nea hx ho hne tb h.symm rfl).trans hx
theorem enc_app (P Q : List UInt8) (s : ByteArray) (h : s.size < 256) : (P ++ Q).flatMap byE ++ [Value.int .u8 (s.size : Int)] ++ Lib.strCells s = (P ++ (Q ++ encS s)).flatMap byE := by
  unfold encS
  rw [str_by, ← by_size s h]
  simp only [List.flatMap_append, List.flatMap_cons, List.append_assoc]
theorem below_al1' {w W : World} (h : Below w.heap.size w W) (o : Obj) : Below w.heap.size w (W.alloc o) := h.alloc h.size o
theorem run_idx0 (s0 s1 s2 : ByteArray) (w : World) : (Instr.index 518 (.agg #[.string s0, .string s1, .string s2]) (.int .i64 0)).run Tryz.prog w = .ok (.string s0) w := by kernel_rfl
theorem run_idx1 (s0 s1 s2 : ByteArray) (w : World) : (Instr.index 518 (.agg #[.string s0, .string s1, .string s2]) (.int .i64 1)).run Tryz.prog w = .ok (.string s1) w := by kernel_rfl
theorem run_idx2 (s0 s1 s2 : ByteArray) (w : World) : (Instr.index 518 (.agg #[.string s0, .string s1, .string s2]) (.int .i64 2)).run Tryz.prog w = .ok (.string s2) w := by kernel_rfl
theorem wpList_idx {P : Program} {w : World} {ops : Array Oper} {rest : List Oper} {o : Oper} {a : Act} {Q : Exit → Act → World → Prop} (hg : o.guard = none) (x i : Operand) (t : TypeId) (hop : o.op = Op.index t x i) (xv iv v : Value)
    (hx : a.eval x = xv) (hi : a.eval i = iv) (hrun : (Instr.index t xv iv).run P w = .ok v w) (h : wpList P ops Q rest (a.put o.dst v) w) : wpList P ops Q (o :: rest) a w :=
  wpList_plain hg fun K hK => by
    unfold Oper.wp
    simp [execOp, hop, hx, hi, hrun, Result.andThen]
    exact hK _ _ h
/-- A move as cells. -/
def mvE (m : Mv) : List Value := [.string m.f, .string m.t, .string m.i, .int .i64 m.q]
theorem mvE_len (m : Mv) : (mvE m).length = 4 := rfl
theorem mv_one (l : List Mv) : ∀ u ∈ l.flatMap mvE, u.oneCell' = true := by
  intro u hu
  obtain ⟨x, _, hx⟩ := List.mem_flatMap.1 hu
  simp only [mvE, List.mem_cons, List.not_mem_nil, or_false] at hx
  rcases hx with rfl | rfl | rfl | rfl <;> rfl
/-- The cells of one move of a slice. -/
theorem SlE.mv_at {w : World} {A : Option Addr} {n k : Nat} {l : List Mv} (h : SlE mvE 4 w A n l) (hk : k < n) :
    ∃ b o m, A = some ⟨b, o, none⟩ ∧ b < w.heap.size ∧ l[k]? = some m ∧ w.cell? ⟨b, o + k * 4, none⟩ = some (.string m.f) ∧ w.cell? ⟨b, o + k * 4 + 1, none⟩ = some (.string m.t) ∧ w.cell? ⟨b, o + k * 4 + 2, none⟩ = some (.string m.i) ∧ w.cell? ⟨b, o + k * 4 + 3, none⟩ = some (.int .i64 m.q) := by
  obtain ⟨b, o, m, hA, hb, hm, hc⟩ := h.at_ mvE_len hk
  exact ⟨b, o, m, hA, hb, hm, hc 0 _ rfl, hc 1 _ rfl, hc 2 _ rfl, hc 3 _ rfl⟩
/-- The slice reads as moves that are an entry. -/
def mvZ (l : List Mv) : Prop := l.length ≤ 32 ∧ ∀ m ∈ l, m.f.size ≤ 12 ∧ m.t.size ≤ 12 ∧ m.i.size ≤ 12 ∧ 1 ≤ m.q ∧ m.q ≤ 1000000000
theorem mvZ_of {l : List Mv} (h : enOk l = true) : mvZ l := by
  unfold enOk mvOk nameB at h
  simp only [Bool.and_eq_true, decide_eq_true_eq, List.all_eq_true] at h
  exact ⟨h.2, fun m hm => by have := h.1.1 m hm; omega⟩
set_option maxRecDepth 8000 in
set_option maxHeartbeats 4000000 in
theorem encode_any (A : Option Addr) (n c : Nat) (l : List Mv) (w : World) (h : SlE mvE 4 w A n l) (hz : mvZ l) :
    Calls Tryz.prog 295 #[.slice A n c] w fun e w' => ∃ A' m c', e = .returned (.slice A' m c') ∧ SlE byE 1 w' A' m (encE l) ∧ m ≤ 1400 ∧ Below w.heap.size w w' := by
  refine calls_cps ?_
  intro R hR
  have Hr := Lib.hid hR.out
  have HX := Lib.hid h
  have Hz := Lib.hid hz
  have Hn := Lib.hid h.1
  have hn : n ≤ 32 := by rw [h.1]; exact hz.1
  clear hR h hz
  have i0 : (n : Int) < 256 := by omega
  go_enter Tryz.func295, Tryz.ntmps295
  go_wp2_with fail
  go_loopw [3, 15] (fun s3 s15 wr => ∃ (k m c' : Nat) (A' : Option Addr), k ≤ n ∧ s15 = .int .i64 (k : Int) ∧ s3 = .slice A' m c' ∧ m ≤ 1 + 43 * k ∧ Hid (wr.ownsRow w.heap.size 5 1 (.slice A' m c') m ((UInt8.ofNat l.length :: (l.take k).flatMap encM).flatMap byE)) ∧ Hid (Below w.heap.size w wr)) (fun _ s15 _ => n - (intOf s15).toNat)
  case atStart =>
    refine ⟨0, 1, 1, _, Nat.zero_le _, rfl, rfl, by omega, Lib.hid ?_, Lib.hid (below_new w _)⟩
    rw [List.take_zero]
    have hc : ((UInt8.ofNat l.length).toNat : Int) = (n : Int) := by
      rw [UInt8.toNat_ofNat', ← Hn.out]
      omega
    have := own_new w #[.int .u8 (n : Int)] 5 1 1 w.heap.size rfl (Nat.le_refl _) (by unfold maxLen; omega)
    show (w.alloc _).ownsRow _ _ _ _ _ [Value.int .u8 ((UInt8.ofNat l.length).toNat : Int)]
    rw [hc]
    exact this
  case round =>
    obtain ⟨k, m, c', A', hk, rfl, rfl, hm, Ho, Hb⟩ := hrel
    by_cases hlt : k < n
    · obtain ⟨b, o, y, rfl, hb, hy, q0, q1, q2, q3⟩ := (HX.out.below' Hb.out).mv_at hlt
      obtain ⟨z1, z2, z3, z4, z5⟩ := Hz.out.2 y (List.mem_of_getElem? hy)
      have i1 : (k : Int) < (n : Int) := by omega
      have Hy := Lib.hid hy
      obtain ⟨tb, htb⟩ : ∃ tb, wr.heap.size = tb := ⟨_, rfl⟩
      have HT := Lib.hid htb
      clear hy htb
      have hbox := heap_alloc_new wr (.cells #[.string y.f, .string y.t, .string y.i, .int .i64 y.q] 142)
      rw [HT.out] at hbox
      have HBX := Lib.hid hbox
      have HB1 := Lib.hid (below_al1' Hb.out (.cells #[.string y.f, .string y.t, .string y.i, .int .i64 y.q] 142))
      have HO1 := Lib.hid (Ho.out.alloc (.cells #[.string y.f, .string y.t, .string y.i, .int .i64 y.q] 142))
      clear hbox Ho Hb
      go_wp2_with fail
      rw [HT.out]
      go_loopw [3, 26] (fun s3 s26 wx => ∃ (j m' c2 : Nat) (A2 : Option Addr), j ≤ 3 ∧ s26 = .int .i64 (j : Int) ∧ s3 = .slice A2 m' c2 ∧ m' ≤ m + 13 * j ∧ Hid (wx.ownsRow w.heap.size 5 1 (.slice A2 m' c2) m' (((UInt8.ofNat l.length :: (l.take k).flatMap encM) ++ ([y.f, y.t, y.i].take j).flatMap encS).flatMap byE)) ∧ Hid (Below w.heap.size w wx) ∧ Hid (wx.heap[tb]? = some (.cells #[.string y.f, .string y.t, .string y.i, .int .i64 y.q] 142 (0, 0)))) (fun _ s26 _ => 3 - (intOf s26).toNat)
      case atStart => exact ⟨0, m, c', A', by omega, rfl, rfl, by omega, Lib.hid (by simpa using HO1.out), HB1, HBX⟩
      case round =>
        obtain ⟨j, m', c2, A2, hj, rfl, rfl, hm', Ho, Hb, Hx⟩ := hrel
        by_cases hj3 : j < 3
        · have HA : ∀ o, Hid ((wr.alloc o).ownsRow w.heap.size 5 1 (.slice A2 m' c2) m' (((UInt8.ofNat l.length :: (l.take k).flatMap encM) ++ ([y.f, y.t, y.i].take j).flatMap encS).flatMap byE)) := fun o => Lib.hid (Ho.out.alloc o)
          have HBs := Lib.hid Hb.out.size
          have hs256 : (y.f.size : Int) < 256 := by omega
          have ht256 : (y.t.size : Int) < 256 := by omega
          have hi256 : (y.i.size : Int) < 256 := by omega
          obtain rfl | rfl | rfl : j = 0 ∨ j = 1 ∨ j = 2 := by omega
          · skip
            rw [show ((0 : Nat) : Int) = 0 from rfl]
            have HX0 := fun o => Lib.hid ((heap_alloc_old wr o (r := tb) (Array.getElem?_eq_some_iff.1 Hx.out).1).trans Hx.out)
            obtain ⟨iby, z1by, z2by, z3by, z4by⟩ := info_parts infoBy
            go_wp2_with (first
              | (refine wpList_idx rfl (.tmp 25) (.tmp 26) 518 rfl _ _ _ rfl rfl (run_idx0 _ _ _ _) ?_)
              | (at_builtin; refine wpList_app rfl (.tmp 29) (.tmp 33) _ rfl elemBy w.heap.size _ _ _ rfl (HA _).out _ _ _ _ rfl (Sl.newAt wr #[.int .u8 (y.f.size : Int)] _ 1 1 rfl rfl) (by simp [Value.oneCell']) (by unfold maxLen; omega) (by omega) (by simp; exact Nat.le_succ_of_le HBs.out) ?_; intro A3 c3 w1 ho1 hg1 hl1; have HX1 := Lib.hid (kept_box (HX0 _).out (HA _).out (by decide) hg1); have HB1 := Lib.hid (below_own (below_al1' Hb.out _) (HA _).out (Nat.le_refl _) (below_al1' Hb.out _).size hg1); have HO1 := Lib.hid ho1; clear ho1 hg1 hl1)
              | (at_builtin; refine Lib.wpList_append_own_string _ rfl (.tmp 35) (.tmp 36) _ _ rfl w.heap.size 5 _ Tryz.underlying107 Tryz.underlying9 z1by z2by z3by z4by _ _ _ rfl HO1.out y.f rfl (by unfold maxLen; omega) (by omega) HB1.out.size ?_; intro v4 w2 ho2 hg2 hn2; obtain ⟨A4, c4, rfl, -, -, ho2'⟩ := own_slice ho2; have HX2 := Lib.hid (kept_box HX1.out HO1.out (by decide) hg2); have HB2 := Lib.hid (below_own HB1.out HO1.out (Nat.le_refl _) HB1.out.size hg2); have HO2 := Lib.hid ho2; clear ho2 hg2 hn2 ho2'))
            refine ⟨⟨0 + 1, m' + 1 + y.f.size, c4, A4, by omega, rfl, rfl, by omega, Lib.hid ?_, HB2, HX2⟩, by simp [intOf]⟩
            have h2 := HO2.out
            rw [enc_app _ _ _ (by omega)] at h2
            have e : ([y.f, y.t, y.i].take (0 + 1)).flatMap encS = ([y.f, y.t, y.i].take 0).flatMap encS ++ encS y.f := by simp
            rw [e]
            exact h2
          · skip
            rw [show ((1 : Nat) : Int) = 1 from rfl]
            have HX0 := fun o => Lib.hid ((heap_alloc_old wr o (r := tb) (Array.getElem?_eq_some_iff.1 Hx.out).1).trans Hx.out)
            obtain ⟨iby, z1by, z2by, z3by, z4by⟩ := info_parts infoBy
            go_wp2_with (first
              | (refine wpList_idx rfl (.tmp 25) (.tmp 26) 518 rfl _ _ _ rfl rfl (run_idx1 _ _ _ _) ?_)
              | (at_builtin; refine wpList_app rfl (.tmp 29) (.tmp 33) _ rfl elemBy w.heap.size _ _ _ rfl (HA _).out _ _ _ _ rfl (Sl.newAt wr #[.int .u8 (y.t.size : Int)] _ 1 1 rfl rfl) (by simp [Value.oneCell']) (by unfold maxLen; omega) (by omega) (by simp; exact Nat.le_succ_of_le HBs.out) ?_; intro A3 c3 w1 ho1 hg1 hl1; have HX1 := Lib.hid (kept_box (HX0 _).out (HA _).out (by decide) hg1); have HB1 := Lib.hid (below_own (below_al1' Hb.out _) (HA _).out (Nat.le_refl _) (below_al1' Hb.out _).size hg1); have HO1 := Lib.hid ho1; clear ho1 hg1 hl1)
              | (at_builtin; refine Lib.wpList_append_own_string _ rfl (.tmp 35) (.tmp 36) _ _ rfl w.heap.size 5 _ Tryz.underlying107 Tryz.underlying9 z1by z2by z3by z4by _ _ _ rfl HO1.out y.t rfl (by unfold maxLen; omega) (by omega) HB1.out.size ?_; intro v4 w2 ho2 hg2 hn2; obtain ⟨A4, c4, rfl, -, -, ho2'⟩ := own_slice ho2; have HX2 := Lib.hid (kept_box HX1.out HO1.out (by decide) hg2); have HB2 := Lib.hid (below_own HB1.out HO1.out (Nat.le_refl _) HB1.out.size hg2); have HO2 := Lib.hid ho2; clear ho2 hg2 hn2 ho2'))
            refine ⟨⟨1 + 1, m' + 1 + y.t.size, c4, A4, by omega, rfl, rfl, by omega, Lib.hid ?_, HB2, HX2⟩, by simp [intOf]⟩
            have h2 := HO2.out
            rw [enc_app _ _ _ (by omega)] at h2
            have e : ([y.f, y.t, y.i].take (1 + 1)).flatMap encS = ([y.f, y.t, y.i].take 1).flatMap encS ++ encS y.t := by simp
            rw [e]
            exact h2
          · skip
            rw [show ((2 : Nat) : Int) = 2 from rfl]
            have HX0 := fun o => Lib.hid ((heap_alloc_old wr o (r := tb) (Array.getElem?_eq_some_iff.1 Hx.out).1).trans Hx.out)
            obtain ⟨iby, z1by, z2by, z3by, z4by⟩ := info_parts infoBy
            go_wp2_with (first
              | (refine wpList_idx rfl (.tmp 25) (.tmp 26) 518 rfl _ _ _ rfl rfl (run_idx2 _ _ _ _) ?_)
              | (at_builtin; refine wpList_app rfl (.tmp 29) (.tmp 33) _ rfl elemBy w.heap.size _ _ _ rfl (HA _).out _ _ _ _ rfl (Sl.newAt wr #[.int .u8 (y.i.size : Int)] _ 1 1 rfl rfl) (by simp [Value.oneCell']) (by unfold maxLen; omega) (by omega) (by simp; exact Nat.le_succ_of_le HBs.out) ?_; intro A3 c3 w1 ho1 hg1 hl1; have HX1 := Lib.hid (kept_box (HX0 _).out (HA _).out (by decide) hg1); have HB1 := Lib.hid (below_own (below_al1' Hb.out _) (HA _).out (Nat.le_refl _) (below_al1' Hb.out _).size hg1); have HO1 := Lib.hid ho1; clear ho1 hg1 hl1)
              | (at_builtin; refine Lib.wpList_append_own_string _ rfl (.tmp 35) (.tmp 36) _ _ rfl w.heap.size 5 _ Tryz.underlying107 Tryz.underlying9 z1by z2by z3by z4by _ _ _ rfl HO1.out y.i rfl (by unfold maxLen; omega) (by omega) HB1.out.size ?_; intro v4 w2 ho2 hg2 hn2; obtain ⟨A4, c4, rfl, -, -, ho2'⟩ := own_slice ho2; have HX2 := Lib.hid (kept_box HX1.out HO1.out (by decide) hg2); have HB2 := Lib.hid (below_own HB1.out HO1.out (Nat.le_refl _) HB1.out.size hg2); have HO2 := Lib.hid ho2; clear ho2 hg2 hn2 ho2'))
            refine ⟨⟨2 + 1, m' + 1 + y.i.size, c4, A4, by omega, rfl, rfl, by omega, Lib.hid ?_, HB2, HX2⟩, by simp [intOf]⟩
            have h2 := HO2.out
            rw [enc_app _ _ _ (by omega)] at h2
            have e : ([y.f, y.t, y.i].take (2 + 1)).flatMap encS = ([y.f, y.t, y.i].take 2).flatMap encS ++ encS y.i := by simp
            rw [e]
            exact h2
        · have hj3' : j = 3 := by omega
          subst hj3'
          have hcx := hcell4 Hx.out
          obtain ⟨b0, b1, b2, b3, -⟩ := hcx
          have iq : 0 ≤ y.q := by omega
          have iq2 : y.q < 4294967296 := by omega
          obtain ⟨Q, hQ⟩ : ∃ Q : Nat, y.q = (Q : Int) := ⟨y.q.toNat, by omega⟩
          have HQ := Lib.hid hQ
          rw [hQ] at b3 iq iq2
          clear hQ
          have hQ2 : Q < 4294967296 := by omega
          go_wp2_with fail
          refine (put_any A2 m' c2 Q 4 w.heap.size _ wr Ho.out Hb.out.size hQ2 (by omega) (by omega)).mono ?_
          rintro e wy ⟨A3, c3, rfl, ho3, hb3⟩
          have HO3 := Lib.hid ho3
          have HB3 := Lib.hid (Hb.out.trans hb3)
          clear ho3 hb3
          go_wp2_with fail
          refine ⟨⟨k + 1, m' + 4, c3, A3, hlt, by go_num, rfl, by omega, Lib.hid ?_, HB3⟩, by simp [intOf] <;> omega⟩
          rw [List.take_add_one, Hy.out]
          have e : [y.f, y.t, y.i].take 3 = [y.f, y.t, y.i] := rfl
          have e2 : y.q.toNat = Q := by have := HQ.out; omega
          have h3 := HO3.out
          rw [e] at h3
          have e3 : UInt8.ofNat l.length :: (l.take k ++ (some y).toList).flatMap encM = (UInt8.ofNat l.length :: (l.take k).flatMap encM) ++ [y.f, y.t, y.i].flatMap encS ++ putL Q 4 := by
            rw [List.flatMap_append]
            show _ = UInt8.ofNat l.length :: ((l.take k).flatMap encM ++ [y.f, y.t, y.i].flatMap encS ++ putL Q 4)
            congr 1
            rw [List.append_assoc]
            congr 1
            show encM y ++ [] = _
            rw [List.append_nil, ← e2]
            show encS y.f ++ encS y.t ++ encS y.i ++ putL y.q.toNat 4 = (encS y.f ++ (encS y.t ++ (encS y.i ++ []))) ++ putL y.q.toNat 4
            simp only [List.append_assoc, List.append_nil]
          rw [e3]
          exact h3
    · have hkn : k = n := by omega
      subst hkn
      have i1 : ¬ (k : Int) < (k : Int) := by omega
      have e0 : UInt8.ofNat l.length :: (l.take k).flatMap encM = bodyL l := by
        unfold bodyL
        rw [List.take_of_length_le (by rw [← Hn.out]; exact Nat.le_refl _)]
      rw [e0] at Ho
      have hm9 : m < 4294967296 := by omega
      have hml := Ho.out.1
      rw [flat_length byE_len, Nat.mul_one, Nat.mul_one] at hml
      have HML := Lib.hid hml
      have HY0 := Lib.hid (SlE.of_own Ho.out hml.symm)
      clear e0 hml HX Hz
      go_wp2_with fail
      refine (put_any none 0 0 m 2 wr.heap.size [] wr (World.ownsRow_nil _ _ _ _) (Nat.le_refl _) hm9 (by omega) (by omega)).mono ?_
      rintro e w2 ⟨A2, c2, rfl, ho2, hb2⟩
      have HO2 := Lib.hid ho2
      have HB2 := Lib.hid hb2
      have HY2 := Lib.hid (HY0.out.below hb2)
      clear ho2 hb2
      go_wp2_with fail
      refine (sum_any A' m c' (bodyL l) w2 HY2.out (by omega)).mono ?_
      rintro e w2' ⟨rfl, rfl⟩
      have hsl : sumL (bodyL l) < 4294967296 := sumL_lt _
      go_wp2_with fail
      refine (put_any A2 (0 + 2) c2 (sumL (bodyL l)) 4 wr.heap.size _ w2 HO2.out HB2.out.size hsl (by omega) (by omega)).mono ?_
      rintro e w3 ⟨A3, c3, rfl, ho3, hb3⟩
      have HO3 := Lib.hid ho3
      have HB3 := Lib.hid (HB2.out.trans hb3)
      have HY3 := Lib.hid (HY0.out.below HB3.out)
      clear ho3 hb3
      go_wp2_with (at_builtin; refine wpList_app rfl (.tmp 52) (.tmp 53) _ rfl elemBy wr.heap.size _ _ _ rfl HO3.out _ _ _ _ rfl HY3.out.2 (by_one _) (by unfold maxLen; omega) (by omega) HB3.out.size ?_; intro A4 c4 w4 ho4 hg4 hl4)
      refine Hr.out _ _ ⟨A4, 0 + 2 + 4 + m, c4, rfl, ?_, by omega, ?_⟩
      · have h5 : ([] ++ putL m 2 ++ putL (sumL (bodyL l)) 4).flatMap byE ++ (bodyL l).flatMap byE = (encE l).flatMap byE := by
          unfold encE
          rw [← HML.out, List.nil_append, ← List.flatMap_append]
        rw [h5] at ho4
        refine SlE.of_own ho4 ?_
        unfold encE
        rw [List.length_append, List.length_append, putL_len, putL_len, ← HML.out]
      · exact Hb.out.trans ((below_own HB3.out HO3.out (Nat.le_refl _) HB3.out.size hg4).mono Hb.out.size)
end
end Go.Proofs.YtndcijkgaadpgaaGreatDoor
