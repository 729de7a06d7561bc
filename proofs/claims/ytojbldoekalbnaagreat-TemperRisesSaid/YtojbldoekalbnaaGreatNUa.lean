/-
  Contracts of temper.based, temper.Beats and the third reference's Beats: all answer by one plain function; each states its condition.
-/
import Derived.Test.YtojbldoekalbnaaGreatNSx
import Derived.Deep.DeepCutAuto
namespace Go.Proofs.YtojbldoekalbnaaGreat
section
section
open Go.RowKit
theorem own_caps {W : World} {base e sz n c : Nat} {A : Option Addr} {xs : List Value} (h : W.ownsRow base e sz (.slice A n c) n xs) : n ≤ c ∧ c ≤ 9223372036854775807 := by
  obtain ⟨A2, c2, e, h1, h2, _⟩ := own_slice h
  injection e with _ _ e3
  unfold maxLen at h2
  omega
/-- The frequency of a tone, 0 where there is none. -/
def fqV (base : Nat) (t : Tn) : Nat := if t.freqN base < 9223372036854775808 then t.freqN base else 0
theorem fqV_lt (base : Nat) (t : Tn) : fqV base t < 9223372036854775808 := by unfold fqV; split <;> omega
theorem freq_tup (base : Nat) (t : Tn) : ∃ ce : Int, freqRet base t = .tuple #[.int .u64 (fqV base t : Nat), .int .i64 ce] := by
  unfold freqRet fqV
  split
  · exact ⟨0, rfl⟩
  · exact ⟨5, rfl⟩
/-- How fast a fifth beats. -/
def beatV (f g : Nat) : Nat := if 2 * g % 18446744073709551616 ≤ 3 * f % 18446744073709551616 then 3 * f % 18446744073709551616 - 2 * g % 18446744073709551616 else 2 * g % 18446744073709551616 - 3 * f % 18446744073709551616
def beatsF (base : Nat) (u : Int) : List Tn → List Int → Option (List Nat)
  | t :: L, s :: l => match joinT t (fifT s u) 1 with
    | some y => (beatsF base u L l).map (beatV (fqV base t) (fqV base y) :: ·)
    | none => none
  | _, _ => some []
/-- What is told of the tones of a temperament: an error, or a list. -/
def toldO (f : List Tn → List Int → Option (List Nat)) (base : Nat) (l : List Int) (u : Int) : Except Int (List Nat) :=
  match tonesF u tn0 l.dropLast with
  | none => .error 5
  | some L => if base = 0 ∨ 1152921504606846976 ≤ base then .error 1 else match f (tn0 :: L) l with
    | none => .error 5
    | some M => .ok M
def OutP (w : World) (O : Except Int (List Nat)) (e : Ending) (w' : World) : Prop :=
  Below w.heap.size w w' ∧ match O with
  | .error c => e = .returned (.tuple #[.slice none 0 0, .int .i64 c])
  | .ok M => ∃ A n c, n = M.length ∧ e = .returned (.tuple #[.slice A n c, .int .i64 0]) ∧ w'.ownsRow w.heap.size 39 1 (.slice A n c) n (M.flatMap u64E)
theorem elemU64 : ElemOk Tryz.prog 40 39 1 8 := ElemOk.of (z := .int .u64 0) Tryz.underlying40 (by kernel_rfl) rfl (by omega)
theorem own_nilU (w : World) (b : Nat) : w.ownsRow b 39 1 (.slice none 0 0) 0 ([].flatMap u64E) := ⟨rfl, .inl ⟨rfl, rfl⟩⟩
theorem tonesF_len {u : Int} {l : List Int} : ∀ {x : Tn} {L : List Tn}, tonesF u x l = some L → L.length = l.length := by
  induction l with
  | nil => intro x L h; simp only [tonesF, Option.some.injEq] at h; subst h; rfl
  | cons s l ih =>
    intro x L h
    simp only [tonesF] at h
    split at h
    · rename_i y hy
      cases e : tonesF u y l with
      | none => rw [e] at h; cases h
      | some M =>
        rw [e] at h
        simp only [Option.map_some, Option.some.injEq] at h
        subst h
        simp [ih e]
    · cases h
theorem tonesF_ok {u : Int} {l : List Int} : ∀ {x : Tn} {L : List Tn}, tonesF u x l = some L → x.Ok → ∀ t ∈ x :: L, t.Ok := by
  induction l with
  | nil =>
    intro x L h h2 t ht
    simp only [tonesF, Option.some.injEq] at h
    subst h
    simp only [List.mem_cons, List.not_mem_nil, or_false] at ht
    subst ht
    exact h2
  | cons s l ih =>
    intro x L h h2 t ht
    simp only [tonesF] at h
    split at h
    · rename_i y hy
      cases e : tonesF u y l with
      | none => rw [e] at h; cases h
      | some M =>
        rw [e] at h
        simp only [Option.map_some, Option.some.injEq] at h
        subst h
        rcases List.mem_cons.1 ht with rfl | ht
        · exact h2
        · exact ih e (stepT_ok hy) t ht
    · cases h
def BasedP (w : World) (base : Nat) (l : List Int) (u : Int) (e : Ending) (w' : World) : Prop :=
  Below w.heap.size w w' ∧ ((rightB l u = false ∧ e = .returned (.tuple #[.slice none 0 0, .int .i64 1])) ∨
    (rightB l u = true ∧ tonesF u tn0 l.dropLast = none ∧ e = .returned (.tuple #[.slice none 0 0, .int .i64 5])) ∨
    (rightB l u = true ∧ (∃ L, tonesF u tn0 l.dropLast = some L) ∧ (base = 0 ∨ 1152921504606846976 ≤ base) ∧ e = .returned (.tuple #[.slice none 0 0, .int .i64 1])) ∨
    (∃ L A n c, rightB l u = true ∧ tonesF u tn0 l.dropLast = some L ∧ (0 < base ∧ base < 1152921504606846976) ∧ n = L.length + 1 ∧ e = .returned (.tuple #[.slice A n c, .int .i64 0]) ∧ w'.ownsRow w.heap.size 30 4 (.slice A n c) n ((tn0 :: L).flatMap tnE)))
set_option maxHeartbeats 2000000 in
theorem based_any (base : Nat) (A : Option Addr) (n c : Nat) (l : List Int) (u : Int) (w : World) (hS : SlE intE 1 w A n l) (hnc : n ≤ c) (hc : c ≤ 9223372036854775807) (_hb : base < 18446744073709551616) :
    Calls Tryz.prog 40 #[.int .u64 (base : Nat), .slice A n c, .int .i64 u] w (BasedP w base l u) := by
  refine calls_cps ?_
  intro R hR
  have Hton := Lib.hid (tones_any A n c l u w hS hnc hc)
  have HR := Lib.hid hR
  clear hR hS
  go_enter Tryz.func40, Tryz.ntmps40
  go_wp2_with fail
  refine Hton.out.mono ?_
  rintro e w1 ⟨hb1, ⟨hr, rfl⟩ | ⟨hr, hT, rfl⟩ | ⟨L, A2, n2, c2, hr, hL, hn2, rfl, ho⟩⟩
  · have Hf := Lib.hid (HR.out.out (.returned (.tuple #[.slice none 0 0, .int .i64 1])) w1 ⟨hb1, .inl ⟨hr, rfl⟩⟩)
    clear hr hb1
    go_wp2_with fail
    exact Hf.out
  · have Hf := Lib.hid (HR.out.out (.returned (.tuple #[.slice none 0 0, .int .i64 5])) w1 ⟨hb1, .inr (.inl ⟨hr, hT, rfl⟩)⟩)
    clear hr hT hb1
    go_wp2_with fail
    exact Hf.out
  · by_cases h0 : base = 0
    · have Hf := Lib.hid (HR.out.out (.returned (.tuple #[.slice none 0 0, .int .i64 1])) w1 ⟨hb1, .inr (.inr (.inl ⟨hr, ⟨L, hL⟩, .inl h0, rfl⟩))⟩)
      clear hr hL hb1 hn2 ho
      go_wp2_with fail
      exact Hf.out
    · by_cases h1 : 1152921504606846976 ≤ base
      · have t1 : decide ((1152921504606846976 : Int) ≤ (base : Int)) = true := decide_eq_true (by omega)
        have t2 : decide (1152921504606846976 ≤ base) = true := decide_eq_true h1
        have Hf := Lib.hid (HR.out.out (.returned (.tuple #[.slice none 0 0, .int .i64 1])) w1 ⟨hb1, .inr (.inr (.inl ⟨hr, ⟨L, hL⟩, .inr h1, rfl⟩))⟩)
        clear hr hL hb1 hn2 ho
        go_wp2_with fail
        exact Hf.out
      · have t1 : decide ((1152921504606846976 : Int) ≤ (base : Int)) = false := decide_eq_false (by omega)
        have t2 : decide (1152921504606846976 ≤ base) = false := decide_eq_false h1
        have Hf := Lib.hid (HR.out.out (.returned (.tuple #[.slice A2 n2 c2, .int .i64 0])) w1 ⟨hb1, .inr (.inr (.inr ⟨L, A2, n2, c2, hr, hL, ⟨by omega, by omega⟩, hn2, rfl, ho⟩))⟩)
        clear hr hL hb1 hn2 ho
        go_wp2_with fail
        exact Hf.out
theorem beatsF_len {base : Nat} {u : Int} : ∀ {L : List Tn} {l : List Int} {M : List Nat}, beatsF base u L l = some M → L.length = l.length → M.length = l.length := by
  intro L
  induction L with
  | nil => intro l M h hl; simp only [beatsF, Option.some.injEq] at h; subst h; simpa using hl
  | cons t L ih =>
    intro l M h hl
    cases l with
    | nil => simp at hl
    | cons s l =>
      simp only [beatsF] at h
      split at h
      · cases e : beatsF base u L l with
        | none => rw [e] at h; cases h
        | some M' =>
          rw [e] at h
          simp only [Option.map_some, Option.some.injEq] at h
          subst h
          simp [ih e (by simpa using hl)]
      · cases h
theorem dropT_at {l : List Tn} {i : Nat} {s : Tn} (h : l[i]? = some s) : l.drop i = s :: l.drop (i + 1) := by
  obtain ⟨hi, he⟩ := List.getElem?_eq_some_iff.1 h
  rw [← he]
  exact List.drop_eq_getElem_cons hi
set_option maxRecDepth 16000 in
set_option maxHeartbeats 8000000 in
theorem rbeats_any (base : Nat) (A : Option Addr) (n c : Nat) (l : List Int) (u : Int) (w : World) (hS : SlE intE 1 w A n l) (hr : rightB l u = true) (hb : base < 18446744073709551616) :
    Calls Tryz.prog 22 #[.int .u64 (base : Nat), .slice A n c, .int .i64 u] w (OutP w (toldO (beatsF base u) base l u)) := by
  refine calls_cps ?_
  intro R hR
  have HS := Lib.hid hS
  have hrs := right_spec hr
  have Hst := Lib.hid hrs.1
  obtain ⟨-, l1, l2, u1, u2⟩ := hrs
  rw [← hS.1] at l1 l2
  have Hn := Lib.hid hS.1
  have Hton := Lib.hid (rtones_any A n c l u w hS hr)
  have Hr := Lib.hid hr
  obtain ⟨T, hT⟩ : ∃ T, tonesF u tn0 l.dropLast = T := ⟨_, rfl⟩
  unfold toldO at hR
  unfold TonesP at Hton
  rw [hT] at hR Hton
  have HT := Lib.hid hT
  have HR := Lib.hid hR
  clear hR hS hT hr
  cases T with
  | none =>
    replace Hton := Lib.hid (Hton.out.mono (fun e w' h2 => (show e = .returned (.tuple #[.slice none 0 0, .int .i64 5]) ∧ Below w.heap.size w w' from by
      obtain ⟨hb, ⟨hx, -⟩ | ⟨-, -, rfl⟩ | ⟨L, A2, n2, c2, -, hx, -⟩⟩ := h2
      · exact absurd (Hr.out.symm.trans hx) (by simp)
      · exact ⟨rfl, hb⟩
      · exact absurd hx (by simp))))
    go_enter Tryz.func22, Tryz.ntmps22
    go_wp2_with ((with_reducible refine Hton.out.mono ?_); rintro e w1 ⟨rfl, hb1⟩)
    exact HR.out.out _ _ ⟨hb1, rfl⟩
  | some L =>
    have hlen := tonesF_len HT.out
    rw [List.length_dropLast, ← Hn.out] at hlen
    have hLn : L.length + 1 = n := by omega
    have Hok := Lib.hid (tonesF_ok HT.out tn0_ok)
    replace Hton := Lib.hid (Hton.out.mono (fun e w' h2 => (show ∃ A2 c2, e = .returned (.tuple #[.slice A2 n c2, .int .i64 0]) ∧ SlE tnE 4 w' A2 n (tn0 :: L) ∧ Below w.heap.size w w' from by
      obtain ⟨hb, ⟨hx, -⟩ | ⟨-, hx, -⟩ | ⟨L2, A2, n2, c2, -, hx, hn, rfl, ho⟩⟩ := h2
      · exact absurd (Hr.out.symm.trans hx) (by simp)
      · exact absurd hx (by simp)
      · obtain rfl := Option.some.inj hx
        obtain rfl : n2 = n := by omega
        exact ⟨A2, c2, rfl, SlE.of_own ho (by rw [List.length_cons]; omega), hb⟩)))
    have HLn := Lib.hid hLn
    dsimp only at HR
    clear hlen hLn HT
    by_cases h0 : base = 0
    · have Hf := Lib.hid (fun W hb => HR.out.out (.returned (.tuple #[.slice none 0 0, .int .i64 1])) W ⟨hb, by rw [if_pos (.inl h0)]⟩)
      go_enter Tryz.func22, Tryz.ntmps22
      go_wp2_with ((with_reducible refine Hton.out.mono ?_); rintro e w1 ⟨A2, c2, rfl, hL2, hb1⟩; have Hb1 := Lib.hid hb1; clear hb1 hL2)
      exact Hf.out _ Hb1.out
    · by_cases h1 : 1152921504606846976 ≤ base
      · have t1 : decide ((1152921504606846976 : Int) ≤ (base : Int)) = true := decide_eq_true (by omega)
        have t2 : decide (1152921504606846976 ≤ base) = true := decide_eq_true h1
        have Hf := Lib.hid (fun W hb => HR.out.out (.returned (.tuple #[.slice none 0 0, .int .i64 1])) W ⟨hb, by rw [if_pos (.inr h1)]⟩)
        go_enter Tryz.func22, Tryz.ntmps22
        go_wp2_with ((with_reducible refine Hton.out.mono ?_); rintro e w1 ⟨A2, c2, rfl, hL2, hb1⟩; have Hb1 := Lib.hid hb1; clear hb1 hL2)
        exact Hf.out _ Hb1.out
      · have t1 : decide ((1152921504606846976 : Int) ≤ (base : Int)) = false := decide_eq_false (by omega)
        have t2 : decide (1152921504606846976 ≤ base) = false := decide_eq_false h1
        have hb0 : 0 < base := by omega
        rw [if_neg (by omega)] at HR
        obtain ⟨T, hT⟩ : ∃ T, beatsF base u (tn0 :: L) l = T := ⟨_, rfl⟩
        rw [hT] at HR
        have HT := Lib.hid hT
        clear hT
        go_enter Tryz.func22, Tryz.ntmps22
        go_upto_region 7 with ((with_reducible refine Hton.out.mono ?_); rintro e w1 ⟨A2, c2, rfl, hL2, hb1⟩; have HL2 := Lib.hid hL2; have Hb1 := Lib.hid hb1; clear hb1 hL2)
        have HS1 := Lib.hid (HS.out.below Hb1.out)
        have hb3 := below_new w1 (.cells #[] 39)
        have ho3 := own_newAt w1 #[] 39 1 0 w1.heap.size rfl (Nat.le_refl _) (by unfold maxLen; omega) rfl
        obtain ⟨W3, hW3⟩ : ∃ W, w1.alloc (.cells #[] 39) = W := ⟨_, rfl⟩
        obtain ⟨g, hg⟩ : ∃ g, w1.heap.size = g := ⟨_, rfl⟩
        rw [hW3] at hb3 ho3 ⊢
        rw [hg] at ho3 ⊢
        have Hg := Lib.hid hg
        have Hb3 := Lib.hid (show Below g w1 W3 by rw [← hg]; exact hb3)
        have Ho3 := Lib.hid ho3
        clear hW3 hg hb3 ho3
        go_wp2_with fail
        go_loopw [10, 11, 12, 13, 14, 15, 16, 17] (fun s10 s11 _ _ _ _ _ _ wr => ∃ (i c10 : Nat) (A10 : Option Addr) (M : List Nat), s10 = .slice A10 i c10 ∧ s11 = .int .i64 (i : Nat) ∧ i ≤ n ∧ Hid (M.length = i ∧ T = (beatsF base u ((tn0 :: L).drop i) (l.drop i)).map (M ++ ·)) ∧ Hid (wr.ownsRow g 39 1 (.slice A10 i c10) i (M.flatMap u64E)) ∧ Hid (Below g w1 wr)) (fun _ s11 _ _ _ _ _ _ _ => n - (intOf s11).toNat)
        case atStart => exact ⟨0, 0, _, [], rfl, rfl, Nat.zero_le _, Lib.hid ⟨rfl, by rw [List.drop_zero, List.drop_zero, HT.out]; cases T <;> simp⟩, Ho3, Hb3⟩
        case round =>
          obtain ⟨i, c10, A10, M, rfl, rfl, hi, HI, HO, HW⟩ := hrel
          have hsz : g ≤ wr.heap.size := by have := HW.out.size; rw [Hg.out] at this; exact this
          have Hgw := Lib.hid (fun W' (hb : Below wr.heap.size wr W') => show Below w1.heap.size w1 W' by rw [Hg.out]; exact HW.out.trans (hb.mono hsz))
          by_cases hlt : i < n
          · have j1 : (i : Int) < (n : Int) := by omega
            have j0 : (0 : Int) ≤ (i : Int) := by omega
            obtain ⟨bl, o, s, rfl, hbl, hs, q0⟩ := (HS1.out.below (Hgw.out wr (Below.refl _ _))).at1 (k := i) hlt
            have hs2 := Hst.out s (List.mem_of_getElem? hs)
            obtain ⟨bx, ox, x, rfl, hbx, hx, p0, p1, p2, p3⟩ := (HL2.out.below (Hgw.out wr (Below.refl _ _))).at4' (k := i) hlt
            have hxo := Hok.out x (List.mem_of_getElem? hx)
            have Hst2 := Lib.hid (show beatsF base u ((tn0 :: L).drop i) (l.drop i) = (match joinT x (fifT s u) 1 with | some y => (beatsF base u ((tn0 :: L).drop (i + 1)) (l.drop (i + 1))).map (beatV (fqV base x) (fqV base y) :: ·) | none => none) from by rw [drop_at hs, dropT_at hx]; rfl)
            have hfif := fun W => rfifth_any s u W hs2.1 hs2.2 u1 u2
            have hmul := fun W => rmulT_any x (fifT s u) W hxo (fifT_ok hs2.1 hs2.2 u1 u2).2
            have hfx := fun W => rfreq_any base x W hb0 hb hxo
            obtain ⟨cx, hcx⟩ := freq_tup base x
            rw [hcx] at hfx
            have hf1 := fqV_lt base x
            obtain ⟨f, hf⟩ : ∃ f, fqV base x = f := ⟨_, rfl⟩
            rw [hf] at hfx Hst2 hf1
            obtain ⟨J, hJ⟩ : ∃ J, joinT x (fifT s u) 1 = J := ⟨_, rfl⟩
            rw [hJ] at hmul Hst2
            have Hyok := Lib.hid (fun y (h : J = some y) => join_ok (hJ.trans h))
            obtain ⟨y1, y2, y3, y4, ce, hre, hJs, hJn⟩ := red_agg J
            rw [hre] at hmul
            obtain ⟨F, hF⟩ : ∃ F, fifT s u = F := ⟨_, rfl⟩
            rw [hF] at hfif hmul
            obtain ⟨x1, x2, x3, x4⟩ := x
            obtain ⟨f1, f2, f3, f4⟩ := F
            unfold Tn.val at hfif hmul hfx
            dsimp only at hfif hmul hfx p0 p1 p2 p3
            have Hfif := Lib.hid hfif
            have Hmul := Lib.hid hmul
            have Hfx := Lib.hid hfx
            have HJ := Lib.hid (And.intro hJs hJn)
            have Hc := Lib.hid (show ∀ W', Below wr.heap.size wr W' → Below wr.heap.size wr W' ∧ W'.cell? ⟨bx, ox + i * 4, none⟩ = some (.int .i64 x1) ∧ W'.cell? ⟨bx, ox + i * 4 + 1, none⟩ = some (.int .i64 x2) ∧ W'.cell? ⟨bx, ox + i * 4 + 2, none⟩ = some (.int .i64 x3) ∧ W'.cell? ⟨bx, ox + i * 4 + 3, none⟩ = some (.int .i64 x4) ∧ W'.cell? ⟨bl, o + i, none⟩ = some (.int .i64 s) from fun W' hb =>
              ⟨hb, (hb.cell (p := ⟨bx, ox + i * 4, none⟩) hbx).trans p0, (hb.cell (p := ⟨bx, ox + i * 4 + 1, none⟩) hbx).trans p1, (hb.cell (p := ⟨bx, ox + i * 4 + 2, none⟩) hbx).trans p2, (hb.cell (p := ⟨bx, ox + i * 4 + 3, none⟩) hbx).trans p3, (hb.cell (p := ⟨bl, o + i, none⟩) hbl).trans q0⟩)
            clear hfif hmul hfx hJ hJs hJn hre hF hs hs2 p0 p1 p2 p3 q0 hx hxo hcx hf
            go_upto_region 10 with fail
            go_cut [12, 13] (fun s12 s13 wx => ∃ zb : Nat, s12 = .pointer (some ⟨zb, 0, none⟩) ∧ s13 = .int .i64 ce ∧ Hid (wx.heap[zb]? = some (.cells #[Value.int .i64 y1, .int .i64 y2, .int .i64 y3, .int .i64 y4] 30 (0, 0))) ∧ Hid (Below wr.heap.size wr wx))
            case first =>
              have hbz : Below wr.heap.size wr wr.drew := (Below.refl _ wr).drew
              obtain ⟨-, p0, p1, p2, p3, c0⟩ := Hc.out _ (Below.refl _ wr)
              have hl0 : wr.heap.size ≤ wr.drew.heap.size := Nat.le_refl _
              go_region_held3 (fun W' => Below wr.heap.size wr W' ∧ W'.cell? ⟨bx, ox + i * 4, none⟩ = some (.int .i64 x1) ∧ W'.cell? ⟨bx, ox + i * 4 + 1, none⟩ = some (.int .i64 x2) ∧ W'.cell? ⟨bx, ox + i * 4 + 2, none⟩ = some (.int .i64 x3) ∧ W'.cell? ⟨bx, ox + i * 4 + 3, none⟩ = some (.int .i64 x4) ∧ W'.cell? ⟨bl, o + i, none⟩ = some (.int .i64 s))
                (first
                  | (refine Hc.out _ ?_; repeat (first | with_reducible exact hbz | with_reducible exact hk2 | with_reducible exact hk1 | with_reducible refine Below.drew ?_ | with_reducible refine below_al1 ?_ _ | with_reducible exact Below.refl _ _ | (with_reducible refine Below.setCell ?_ (by first | exact hk1.size | exact hk2.size | exact Nat.le_refl _) _)))
                  | go_keep)
                (first
                | (go_at_call 13; have hcur := (‹Below wr.heap.size wr _ ∧ _›).1; (with_reducible refine (Hfif.out _).mono ?_); rintro e w7 ⟨rfl, hb7⟩; have hk1 := hcur.trans (hb7.mono hcur.size); (try (have hzA := (hb7.block wr.heap.size (by simp)).trans (heap_alloc_new wr (.cells #[Value.int .i64 0, .int .i64 0, .int .i64 0, .int .i64 0] 30)); obtain ⟨x0, x1, x2, x3, x4⟩ := cells4 hzA)); clear hb7 hcur)
                | (go_at_call 38; have hcur := (‹Below wr.heap.size wr _ ∧ _›).1; (with_reducible refine (Hmul.out _).mono ?_); rintro e w8 ⟨rfl, hb8⟩; have hk2 := hcur.trans (hb8.mono hcur.size); (try (have hzB := (hb8.block wr.heap.size (Array.getElem?_eq_some_iff.1 hzA).1).trans hzA; obtain ⟨x0, x1, x2, x3, x4⟩ := cells4 hzB)); (try (have hzB := (hb8.block w7.heap.size (by simp)).trans (heap_alloc_new w7 (.cells #[Value.int .i64 0, .int .i64 0, .int .i64 0, .int .i64 0] 30)); obtain ⟨x0, x1, x2, x3, x4⟩ := cells4 hzB)); clear hb8 hcur))
              all_goals
                go_wp2_with fail
                go_meet
                first
                  | exact ⟨_, rfl, rfl, Lib.hid (heap_alloc_new w8 _), Lib.hid (below_al1 hk2 _)⟩
                  | exact ⟨_, rfl, rfl, Lib.hid (set4_heap hzB _ _ _ _), Lib.hid (set4_below hk2 hk1.size _ _ _ _)⟩
                  | exact ⟨_, rfl, rfl, Lib.hid (set4_heap hzB _ _ _ _), Lib.hid (set4_below hk2 (Nat.le_refl _) _ _ _ _)⟩
            case rest =>
              obtain ⟨zb, rfl, rfl, HY, HB⟩ := hcut
              have Hend := Lib.hid (fun W' (hb : Below wr.heap.size wr W') => show Below w.heap.size w W' from Hb1.out.trans ((Hgw.out W' hb).mono Hb1.out.size))
              clear Hfif Hmul
              cases J with
              | none =>
                obtain rfl := HJ.out.2 rfl
                have Hf := Lib.hid (fun W' (hb : Below wr.heap.size wr W') => HR.out.out (.returned (.tuple #[.slice none 0 0, .int .i64 5])) W' ⟨Hend.out W' hb, by rw [HI.out.2, Hst2.out]; rfl⟩)
                clear Hst2 Hyok Hc Hfx
                go_wp2_with fail
                first | exact Hf.out _ HB.out | (go_ret2; exact Hf.out _ HB.out)
              | some y =>
                obtain ⟨hy, hce⟩ := HJ.out.1 y rfl
                subst hce
                have hyo := Hyok.out y rfl
                dsimp only at Hst2
                have hfy := fun W => rfreq_any base y W hb0 hb hyo
                obtain ⟨cy, hcy⟩ := freq_tup base y
                rw [hcy] at hfy
                have hf2 := fqV_lt base y
                obtain ⟨h, hh⟩ : ∃ h, fqV base y = h := ⟨_, rfl⟩
                rw [hh] at hfy Hst2 hf2
                subst hy
                unfold Tn.val at hfy
                dsimp only at hfy
                have Hfy := Lib.hid hfy
                clear hfy hcy hh hyo Hyok HJ
                have Hyl := Lib.hid (Array.getElem?_eq_some_iff.1 HY.out).1
                obtain ⟨-, p0, p1, p2, p3, -⟩ := Hc.out _ HB.out
                obtain ⟨r0, r1, r2, r3, -⟩ := cells4 HY.out
                obtain ⟨a, ha⟩ : ∃ a, 3 * f % 18446744073709551616 = a := ⟨_, rfl⟩
                obtain ⟨b, hb2⟩ : ∃ b, 2 * h % 18446744073709551616 = b := ⟨_, rfl⟩
                have Hv := Lib.hid (show beatV f h = if b ≤ a then a - b else b - a by unfold beatV; rw [ha, hb2])
                have ai : (3 * (f : Int)) % 18446744073709551616 = (a : Int) := by omega
                have bi : (2 * (h : Int)) % 18446744073709551616 = (b : Int) := by omega
                have ai2 : IntKind.u64.wrap (3 * (f : Int)) = (a : Int) := by rw [wrap_u64]; exact ai
                have bi2 : IntKind.u64.wrap (2 * (h : Int)) = (b : Int) := by rw [wrap_u64]; exact bi
                have al : a < 18446744073709551616 := by omega
                have bl' : b < 18446744073709551616 := by omega
                clear ha hb2
                go_upto_region 15 with (first
                  | ((with_reducible refine (Hfx.out _).mono ?_); rintro e w3 ⟨rfl, hb3⟩; have Hb3' := Lib.hid (HB.out.trans (hb3.mono HB.out.size)); (have hy3 := cells4 ((hb3.block zb Hyl.out).trans HY.out)); obtain ⟨r0, r1, r2, r3, -⟩ := hy3; clear hb3)
                  | ((with_reducible refine (Hfy.out _).mono ?_); rintro e w4 ⟨rfl, hb4⟩; have Hb4 := Lib.hid (Hb3'.out.trans (hb4.mono Hb3'.out.size)); clear hb4))
                have Hgb := Lib.hid (show Below g w1 w4 from HW.out.trans (Hb4.out.mono hsz))
                have hsz4 : g ≤ w4.heap.size := Nat.le_trans hsz Hb4.out.size
                have HO4 := Lib.hid (ownsRow_below HO.out Hb4.out)
                clear r0 r1 r2 r3 p0 p1 p2 p3 Hc Hfx Hfy HY HB
                rcases Nat.lt_or_ge a b with hab | hab
                · have t5 : decide ((b : Int) ≤ (a : Int)) = false := decide_eq_false (by omega)
                  have t6 : decide (b ≤ a) = false := decide_eq_false (by omega)
                  have si : (b : Int) - (a : Int) = ((b - a : Nat) : Int) := by omega
                  have si2 : IntKind.u64.wrap ((b : Int) - (a : Int)) = ((b - a : Nat) : Int) := by rw [wrap_u64]; omega
                  have si3 : ((b : Int) - (a : Int)) % 18446744073709551616 = ((b - a : Nat) : Int) := by omega
                  have Hv2 := Lib.hid (show b - a = beatV f h by rw [Hv.out, if_neg (by omega)])
                  clear hab
                  go_wp2_with (at_builtin; refine wpList_app rfl (.tmp 85) (.tmp 91) _ rfl elemU64 g _ _ _ rfl (ownsRow_below HO4.out (below_new w4 _)) _ _ _ _ rfl (Sl.new w4 _ _ 1 1 rfl) (by simp [Value.oneCell']) (by unfold maxLen; omega) (by omega) (by simp; omega) ?_; intro A8 c8 w5 ho5 hg5 _)
                  have hk5 := grown_kx (ownsRow_below HO4.out (below_new w4 _)) hg5
                  have hb5 : Below g w1 w5 := Kx.low (Hgb.out.alloc hsz4 _) hk5 (fun j hj => hj) (by simp; omega)
                  have hT' : T = (beatsF base u ((tn0 :: L).drop (i + 1)) (l.drop (i + 1))).map ((M ++ [b - a]) ++ ·) := by
                    rw [HI.out.2, Hst2.out, Hv2.out]
                    cases beatsF base u ((tn0 :: L).drop (i + 1)) (l.drop (i + 1)) with
                    | none => rfl
                    | some q => simp
                  have hrow : w5.ownsRow g 39 1 (.slice A8 (i + 1) c8) (i + 1) ((M ++ [b - a]).flatMap u64E) := by
                    rw [List.flatMap_append]; exact ho5
                  have HF := Lib.hid (And.intro hT' (And.intro hrow hb5))
                  clear hT' hrow hb5 hk5 hg5 ho5
                  exact ⟨⟨i + 1, c8, A8, M ++ [b - a], rfl, by go_num, by omega, Lib.hid ⟨by rw [List.length_append, HI.out.1]; rfl, HF.out.1⟩, Lib.hid HF.out.2.1, Lib.hid HF.out.2.2⟩, by simp [intOf]; omega⟩
                · have t5 : decide ((b : Int) ≤ (a : Int)) = true := decide_eq_true (by omega)
                  have t6 : decide (b ≤ a) = true := decide_eq_true hab
                  have si : (a : Int) - (b : Int) = ((a - b : Nat) : Int) := by omega
                  have si2 : IntKind.u64.wrap ((a : Int) - (b : Int)) = ((a - b : Nat) : Int) := by rw [wrap_u64]; omega
                  have Hv2 := Lib.hid (show a - b = beatV f h by rw [Hv.out, if_pos hab])
                  clear hab
                  go_wp2_with (at_builtin; refine wpList_app rfl (.tmp 77) (.tmp 83) _ rfl elemU64 g _ _ _ rfl (ownsRow_below HO4.out (below_new w4 _)) _ _ _ _ rfl (Sl.new w4 _ _ 1 1 rfl) (by simp [Value.oneCell']) (by unfold maxLen; omega) (by omega) (by simp; omega) ?_; intro A8 c8 w5 ho5 hg5 _)
                  have hk5 := grown_kx (ownsRow_below HO4.out (below_new w4 _)) hg5
                  have hb5 : Below g w1 w5 := Kx.low (Hgb.out.alloc hsz4 _) hk5 (fun j hj => hj) (by simp; omega)
                  have hT' : T = (beatsF base u ((tn0 :: L).drop (i + 1)) (l.drop (i + 1))).map ((M ++ [a - b]) ++ ·) := by
                    rw [HI.out.2, Hst2.out, Hv2.out]
                    cases beatsF base u ((tn0 :: L).drop (i + 1)) (l.drop (i + 1)) with
                    | none => rfl
                    | some q => simp
                  have hrow : w5.ownsRow g 39 1 (.slice A8 (i + 1) c8) (i + 1) ((M ++ [a - b]).flatMap u64E) := by
                    rw [List.flatMap_append]; exact ho5
                  have HF := Lib.hid (And.intro hT' (And.intro hrow hb5))
                  clear hT' hrow hb5 hk5 hg5 ho5
                  exact ⟨⟨i + 1, c8, A8, M ++ [a - b], rfl, by go_num, by omega, Lib.hid ⟨by rw [List.length_append, HI.out.1]; rfl, HF.out.1⟩, Lib.hid HF.out.2.1, Lib.hid HF.out.2.2⟩, by simp [intOf]; omega⟩
          · obtain rfl : n = i := by omega
            have hd : (tn0 :: L).drop n = [] := List.drop_eq_nil_of_le (by rw [List.length_cons]; have := HLn.out; omega)
            have hTs : T = some M := by rw [HI.out.2, hd]; simp [beatsF]
            have Hf := Lib.hid (HR.out.out (.returned (.tuple #[.slice A10 n c10, .int .i64 0])) wr ⟨Hb1.out.trans ((Hgw.out wr (Below.refl _ _)).mono Hb1.out.size), by rw [hTs]; exact ⟨A10, n, c10, HI.out.1.symm, rfl, ownsRow_less HO.out (by rw [← Hg.out]; exact Hb1.out.size)⟩⟩)
            clear hd hTs
            go_wp2_with fail
            first | exact Hf.out | (go_ret2; exact Hf.out)
end
end
section
section
open Go.RowKit
def ToldP (f : List Tn → List Int → Option (List Nat)) (w : World) (base : Nat) (l : List Int) (u : Int) (e : Ending) (w' : World) : Prop :=
  (rightB l u = false ∧ e = .returned (.tuple #[.slice none 0 0, .int .i64 1]) ∧ Below w.heap.size w w') ∨ (rightB l u = true ∧ OutP w (toldO f base l u) e w')
set_option maxRecDepth 16000 in
set_option maxHeartbeats 8000000 in
theorem beats_any (base : Nat) (A : Option Addr) (n c : Nat) (l : List Int) (u : Int) (w : World) (hS : SlE intE 1 w A n l) (hnc : n ≤ c) (hc : c ≤ 9223372036854775807) (hb : base < 18446744073709551616) :
    Calls Tryz.prog 21 #[.int .u64 (base : Nat), .slice A n c, .int .i64 u] w (ToldP (beatsF base u) w base l u) := by
  refine calls_cps ?_
  intro R hR
  have HS := Lib.hid hS
  have Hn := Lib.hid hS.1
  have Hbas := Lib.hid (based_any base A n c l u w hS hnc hc hb)
  have HR := Lib.hid hR
  clear hR hS
  go_enter Tryz.func21, Tryz.ntmps21
  go_wp2_with fail
  refine Hbas.out.mono ?_
  rintro e w1 ⟨hb1, ⟨hr, rfl⟩ | ⟨hr, hT, rfl⟩ | ⟨hr, ⟨L, hL⟩, hbb, rfl⟩ | ⟨L, A2, n2, c2, hr, hL, hbb, hn2, rfl, ho⟩⟩
  · have Hf := Lib.hid (HR.out.out (.returned (.tuple #[.slice none 0 0, .int .i64 1])) w1 (.inl ⟨hr, rfl, hb1⟩))
    clear hr hb1
    go_wp2_with fail
    exact Hf.out
  · have Hf := Lib.hid (HR.out.out (.returned (.tuple #[.slice none 0 0, .int .i64 5])) w1 (.inr ⟨hr, hb1, by unfold toldO; rw [hT]⟩))
    clear hr hT hb1
    go_wp2_with fail
    exact Hf.out
  · have Hf := Lib.hid (HR.out.out (.returned (.tuple #[.slice none 0 0, .int .i64 1])) w1 (.inr ⟨hr, hb1, by unfold toldO; rw [hL]; dsimp only; rw [if_pos hbb]⟩))
    clear hr hL hbb hb1
    go_wp2_with fail
    exact Hf.out
  · have hrs := right_spec hr
    have Hst := Lib.hid hrs.1
    obtain ⟨-, l1, l2, u1, u2⟩ := hrs
    rw [← Hn.out] at l1 l2
    have hlen := tonesF_len hL
    rw [List.length_dropLast, ← Hn.out] at hlen
    obtain rfl : n2 = n := by omega
    have HLn := Lib.hid (show L.length + 1 = n2 by omega)
    have Hok := Lib.hid (tonesF_ok hL tn0_ok)
    have HL2 := Lib.hid (show SlE tnE 4 w1 A2 n2 (tn0 :: L) from SlE.of_own ho (by rw [List.length_cons]; omega))
    have Hb1 := Lib.hid hb1
    have hb0 : 0 < base := hbb.1
    have HR := Lib.hid (show ∀ e w', OutP w (match beatsF base u (tn0 :: L) l with | none => .error 5 | some M => .ok M) e w' → R e w' from fun e w' h => HR.out.out e w' (.inr ⟨hr, by
      have e1 : toldO (beatsF base u) base l u = (match beatsF base u (tn0 :: L) l with | none => .error 5 | some M => .ok M) := by
        unfold toldO; rw [hL]; dsimp only; rw [if_neg (by omega)]
      rw [e1]; exact h⟩))
    have HS1 := Lib.hid (HS.out.below hb1)
    obtain ⟨T, hT⟩ : ∃ T, beatsF base u (tn0 :: L) l = T := ⟨_, rfl⟩
    rw [hT] at HR
    have HT := Lib.hid hT
    obtain ⟨g, hg⟩ : ∃ g, w1.heap.size = g := ⟨_, rfl⟩
    have Hg := Lib.hid hg
    clear hlen hL hr hb1 ho hT hn2 hg hbb
    go_wp2_with fail
    go_loopw [10, 31, 11, 12, 13, 14, 15, 16, 17, 18] (fun s10 s31 _ _ _ _ _ _ _ _ wr => ∃ (i c10 : Nat) (A10 : Option Addr) (M : List Nat), s10 = .slice A10 i c10 ∧ s31 = .int .i64 (i : Nat) ∧ i ≤ n2 ∧ Hid (M.length = i ∧ T = (beatsF base u ((tn0 :: L).drop i) (l.drop i)).map (M ++ ·)) ∧ Hid (wr.ownsRow g 39 1 (.slice A10 i c10) i (M.flatMap u64E)) ∧ Hid (Below g w1 wr)) (fun _ s31 _ _ _ _ _ _ _ _ _ => n2 - (intOf s31).toNat)
    case atStart => exact ⟨0, 0, none, [], rfl, rfl, Nat.zero_le _, Lib.hid ⟨rfl, by rw [List.drop_zero, List.drop_zero, HT.out]; cases T <;> simp⟩, Lib.hid (own_nilU w1 g), Lib.hid (by rw [← Hg.out]; exact Below.refl _ _)⟩
    case round =>
      obtain ⟨i, c10, A10, M, rfl, rfl, hi, HI, HO, HW⟩ := hrel
      have hsz : g ≤ wr.heap.size := by have := HW.out.size; rw [Hg.out] at this; exact this
      have Hgw := Lib.hid (fun W' (hb : Below wr.heap.size wr W') => show Below w1.heap.size w1 W' by rw [Hg.out]; exact HW.out.trans (hb.mono hsz))
      by_cases hlt : i < n2
      · have j1 : (i : Int) < (n2 : Int) := by omega
        have j0 : (0 : Int) ≤ (i : Int) := by omega
        obtain ⟨bl, o, s, rfl, hbl, hs, q0⟩ := (HS1.out.below (Hgw.out wr (Below.refl _ _))).at1 (k := i) hlt
        have hs2 := Hst.out s (List.mem_of_getElem? hs)
        obtain ⟨bx, ox, x, rfl, hbx, hx, p0, p1, p2, p3⟩ := (HL2.out.below (Hgw.out wr (Below.refl _ _))).at4' (k := i) hlt
        have hxo := Hok.out x (List.mem_of_getElem? hx)
        have Hst2 := Lib.hid (show beatsF base u ((tn0 :: L).drop i) (l.drop i) = (match joinT x (fifT s u) 1 with | some y => (beatsF base u ((tn0 :: L).drop (i + 1)) (l.drop (i + 1))).map (beatV (fqV base x) (fqV base y) :: ·) | none => none) from by rw [drop_at hs, dropT_at hx]; rfl)
        have hmul := fun W => stepped_any x s u W hxo hs2.1 hs2.2 u1 u2
        have hfx := fun W => freq_any base x W hb0 hb hxo
        obtain ⟨cx, hcx⟩ := freq_tup base x
        rw [hcx] at hfx
        have hf1 := fqV_lt base x
        obtain ⟨f, hf⟩ : ∃ f, fqV base x = f := ⟨_, rfl⟩
        rw [hf] at hfx Hst2 hf1
        obtain ⟨J, hJ⟩ : ∃ J, joinT x (fifT s u) 1 = J := ⟨_, rfl⟩
        rw [hJ] at hmul Hst2
        have Hyok := Lib.hid (fun y (h : J = some y) => join_ok (hJ.trans h))
        obtain ⟨y1, y2, y3, y4, ce, hre, hJs, hJn⟩ := red_agg J
        rw [hre] at hmul
        obtain ⟨x1, x2, x3, x4⟩ := x
        unfold Tn.val at hmul hfx
        dsimp only at hmul hfx p0 p1 p2 p3
        have Hmul := Lib.hid hmul
        have Hfx := Lib.hid hfx
        have HJ := Lib.hid (And.intro hJs hJn)
        clear hmul hfx hJ hJs hJn hre hs hs2 hx hxo hcx hf
        have Hq := Lib.hid (fun W' (hb : Below wr.heap.size wr W') => (hb.cell (p := ⟨bl, o + i, none⟩) hbl).trans q0)
        go_upto_region 8 with fail
        have hA := heap_alloc_new wr (.cells #[Value.int .i64 x1, .int .i64 x2, .int .i64 x3, .int .i64 x4] 30)
        have Hbx := Lib.hid (below_new wr (.cells #[Value.int .i64 x1, .int .i64 x2, .int .i64 x3, .int .i64 x4] 30))
        have Hxl := Lib.hid (show wr.heap.size < (wr.alloc (.cells #[Value.int .i64 x1, .int .i64 x2, .int .i64 x3, .int .i64 x4] 30)).heap.size by simp)
        obtain ⟨WX, hWX⟩ : ∃ W, wr.alloc (.cells #[Value.int .i64 x1, .int .i64 x2, .int .i64 x3, .int .i64 x4] 30) = W := ⟨_, rfl⟩
        obtain ⟨zx, hzx⟩ : ∃ z, wr.heap.size = z := ⟨_, rfl⟩
        rw [hWX] at hA Hbx Hxl ⊢
        rw [hzx] at hA Hbx Hxl hsz Hq Hgw ⊢
        have HA := Lib.hid hA
        have Hzx := Lib.hid hzx
        clear hWX hzx hA p0 p1 p2 p3
        have Hc := Lib.hid (show ∀ W', Below WX.heap.size WX W' → Below WX.heap.size WX W' ∧ W'.cell? ⟨zx, 0, none⟩ = some (.int .i64 x1) ∧ W'.cell? ⟨zx, 1, none⟩ = some (.int .i64 x2) ∧ W'.cell? ⟨zx, 2, none⟩ = some (.int .i64 x3) ∧ W'.cell? ⟨zx, 3, none⟩ = some (.int .i64 x4) ∧ W'.cell? ⟨bl, o + i, none⟩ = some (.int .i64 s) from fun W' hb => by
          obtain ⟨a0, a1, a2, a3, -⟩ := cells4 ((hb.block zx Hxl.out).trans HA.out)
          exact ⟨hb, a0, a1, a2, a3, Hq.out W' (Hbx.out.trans (hb.mono (Nat.le_of_lt Hxl.out)))⟩)
        clear q0
        go_cut [13, 14] (fun s13 s14 wx => ∃ zb : Nat, s13 = .pointer (some ⟨zb, 0, none⟩) ∧ s14 = .int .i64 ce ∧ Hid (wx.heap[zb]? = some (.cells #[Value.int .i64 y1, .int .i64 y2, .int .i64 y3, .int .i64 y4] 30 (0, 0))) ∧ Hid (Below WX.heap.size WX wx))
        case first =>
          have hbz : Below WX.heap.size WX WX.drew := (Below.refl _ WX).drew
          obtain ⟨-, p0, p1, p2, p3, c0⟩ := Hc.out _ (Below.refl _ WX)
          have hl0 : WX.heap.size ≤ WX.drew.heap.size := Nat.le_refl _
          go_region_held3 (fun W' => Below WX.heap.size WX W' ∧ W'.cell? ⟨zx, 0, none⟩ = some (.int .i64 x1) ∧ W'.cell? ⟨zx, 1, none⟩ = some (.int .i64 x2) ∧ W'.cell? ⟨zx, 2, none⟩ = some (.int .i64 x3) ∧ W'.cell? ⟨zx, 3, none⟩ = some (.int .i64 x4) ∧ W'.cell? ⟨bl, o + i, none⟩ = some (.int .i64 s))
            (first
              | (refine Hc.out _ ?_; repeat (first | with_reducible exact hbz | with_reducible exact hk1 | with_reducible refine Below.drew ?_ | with_reducible refine below_al1 ?_ _ | with_reducible exact Below.refl _ _ | (with_reducible refine Below.setCell ?_ (by first | exact hk1.size | exact Nat.le_refl _) _)))
              | go_keep)
            (first
            | (go_at_call 24; have hcur := (‹Below WX.heap.size WX _ ∧ _›).1; (with_reducible refine (Hmul.out _).mono ?_); rintro e w7 ⟨rfl, hb7⟩; have hk1 := hcur.trans (hb7.mono hcur.size); (try (have hzB := (hb7.block WX.heap.size (by simp)).trans (heap_alloc_new WX (.cells #[Value.int .i64 0, .int .i64 0, .int .i64 0, .int .i64 0] 30)); obtain ⟨z0, z1, z2, z3, z4⟩ := cells4 hzB)); clear hb7 hcur))
          all_goals
            go_wp2_with fail
            go_meet
            first
              | exact ⟨_, rfl, rfl, Lib.hid (heap_alloc_new w7 _), Lib.hid (below_al1 hk1 _)⟩
              | exact ⟨_, rfl, rfl, Lib.hid (set4_heap hzB _ _ _ _), Lib.hid (set4_below hk1 (Nat.le_refl _) _ _ _ _)⟩
        case rest =>
          obtain ⟨zb, rfl, rfl, HY, HB⟩ := hcut
          have HBr := Lib.hid (Hbx.out.trans (HB.out.mono (Nat.le_of_lt Hxl.out)))
          have Hend := Lib.hid (fun W' (hb : Below zx wr W') => show Below w.heap.size w W' from Hb1.out.trans ((Hgw.out W' hb).mono Hb1.out.size))
          clear Hmul
          cases J with
          | none =>
            obtain rfl := HJ.out.2 rfl
            have Hf := Lib.hid (fun W' (hb : Below zx wr W') => HR.out (.returned (.tuple #[.slice none 0 0, .int .i64 5])) W' ⟨Hend.out W' hb, by rw [HI.out.2, Hst2.out]; rfl⟩)
            clear Hst2 Hyok Hc Hfx
            go_wp2_with fail
            first | exact Hf.out _ HBr.out | (go_ret2; exact Hf.out _ HBr.out)
          | some y =>
            obtain ⟨hy, hce⟩ := HJ.out.1 y rfl
            subst hce
            have hyo := Hyok.out y rfl
            dsimp only at Hst2
            have hfy := fun W => freq_any base y W hb0 hb hyo
            obtain ⟨cy, hcy⟩ := freq_tup base y
            rw [hcy] at hfy
            have hf2 := fqV_lt base y
            obtain ⟨h, hh⟩ : ∃ h, fqV base y = h := ⟨_, rfl⟩
            rw [hh] at hfy Hst2 hf2
            subst hy
            unfold Tn.val at hfy
            dsimp only at hfy
            have Hfy := Lib.hid hfy
            clear hfy hcy hh hyo Hyok HJ
            have Hyl := Lib.hid (Array.getElem?_eq_some_iff.1 HY.out).1
            obtain ⟨-, p0, p1, p2, p3, -⟩ := Hc.out _ HB.out
            obtain ⟨r0, r1, r2, r3, -⟩ := cells4 HY.out
            obtain ⟨a, ha⟩ : ∃ a, 3 * f % 18446744073709551616 = a := ⟨_, rfl⟩
            obtain ⟨b, hb2⟩ : ∃ b, 2 * h % 18446744073709551616 = b := ⟨_, rfl⟩
            have Hv := Lib.hid (show beatV f h = if b ≤ a then a - b else b - a by unfold beatV; rw [ha, hb2])
            have ai : (3 * (f : Int)) % 18446744073709551616 = (a : Int) := by omega
            have bi : (2 * (h : Int)) % 18446744073709551616 = (b : Int) := by omega
            have ai2 : IntKind.u64.wrap (3 * (f : Int)) = (a : Int) := by rw [wrap_u64]; exact ai
            have bi2 : IntKind.u64.wrap (2 * (h : Int)) = (b : Int) := by rw [wrap_u64]; exact bi
            have al : a < 18446744073709551616 := by omega
            have bl' : b < 18446744073709551616 := by omega
            clear ha hb2
            go_upto_region 13 with (first
              | ((with_reducible refine (Hfx.out _).mono ?_); rintro e w3 ⟨rfl, hb3⟩; have Hb3 := Lib.hid (HBr.out.trans (hb3.mono (by rw [Hzx.out.symm]; exact Nat.le_trans (Nat.le_of_eq rfl) HBr.out.size))); (have hy3 := cells4 ((hb3.block zb Hyl.out).trans HY.out)); obtain ⟨r0, r1, r2, r3, -⟩ := hy3; clear hb3)
              | ((with_reducible refine (Hfy.out _).mono ?_); rintro e w4 ⟨rfl, hb4⟩; have Hb4 := Lib.hid (Hb3.out.trans (hb4.mono (by rw [Hzx.out.symm]; exact Hb3.out.size))); clear hb4))
            have Hgb := Lib.hid (show Below g w1 w4 from HW.out.trans (Hb4.out.mono hsz))
            have hsz4 : g ≤ w4.heap.size := Nat.le_trans (by rw [Hzx.out]; exact hsz) Hb4.out.size
            have HO4 := Lib.hid (ownsRow_below HO.out (by rw [Hzx.out]; exact Hb4.out))
            clear r0 r1 r2 r3 p0 p1 p2 p3 Hc Hfx Hfy HY HB
            obtain ⟨v, hv⟩ : ∃ v, beatV f h = v := ⟨_, rfl⟩
            have Hvv := Lib.hid hv
            obtain ⟨mx, hmx⟩ : ∃ m, max (a : Int) (b : Int) = m := ⟨_, rfl⟩
            obtain ⟨mn, hmn⟩ : ∃ m, min (a : Int) (b : Int) = m := ⟨_, rfl⟩
            have si : mx - mn = (v : Int) := by
              rw [← hv, Hv.out, ← hmx, ← hmn]
              split <;> omega
            have si2 : IntKind.u64.wrap (mx - mn) = (v : Int) := by
              rw [si, wrap_u64]
              rw [← hv, Hv.out]
              split <;> omega
            clear hv
            go_wp2_with (at_builtin; refine wpList_app rfl (.tmp 61) (.tmp 73) _ rfl elemU64 g _ _ _ rfl (ownsRow_below HO4.out (below_new w4 _)) _ _ _ _ rfl (Sl.new w4 _ _ 1 1 rfl) (by simp [Value.oneCell']) (by unfold maxLen; omega) (by omega) (by simp; omega) ?_; intro A8 c8 w5 ho5 hg5 _)
            have hk5 := grown_kx (ownsRow_below HO4.out (below_new w4 _)) hg5
            have hb5 : Below g w1 w5 := Kx.low (Hgb.out.alloc hsz4 _) hk5 (fun j hj => hj) (by simp; omega)
            have hT' : T = (beatsF base u ((tn0 :: L).drop (i + 1)) (l.drop (i + 1))).map ((M ++ [v]) ++ ·) := by
              rw [HI.out.2, Hst2.out, Hvv.out]
              cases beatsF base u ((tn0 :: L).drop (i + 1)) (l.drop (i + 1)) with
              | none => rfl
              | some q => simp
            have hrow : w5.ownsRow g 39 1 (.slice A8 (i + 1) c8) (i + 1) ((M ++ [v]).flatMap u64E) := by
              rw [List.flatMap_append]; exact ho5
            have HF := Lib.hid (And.intro hT' (And.intro hrow hb5))
            clear hT' hrow hb5 hk5 hg5 ho5
            go_wp2_with fail
            exact ⟨⟨i + 1, c8, A8, M ++ [v], rfl, by go_num, by omega, Lib.hid ⟨by rw [List.length_append, HI.out.1]; rfl, HF.out.1⟩, Lib.hid HF.out.2.1, Lib.hid HF.out.2.2⟩, by simp [intOf]; omega⟩
      · obtain rfl : n2 = i := by omega
        have hd : (tn0 :: L).drop n2 = [] := List.drop_eq_nil_of_le (by rw [List.length_cons]; have := HLn.out; omega)
        have hTs : T = some M := by rw [HI.out.2, hd]; simp [beatsF]
        have Hf := Lib.hid (HR.out (.returned (.tuple #[.slice A10 n2 c10, .int .i64 0])) wr ⟨Hb1.out.trans ((Hgw.out wr (Below.refl _ _)).mono Hb1.out.size), by rw [hTs]; exact ⟨A10, n2, c10, HI.out.1.symm, rfl, ownsRow_less HO.out (by rw [← Hg.out]; exact Hb1.out.size)⟩⟩)
        clear hd hTs
        go_wp2_with fail
        first | exact Hf.out | (go_ret2; exact Hf.out)
end
end
end Go.Proofs.YtojbldoekalbnaaGreat
