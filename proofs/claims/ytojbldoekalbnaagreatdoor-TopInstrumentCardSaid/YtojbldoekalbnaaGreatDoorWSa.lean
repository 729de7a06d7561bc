/-
  Contracts of slices.Sort at uint64, temper.Scale and the third reference's Scale; each states its condition.
-/
import Derived.Test.YtojbldoekalbnaaGreatDoorVSb
import Derived.Test.YtojbldoekalbnaaGreatDoorNUa
namespace Go.Proofs.YtojbldoekalbnaaGreatDoor
section
section
open Go.RowKit
theorem pdqU_zero (g n c b lim : Nat) (d : Array Nat) (w : World) (hB : BlkV w g n d) (hb : b ≤ n) (hl : b < 50) (hn : n ≤ 100000) (hlim : lim ≤ 64) :
    Calls Tryz.prog 36 #[.slice (some ⟨g, 0, none⟩) n c, .int .i64 0, .int .i64 (b : Nat), .int .i64 (lim : Nat)] w (PdqP w g n 0 b d) :=
  pdqU_any b g n c 0 b lim d w (by omega) hB (Nat.zero_le _) hb (by omega) hn hlim (.inl rfl)
set_option maxHeartbeats 1000000 in
theorem sortU_any (g n c : Nat) (d : Array Nat) (w : World) (hB : BlkV w g n d) (hn : n < 50) :
    Calls Tryz.prog 14 #[.slice (some ⟨g, 0, none⟩) n c] w (PdqP w g n 0 n d) := by
  refine calls_cps ?_
  intro R hR
  have hk : bitsN n ≤ 6 := (bitsN_le_iff n 6).2 (by omega)
  have Hl := Lib.hid (len_any n w (by omega))
  obtain ⟨k, hke⟩ : ∃ k, bitsN n = k := ⟨_, rfl⟩
  rw [hke] at Hl hk
  have Hp := Lib.hid (pdqU_zero g n c n k d w hB (Nat.le_refl _) hn (by omega) (by omega))
  have xi : IntKind.u64.wrap (n : Int) = (n : Int) := IntWalk.u64_in _ (by omega)
  have xi2 : (n : Int) % 18446744073709551616 = (n : Int) := by omega
  have HR := Lib.hid hR
  clear hR hB hke
  go_enter Tryz.func14, Tryz.ntmps14
  go_wp2_with (first
    | ((with_reducible refine Hl.out.mono ?_); rintro e w' ⟨rfl, hw⟩; subst hw)
    | ((with_reducible refine Hp.out.mono ?_); rintro e w2 ⟨d2, rfl, hB2, hp2, hs2, hk2⟩))
  have Hf := Lib.hid (HR.out.out _ _ ⟨d2, rfl, hB2, hp2, hs2, hk2⟩)
  go_end0
  exact Hf.out
/-- The numbers in order. -/
def sortL (l : List Nat) : List Nat := l.mergeSort (fun x y => !ltN y x)
theorem ltN_anti (x y : Nat) (h1 : ltN x y = false) (h2 : ltN y x = false) : x = y := by
  unfold ltN at h1 h2
  simp at h1 h2
  omega
theorem sorted_eq {d d' : Array Nat} {n : Nat} (hn : d.size = n) (hp : Sort.PermIn 0 n d d') (hs : Sort.SortedIn ltN 0 n d') : d'.toList = sortL d.toList := by
  subst hn
  exact Sort.sorted_unique_holds swoN ltN_anti d d' hp hs
theorem getA (M : List Nat) (i : Nat) (h : i < M.length) : M[i]? = some (M.toArray[i]!) := by
  rw [List.getElem?_eq_getElem h]
  simp [h]
theorem BlkV.of_own {W : World} {base g n c : Nat} {M : List Nat} (hM : ∀ x ∈ M, x < 18446744073709551616) (hn : M.length = n) (h : W.ownsRow base 31 1 (.slice (some ⟨g, 0, none⟩) n c) n (M.flatMap u64E)) : BlkV W g n M.toArray := by
  rcases h.2 with ⟨h', _⟩ | ⟨g', c', cur, h', _, hg, _, _, _, ht⟩
  · simp at h'
  · simp only [Value.slice.injEq, Option.some.injEq, Addr.mk.injEq, and_true, true_and] at h'
    obtain ⟨rfl, rfl⟩ := h'
    refine ⟨by simpa using hn, fun i hi => ?_, cur, hg, fun i hi => ?_⟩
    · have := getA M i (by omega)
      exact hM _ (List.mem_of_getElem? this)
    · have h1 := congrArg (fun l => l[i]?) ht
      simp only [Nat.mul_one, List.getElem?_take, if_pos hi, Array.getElem?_toList] at h1
      rw [h1, flat_u64, List.getElem?_map, getA M i (by omega)]
      rfl
theorem BlkV.sle {W : World} {g n : Nat} {d : Array Nat} (h : BlkV W g n d) : SlE u64E 1 W (some ⟨g, 0, none⟩) n d.toList := by
  refine ⟨by rw [Array.length_toList]; exact h.1.symm, by rw [flat_u64]; simp [h.1], fun hn => ⟨g, 0, rfl, h.lt, fun j u hu => ?_⟩⟩
  rw [flat_u64, List.getElem?_map, Array.getElem?_toList] at hu
  have hj : j < n := by
    rcases Nat.lt_or_ge j n with hj | hj
    · exact hj
    · rw [Array.getElem?_eq_none (by rw [h.1]; exact hj)] at hu
      cases hu
  rw [Array.getElem?_eq_getElem (by rw [h.1]; exact hj)] at hu
  simp only [Option.map_some, Option.some.injEq] at hu
  rw [Nat.zero_add, h.cell hj, ← hu, getElem!_pos d j (by rw [h.1]; exact hj)]
theorem own_some {W : World} {base e n : Nat} {V : Value} {xs : List Value} (h : W.ownsRow base e 1 V n xs) (hn : 0 < n) : ∃ g c, V = .slice (some ⟨g, 0, none⟩) n c ∧ base ≤ g ∧ n ≤ c ∧ c ≤ 9223372036854775807 := by
  rcases h.2 with ⟨h', h0⟩ | ⟨g', c', cur, h', hb, hg, h1, h2, _⟩
  · omega
  · exact ⟨g', c', h', hb, h1, by unfold maxLen at h2; omega⟩
/-- What is told: an error, or a list that reads. -/
def OutR (w : World) (O : Except Int (List Nat)) (e : Ending) (w' : World) : Prop :=
  Below w.heap.size w w' ∧ match O with
  | .error c => e = .returned (.tuple #[.slice none 0 0, .int .i64 c])
  | .ok M => ∃ A n c, n = M.length ∧ n ≤ c ∧ c ≤ 9223372036854775807 ∧ e = .returned (.tuple #[.slice A n c, .int .i64 0]) ∧ SlE u64E 1 w' A n M
def ToldR (f : List Tn → List Int → Option (List Nat)) (w : World) (base : Nat) (l : List Int) (u : Int) (e : Ending) (w' : World) : Prop :=
  (rightB l u = false ∧ e = .returned (.tuple #[.slice none 0 0, .int .i64 1]) ∧ Below w.heap.size w w') ∨ (rightB l u = true ∧ OutR w (toldO f base l u) e w')
def scaleF (base : Nat) (L : List Tn) (_l : List Int) : Option (List Nat) := some (sortL (L.map (fqV base)))
end
section
open Go.RowKit
set_option maxRecDepth 16000 in
set_option maxHeartbeats 8000000 in
theorem scale_any (base : Nat) (A : Option Addr) (n c : Nat) (l : List Int) (u : Int) (w : World) (hS : SlE intE 1 w A n l) (hnc : n ≤ c) (hc : c ≤ 9223372036854775807) (hb : base < 18446744073709551616) :
    Calls Tryz.prog 4 #[.int .u64 (base : Nat), .slice A n c, .int .i64 u] w (ToldR (scaleF base) w base l u) := by
  refine calls_cps ?_
  intro R hR
  have HS := Lib.hid hS
  have Hn := Lib.hid hS.1
  have Hbas := Lib.hid (based_any base A n c l u w hS hnc hc hb)
  have HR := Lib.hid hR
  clear hR hS
  go_enter Tryz.func4, Tryz.ntmps4
  go_wp2_with fail
  refine Hbas.out.mono ?_
  rintro e w1 ⟨hb1, ⟨hr, rfl⟩ | ⟨hr, hT, rfl⟩ | ⟨hr, ⟨L, hL⟩, hbb, rfl⟩ | ⟨L, A2, n2, c2, hr, hL, hbb, hn2, rfl, ho⟩⟩
  · have Hf := Lib.hid (HR.out.out (.returned (.tuple #[.slice none 0 0, .int .i64 1])) w1 (.inl ⟨hr, rfl, hb1⟩))
    clear hr hb1
    go_wp2_with fail
    exact Hf.out
  · have Hf := Lib.hid (HR.out.out (.returned (.tuple #[.slice none 0 0, .int .i64 5])) w1 (.inr ⟨hr, hb1, by unfold toldO; rw [hT]⟩))
    clear hr hT hb1
    go_wp2_with fail
    exact Hf.out
  · have Hf := Lib.hid (HR.out.out (.returned (.tuple #[.slice none 0 0, .int .i64 1])) w1 (.inr ⟨hr, hb1, by unfold toldO; rw [hL]; dsimp only; rw [if_pos hbb]⟩))
    clear hr hL hbb hb1
    go_wp2_with fail
    exact Hf.out
  · have hrs := right_spec hr
    obtain ⟨-, l1, l2, u1, u2⟩ := hrs
    rw [← Hn.out] at l1 l2
    have hlen := tonesF_len hL
    rw [List.length_dropLast, ← Hn.out] at hlen
    obtain rfl : n2 = n := by omega
    have HLn := Lib.hid (show L.length + 1 = n2 by omega)
    have Hok := Lib.hid (tonesF_ok hL tn0_ok)
    have HL2 := Lib.hid (show SlE tnE 4 w1 A2 n2 (tn0 :: L) from SlE.of_own ho (by rw [List.length_cons]; omega))
    have Hb1 := Lib.hid hb1
    have hb0 : 0 < base := hbb.1
    have HR := Lib.hid (show ∀ V n c w', n = (sortL ((tn0 :: L).map (fqV base))).length → n ≤ c → c ≤ 9223372036854775807 → SlE u64E 1 w' V n (sortL ((tn0 :: L).map (fqV base))) → Below w.heap.size w w' → R (.returned (.tuple #[.slice V n c, .int .i64 0])) w' from fun V n c w' h1 h2 h3 h4 h5 => HR.out.out _ w' (.inr ⟨hr, h5, by
      unfold toldO; rw [hL]; dsimp only; rw [if_neg (by omega)]
      exact ⟨V, n, c, h1, h2, h3, rfl, h4⟩⟩))
    obtain ⟨M0, hM0⟩ : ∃ M, (tn0 :: L).map (fqV base) = M := ⟨_, rfl⟩
    rw [hM0] at HR
    have HM0 := Lib.hid hM0
    have hML : M0.length = n2 := by rw [← hM0, List.length_map, List.length_cons]; omega
    have HML := Lib.hid hML
    have HMs := Lib.hid (show ∀ x ∈ M0, x < 18446744073709551616 from fun x hx => by
      rw [← hM0] at hx
      obtain ⟨t, _, rfl⟩ := List.mem_map.1 hx
      have := fqV_lt base t
      omega)
    obtain ⟨g, hg⟩ : ∃ g, w1.heap.size = g := ⟨_, rfl⟩
    have Hg := Lib.hid hg
    clear hlen hL hr hb1 ho hn2 hg hbb hM0 hML
    go_wp2_with fail
    go_loopw [10, 27, 12, 13, 14] (fun s10 s27 _ _ _ wr => ∃ (i c10 : Nat) (A10 : Option Addr), s10 = .slice A10 i c10 ∧ s27 = .int .i64 (i : Nat) ∧ i ≤ n2 ∧ Hid (wr.ownsRow g 31 1 (.slice A10 i c10) i ((M0.take i).flatMap u64E)) ∧ Hid (Below g w1 wr)) (fun _ s27 _ _ _ _ => n2 - (intOf s27).toNat)
    case atStart => exact ⟨0, 0, none, rfl, rfl, Nat.zero_le _, Lib.hid (own_nilU w1 g), Lib.hid (by rw [← Hg.out]; exact Below.refl _ _)⟩
    case round =>
      obtain ⟨i, c10, A10, rfl, rfl, hi, HO, HW⟩ := hrel
      have hsz : g ≤ wr.heap.size := by have := HW.out.size; rw [Hg.out] at this; exact this
      have Hgw := Lib.hid (fun W' (hb : Below wr.heap.size wr W') => show Below w1.heap.size w1 W' by rw [Hg.out]; exact HW.out.trans (hb.mono hsz))
      by_cases hlt : i < n2
      · have j1 : (i : Int) < (n2 : Int) := by omega
        have j0 : (0 : Int) ≤ (i : Int) := by omega
        obtain ⟨bx, ox, x, rfl, hbx, hx, p0, p1, p2, p3⟩ := (HL2.out.below (Hgw.out wr (Below.refl _ _))).at4' (k := i) hlt
        have hxo := Hok.out x (List.mem_of_getElem? hx)
        have hfx := fun W => freq_any base x W hb0 hb hxo
        obtain ⟨cx, hcx⟩ := freq_tup base x
        rw [hcx] at hfx
        have hf1 := fqV_lt base x
        have hMi : M0[i]? = some (fqV base x) := by rw [← HM0.out, List.getElem?_map, hx]; rfl
        obtain ⟨f, hf⟩ : ∃ f, fqV base x = f := ⟨_, rfl⟩
        rw [hf] at hfx hf1 hMi
        obtain ⟨x1, x2, x3, x4⟩ := x
        unfold Tn.val at hfx
        dsimp only at hfx p0 p1 p2 p3
        have Hfx := Lib.hid hfx
        have HMi := Lib.hid hMi
        clear hfx hx hxo hcx hf hMi
        go_upto_region 8 with fail
        have hA := heap_alloc_new wr (.cells #[Value.int .i64 x1, .int .i64 x2, .int .i64 x3, .int .i64 x4] 56)
        have Hbx := Lib.hid (below_new wr (.cells #[Value.int .i64 x1, .int .i64 x2, .int .i64 x3, .int .i64 x4] 56))
        obtain ⟨WX, hWX⟩ : ∃ W, wr.alloc (.cells #[Value.int .i64 x1, .int .i64 x2, .int .i64 x3, .int .i64 x4] 56) = W := ⟨_, rfl⟩
        obtain ⟨zx, hzx⟩ : ∃ z, wr.heap.size = z := ⟨_, rfl⟩
        rw [hWX] at hA Hbx ⊢
        rw [hzx] at hA Hbx hsz Hgw ⊢
        have Hzx := Lib.hid hzx
        clear hWX hzx p0 p1 p2 p3
        obtain ⟨r0, r1, r2, r3, -⟩ := cells4 hA
        clear hA
        go_upto_region 9 with ((with_reducible refine (Hfx.out _).mono ?_); rintro e w4 ⟨rfl, hb4⟩; have Hb4 := Lib.hid (Hbx.out.trans (hb4.mono (by rw [← Hzx.out]; exact Hbx.out.size))); clear hb4)
        have Hgb := Lib.hid (show Below g w1 w4 from HW.out.trans (Hb4.out.mono hsz))
        have hsz4 : g ≤ w4.heap.size := Nat.le_trans (by rw [Hzx.out]; exact hsz) Hb4.out.size
        have HO4 := Lib.hid (ownsRow_below HO.out (by rw [Hzx.out]; exact Hb4.out))
        clear r0 r1 r2 r3 Hfx
        go_wp2_with (at_builtin; refine wpList_app rfl (.tmp 37) (.tmp 39) _ rfl elemU64 g _ _ _ rfl (ownsRow_below HO4.out (below_new w4 _)) _ _ _ _ rfl (Sl.new w4 _ _ 1 1 rfl) (by simp [Value.oneCell']) (by unfold maxLen; omega) (by omega) (by simp; omega) ?_; intro A8 c8 w5 ho5 hg5 _)
        have hk5 := grown_kx (ownsRow_below HO4.out (below_new w4 _)) hg5
        have hb5 : Below g w1 w5 := Kx.low (Hgb.out.alloc hsz4 _) hk5 (fun j hj => hj) (by simp; omega)
        have hrow : w5.ownsRow g 31 1 (.slice A8 (i + 1) c8) (i + 1) ((M0.take (i + 1)).flatMap u64E) := by
          rw [List.take_add_one, HMi.out, List.flatMap_append]; exact ho5
        have HF := Lib.hid (And.intro hrow hb5)
        clear hrow hb5 hk5 hg5 ho5
        go_wp2_with fail
        exact ⟨⟨i + 1, c8, A8, rfl, by go_num, by omega, Lib.hid HF.out.1, Lib.hid HF.out.2⟩, by simp [intOf]; omega⟩
      · obtain rfl : n2 = i := by omega
        have ho := HO.out
        rw [List.take_of_length_le (by rw [HML.out]; exact Nat.le_refl _)] at ho
        obtain ⟨g2, c2', hv, hgg, hc1, hc2⟩ := own_some ho (by omega)
        injection hv with hv1 hv2 hv3
        subst hv1 hv3
        have HB := Lib.hid (BlkV.of_own HMs.out HML.out ho)
        have Hs := Lib.hid (sortU_any g2 n2 c10 M0.toArray wr HB.out (by omega))
        have Hgg := Lib.hid hgg
        clear ho hgg
        go_wp2_with ((with_reducible refine Hs.out.mono ?_); rintro e w6 ⟨d6, rfl, hB6, hp6, hs6, hk6⟩)
        have he : d6.toList = sortL M0 := sorted_eq (d := M0.toArray) (by simpa using HML.out) hp6 hs6
        have hsl := hB6.sle
        rw [he] at hsl
        have Hf := Lib.hid (HR.out _ n2 c10 w6 hsl.1 hc1 hc2 hsl (Hb1.out.trans ((Kx.low HW.out hk6 (fun j hj => by rw [hj]; exact Hgg.out) hsz).mono (by rw [← Hg.out]; exact Hb1.out.size))))
        clear hsl he hB6 hp6 hs6 hk6
        first | exact Hf.out | (go_ret2; exact Hf.out)
end
end
section
section
open Go.RowKit
theorem ins_sorted {L : List Nat} {k f : Nat} (h : L.Pairwise (· ≤ ·)) (h1 : ∀ x ∈ L.take k, x ≤ f) (h2 : ∀ x ∈ L.drop k, f ≤ x) : (L.take k ++ f :: L.drop k).Pairwise (· ≤ ·) := by
  rw [List.pairwise_append, List.pairwise_cons]
  refine ⟨h.sublist (List.take_sublist _ _), ⟨h2, h.sublist (List.drop_sublist _ _)⟩, fun x hx y hy => ?_⟩
  rcases List.mem_cons.1 hy with rfl | hy
  · exact h1 x hx
  · exact Nat.le_trans (h1 x hx) (h2 y hy)
theorem ins_perm {L M : List Nat} {k f : Nat} (h : L.Perm M) : (L.take k ++ f :: L.drop k).Perm (M ++ [f]) := by
  refine List.perm_middle.trans ?_
  rw [List.take_append_drop]
  exact (List.Perm.cons f h).trans (List.perm_append_singleton f M).symm
theorem drop_ge {L : List Nat} {k f : Nat} (h : L.Pairwise (· ≤ ·)) (hk : k = L.length ∨ ∃ y, L[k]? = some y ∧ f ≤ y) : ∀ x ∈ L.drop k, f ≤ x := by
  rcases hk with rfl | ⟨y, hy, hf⟩
  · rw [List.drop_length]; intro x hx; simp at hx
  · obtain ⟨hi, he⟩ := List.getElem?_eq_some_iff.1 hy
    have hd : L.drop k = y :: L.drop (k + 1) := by rw [← he]; exact List.drop_eq_getElem_cons hi
    have hp := h.sublist (List.drop_sublist k L)
    rw [hd] at hp ⊢
    intro x hx
    rcases List.mem_cons.1 hx with rfl | hx
    · exact hf
    · exact Nat.le_trans hf ((List.pairwise_cons.1 hp).1 x hx)
theorem sortL_eq {L M : List Nat} (hs : L.Pairwise (· ≤ ·)) (hp : L.Perm M) : L = sortL M := by
  have e : (fun x y : Nat => !ltN y x) = fun x y => decide (x ≤ y) := by
    funext x y
    unfold ltN
    by_cases h : y < x
    · have : ¬ x ≤ y := by omega
      simp [h, this]
    · have : x ≤ y := by omega
      simp [h, this]
  unfold sortL
  rw [e]
  refine List.Perm.eq_of_pairwise (le := fun a b => decide (a ≤ b) = true) (fun a b _ _ h1 h2 => ?_) ?_ (List.pairwise_mergeSort ?_ ?_ M) (hp.trans (List.mergeSort_perm _ _).symm)
  · simp at h1 h2; omega
  · exact hs.imp fun h => by simpa using h
  · intro a b c h1 h2; simp at h1 h2 ⊢; omega
  · intro a b; simp; omega
theorem take_le {L : List Nat} {k f y : Nat} (h : ∀ x ∈ L.take k, x ≤ f) (hy : L[k]? = some y) (hf : y ≤ f) : ∀ x ∈ L.take (k + 1), x ≤ f := by
  rw [List.take_add_one, hy]
  intro x hx
  rcases List.mem_append.1 hx with hx | hx
  · exact h x hx
  · simp at hx; subst hx; exact hf
theorem u64_one (L : List Nat) : ∀ v ∈ L.flatMap u64E, v.oneCell' = true := by
  intro v hv
  rw [flat_u64] at hv
  obtain ⟨x, _, rfl⟩ := List.mem_map.1 hv
  rfl
/-- A part of a row of numbers. -/
theorem sl_part {w : World} {b o n : Nat} {L : List Nat} (h : SlE u64E 1 w (some ⟨b, o, none⟩) n L) (k m : Nat) (hk : k + m ≤ n) : Sl w 1 (some ⟨b, o + k, none⟩) m (((L.drop k).take m).flatMap u64E) := by
  obtain ⟨hn, h1, h2⟩ := h
  refine ⟨by rw [flat_u64]; simp; omega, fun hm => ?_⟩
  obtain ⟨b', o', e, hb, hc⟩ := h2 (by omega)
  injection e with e
  injection e with e1 e2
  subst e1 e2
  refine ⟨b, o + k, rfl, hb, fun j u hu => ?_⟩
  rw [Nat.add_assoc]
  refine hc (k + j) u ?_
  rw [flat_u64, List.getElem?_map] at hu ⊢
  have hj : j < m := by
    rcases Nat.lt_or_ge j m with hj | hj
    · exact hj
    · rw [List.getElem?_take, if_neg (by omega)] at hu; cases hu
  rw [List.getElem?_take, if_pos hj, List.getElem?_drop] at hu
  exact hu
end
section
open Go.RowKit
end
end
end Go.Proofs.YtojbldoekalbnaaGreatDoor
