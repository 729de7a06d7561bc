/-
  tone's Text, Parse and Cents as the house calls them; conditions: the library's tables lie below a block, and, for Cents, no exponent is beyond 24. tone.Parse; conditions: the library's tables and its two errors lie below a block, and the text is no longer than a line may be. (*House).tone and its line; conditions: the library's tables and errors lie below a block, and, where the word reads as a tone, no exponent is beyond 24. Houses that are nobody's, lives, and the statement on HouseNobody's walk; condition: the library's tables and errors lie below a block.
-/
import Derived.Test.YtndcijkgaadpgaaGreatDoorNOy
import Derived.Test.YtndcijkgaadpgaaGreatDoorUk
import Derived.Test.YtndcijkgaadpgaaGreatDoorUz
import Derived.Shelf.Strconv.AtoiAll
namespace Go.Proofs.YtndcijkgaadpgaaGreatDoor
section
section
open Go.RowKit Go.Shelf
/-- A tone's size in cents, rounded down. -/
def centsV (t : Tn) : Int := flr (ov (1200 * t.two) (1200 * t.three) (1200 * t.five)) (un (1200 * t.two) (1200 * t.three) (1200 * t.five)) / t.den
set_option maxHeartbeats 4000000 in
theorem cents_any (t : Tn) (w : World) (ht : t.Ok) (h2 : t.two.natAbs ≤ 24) (h3 : t.three.natAbs ≤ 24) (h5 : t.five.natAbs ≤ 24) : Calls Tryz.prog 137 #[t.val] w fun e w' => e = .returned (.tuple #[.int .i64 (centsV t), .int .i64 0]) ∧ Below w.heap.size w w' := by
  refine calls_cps ?_
  intro R hR
  have hl := ov_lnG (a := 1200 * t.two) (b := 1200 * t.three) (c := 1200 * t.five) (by omega) (by omega) (by omega)
  have hkd : centsV t = flr (ov (1200 * t.two) (1200 * t.three) (1200 * t.five)) (un (1200 * t.two) (1200 * t.three) (1200 * t.five)) / t.den := rfl
  have hfb := flr_bdG _ _ (Nat.le_trans hl.1 (show 5401 ≤ 5500 by omega)) (Nat.le_trans hl.2 (show 5401 ≤ 5500 by omega))
  obtain ⟨k, hk⟩ : ∃ k, centsV t = k := ⟨_, rfl⟩
  rw [hk] at hR hkd
  obtain ⟨a, b, c, d⟩ := t
  dsimp only at hl hkd hfb h2 h3 h5
  obtain ⟨O, hO⟩ : ∃ O, ov (1200 * a) (1200 * b) (1200 * c) = O := ⟨_, rfl⟩
  obtain ⟨U, hU⟩ : ∃ U, un (1200 * a) (1200 * b) (1200 * c) = U := ⟨_, rfl⟩
  rw [hO, hU] at hl hkd hfb
  obtain ⟨F, hF⟩ : ∃ F, flr O U = F := ⟨_, rfl⟩
  rw [hF] at hkd hfb
  have A4 := ht.lo
  have A5 := ht.hi
  dsimp only at A4 A5
  obtain ⟨A, hA⟩ : ∃ A, 1200 * a = A := ⟨_, rfl⟩
  obtain ⟨B, hB⟩ : ∃ B, 1200 * b = B := ⟨_, rfl⟩
  obtain ⟨C, hC⟩ : ∃ C, 1200 * c = C := ⟨_, rfl⟩
  rw [hA, hB, hC] at hO hU
  have Hratio := Lib.hid (fun W => ratioG_any A B C W (by omega) (by omega) (by omega))
  rw [hO, hU] at Hratio
  have Hratio := Lib.hid (show ∀ W, Calls Tryz.prog 198 #[.int .i64 (IntKind.i64.wrap A), .int .i64 (IntKind.i64.wrap B), .int .i64 (IntKind.i64.wrap C)] W fun e w' => ∃ V1 V2, e = .returned (.tuple #[V1, V2]) ∧ Num w' V1 O ∧ Num w' V2 U ∧ Below W.heap.size W w' from by
    rw [IntWalk.i64_in A (by omega), IntWalk.i64_in B (by omega), IntWalk.i64_in C (by omega)]
    exact Hratio.out)
  have Hfloor := Lib.hid (fun V1 V2 W h1 h2 => floorG_any V1 V2 O U W h1 h2 (Nat.le_trans hl.1 (by omega)) (Nat.le_trans hl.2 (by omega)))
  rw [hF] at Hfloor
  have Hpart := Lib.hid (fun W => parted_any F d W (by omega) (by omega) A4 (by omega))
  rw [← hkd] at Hpart
  have HR := Lib.hid hR
  have Hok := Lib.hid ht
  have a1 : -28800 ≤ A := by omega
  have a2 : A ≤ 28800 := by omega
  have b1 : -28800 ≤ B := by omega
  have b2 : B ≤ 28800 := by omega
  have c1 : -28800 ≤ C := by omega
  have c2 : C ≤ 28800 := by omega
  unfold Tn.val
  dsimp only
  clear hR hk hO hU hF hkd ht hl hfb h2 h3 h5
  go_enter Tryz.func137, Tryz.ntmps137
  go_upto_region 1 with fail
  obtain ⟨W0, hW0⟩ : ∃ W, w.alloc (.cells #[Value.int .i64 a, .int .i64 b, .int .i64 c, .int .i64 d] 185) = W := ⟨_, rfl⟩
  have hn : W0.heap[w.heap.size]? = some (.cells #[Value.int .i64 a, .int .i64 b, .int .i64 c, .int .i64 d] 185) ∧ w.heap.size < W0.heap.size ∧ Below w.heap.size w W0 := by
    rw [← hW0]
    exact ⟨heap_alloc_new _ _, by simp, below_new _ _⟩
  rw [hW0]
  obtain ⟨g, hg⟩ : ∃ g, w.heap.size = g := ⟨_, rfl⟩
  rw [hg] at hn ⊢
  have Hw := Lib.hid hn
  have Hg := Lib.hid hg
  clear hW0 hn hg
  have HcA := Lib.hid (fun W' (hb : Below W0.heap.size W0 W') => cells4 ((hb.block g Hw.out.2.1).trans Hw.out.1))
  obtain ⟨q0, q1, q2, q3, -⟩ := HcA.out W0 (Below.refl _ _)
  go_upto_region 3 with (go_at_call 195; (with_reducible refine (valid_ag _ Hok.out).mono ?_); rintro e w1 ⟨rfl, hb1⟩; have Hb1 := Lib.hid hb1; clear hb1)
  clear q0 q1 q2 q3
  obtain ⟨q0, q1, q2, q3, -⟩ := HcA.out w1 Hb1.out
  have hbz : Below w1.heap.size w1 w1.drew := (Below.refl _ w1).drew
  have Hbx := Lib.hid (show ∀ W', Below w1.heap.size w1 W' → Below w1.heap.size w1 W' ∧ W'.cell? ⟨g, 0, none⟩ = some (.int .i64 a) ∧ W'.cell? ⟨g, 1, none⟩ = some (.int .i64 b) ∧ W'.cell? ⟨g, 2, none⟩ = some (.int .i64 c) ∧ W'.cell? ⟨g, 3, none⟩ = some (.int .i64 d) from fun W' hb => by
    obtain ⟨r0, r1, r2, r3, _⟩ := HcA.out W' (Hb1.out.trans (hb.mono Hb1.out.size))
    exact ⟨hb, r0, r1, r2, r3⟩)
  go_region_held3 (fun w' => Below w1.heap.size w1 w' ∧ w'.cell? ⟨g, 0, none⟩ = some (.int .i64 a) ∧ w'.cell? ⟨g, 1, none⟩ = some (.int .i64 b) ∧ w'.cell? ⟨g, 2, none⟩ = some (.int .i64 c) ∧ w'.cell? ⟨g, 3, none⟩ = some (.int .i64 d))
    (first
      | (refine Hbx.out _ ?_; repeat (first | with_reducible exact hbz | with_reducible exact Below.refl _ _ | with_reducible refine Below.drew ?_ | with_reducible exact hka | with_reducible exact hkb | assumption | exact Nat.le_refl _))
      | go_keep)
    (first
    | (go_at_call 198; have hcur := (‹Below w1.heap.size w1 _ ∧ _›).1; (with_reducible refine (Hratio.out _).mono ?_); rintro e w2 ⟨V1, V2, rfl, hV1, hV2, hb2⟩; have hka := hcur.trans (hb2.mono hcur.size); clear hcur)
    | (go_at_call 197; (with_reducible refine (Hfloor.out V1 V2 _ hV1 hV2).mono ?_); rintro e w3 ⟨rfl, hb3⟩; have hkb := hka.trans (hb3.mono hka.size))
    | (go_at_call 196; (with_reducible refine (Hpart.out _).mono ?_); rintro e w4 ⟨rfl, hw4⟩; subst hw4))
  have Hb3 := Lib.hid (Hb1.out.trans (hkb.mono Hb1.out.size))
  go_wp2_with fail
  exact HR.out.out _ _ ⟨rfl, by rw [Hg.out]; exact Hw.out.2.2.trans (Hb3.out.mono (Nat.le_of_lt Hw.out.2.1))⟩
end
section
open Go.RowKit Go.Shelf
/-- A tone's text. -/
def toneT (t : Tn) : List UInt8 := Lib.join [Lib.itoa t.two, Lib.itoa t.three, Lib.itoa t.five] [46] ++ [47] ++ Lib.itoa t.den
set_option maxRecDepth 8000 in
set_option maxHeartbeats 8000000 in
theorem ttext_any (t : Tn) (w : World) (ht : t.BdI) (b : Nat) (hg : Gl b w) (hb : b ≤ w.heap.size) : Calls Tryz.prog 194 #[t.val] w fun e w' => e = .returned (.tuple #[.string ⟨(if t.okB then toneT t else []).toArray⟩, .int .i64 (if t.okB then 0 else 2)]) ∧ Below w.heap.size w w' := by
  refine calls_cps ?_
  intro R hR
  obtain ⟨p, hp⟩ : ∃ p, t.okB = p := ⟨_, rfl⟩
  rw [hp] at hR
  unfold toneT at hR
  obtain ⟨x, y, z, d⟩ := t
  obtain ⟨x0, x1, y0, y1, z0, z1, d0, d1⟩ := ht
  dsimp only at x0 x1 y0 y1 z0 z1 d0 d1 hR
  have HV := Lib.hid (show ∀ W, Calls Tryz.prog 195 #[.agg #[.int .i64 x, .int .i64 y, .int .i64 z, .int .i64 d]] W fun e w' => e = .returned (.bool p) ∧ Below W.heap.size W w' from fun W => (valid_toneI ⟨x, y, z, d⟩ W ⟨x0, x1, y0, y1, z0, z1, d0, d1⟩).mono fun _ _ h => ⟨by rw [h.1, hp], h.2⟩)
  have HIx := Lib.hid (fun W h => itoa_any x W x0 x1 b h)
  have HIy := Lib.hid (fun W h => itoa_any y W y0 y1 b h)
  have HIz := Lib.hid (fun W h => itoa_any z W z0 z1 b h)
  have HId := Lib.hid (fun W h => itoa_any d W d0 d1 b h)
  have lx := Lib.itoa_length_le x x0 x1
  have ly := Lib.itoa_length_le y y0 y1
  have lz := Lib.itoa_length_le z z0 z1
  have ld := Lib.itoa_length_le d d0 d1
  obtain ⟨X, hX⟩ : ∃ X, Lib.itoa x = X := ⟨_, rfl⟩
  obtain ⟨Y, hY⟩ : ∃ X, Lib.itoa y = X := ⟨_, rfl⟩
  obtain ⟨Z, hZ⟩ : ∃ X, Lib.itoa z = X := ⟨_, rfl⟩
  obtain ⟨D, hD⟩ : ∃ X, Lib.itoa d = X := ⟨_, rfl⟩
  rw [hX, hY, hZ, hD] at hR
  rw [hX] at HIx lx
  rw [hY] at HIy ly
  rw [hZ] at HIz lz
  rw [hD] at HId ld
  obtain ⟨J, hJ⟩ : ∃ J, Lib.join [X, Y, Z] [46] = J := ⟨_, rfl⟩
  rw [hJ] at hR
  have lj : J.length ≤ 70 := by
    rw [← hJ]
    simp [Lib.join]
    omega
  have HJ := Lib.hid (show ∀ (B : Nat) (W : World), SlE strE 1 W (some ⟨B, 0, none⟩) 3 [⟨X.toArray⟩, ⟨Y.toArray⟩, ⟨Z.toArray⟩] → Calls Tryz.prog 267 #[.slice (some ⟨B, 0, none⟩) 3 3, .string ⟨#[46]⟩] W fun e w' => e = .returned (.string ⟨J.toArray⟩) ∧ Below W.heap.size W w' from fun B W h => by
    have h2 := join_any (some ⟨B, 0, none⟩) 3 3 [⟨X.toArray⟩, ⟨Y.toArray⟩, ⟨Z.toArray⟩] ⟨#[46]⟩ W h (by omega) (by omega) (by
      show (Lib.join [X, Y, Z] [46]).length ≤ _
      rw [hJ]
      omega)
    refine h2.mono fun _ _ h3 => ⟨h3.1.trans ?_, h3.2⟩
    show _ = Ending.returned (.string ⟨J.toArray⟩)
    rw [← hJ]
    rfl)
  have j1 : ¬ 9223372036854775807 < J.length + 1 := by omega
  have j2 : ¬ 9223372036854775807 < J.length + 1 + D.length := by omega
  have HG := Lib.hid hg
  have HR := Lib.hid hR
  unfold Tn.val
  dsimp only
  clear hR hp hX hY hZ hD hJ hg lx ly lz ld lj x0 x1 y0 y1 z0 z1 d0 d1
  cases p with
  | false =>
    go_enter Tryz.func194, Tryz.ntmps194
    go_upto_region 1 with fail
    obtain ⟨W0, hW0⟩ : ∃ W, w.alloc (.cells #[Value.int .i64 x, .int .i64 y, .int .i64 z, .int .i64 d] 185) = W := ⟨_, rfl⟩
    have hn : W0.heap[w.heap.size]? = some (.cells #[Value.int .i64 x, .int .i64 y, .int .i64 z, .int .i64 d] 185) ∧ w.heap.size < W0.heap.size ∧ Below w.heap.size w W0 := by
      rw [← hW0]
      exact ⟨heap_alloc_new _ _, by simp, below_new _ _⟩
    rw [hW0]
    obtain ⟨g, hg⟩ : ∃ g, w.heap.size = g := ⟨_, rfl⟩
    rw [hg] at hn hb ⊢
    have Hw := Lib.hid hn
    have Hg := Lib.hid hg
    have HbG := Lib.hid hb
    clear hW0 hn hg hb
    have HcA := Lib.hid (fun W' (hb : Below W0.heap.size W0 W') => cells4 ((hb.block g Hw.out.2.1).trans Hw.out.1))
    obtain ⟨q0, q1, q2, q3, -⟩ := HcA.out W0 (Below.refl _ _)
    go_upto_region 2 with (go_at_call 195; (with_reducible refine (HV.out _).mono ?_); rintro e w1 ⟨rfl, hb1⟩; have Hb1 := Lib.hid hb1; clear hb1)
    clear q0 q1 q2 q3
    obtain ⟨q0, q1, q2, q3, -⟩ := HcA.out w1 Hb1.out
    have Hfin := Lib.hid (fun (v : Value) W' (hv : v = .tuple #[.string ⟨#[]⟩, .int .i64 2]) (hb : Below w1.heap.size w1 W') => HR.out.out (.returned v) W' ⟨by rw [hv]; rfl, by rw [Hg.out]; exact Hw.out.2.2.trans ((Hb1.out.trans (hb.mono Hb1.out.size)).mono (Nat.le_of_lt Hw.out.2.1))⟩)
    have Hf := Lib.hid (Hfin.out _ _ rfl (Below.refl _ _))
    go_wp2_with fail
    exact Hf.out
  | true =>
    go_enter Tryz.func194, Tryz.ntmps194
    go_upto_region 1 with fail
    obtain ⟨W0, hW0⟩ : ∃ W, w.alloc (.cells #[Value.int .i64 x, .int .i64 y, .int .i64 z, .int .i64 d] 185) = W := ⟨_, rfl⟩
    have hn : W0.heap[w.heap.size]? = some (.cells #[Value.int .i64 x, .int .i64 y, .int .i64 z, .int .i64 d] 185) ∧ w.heap.size < W0.heap.size ∧ Below w.heap.size w W0 := by
      rw [← hW0]
      exact ⟨heap_alloc_new _ _, by simp, below_new _ _⟩
    rw [hW0]
    obtain ⟨g, hg⟩ : ∃ g, w.heap.size = g := ⟨_, rfl⟩
    rw [hg] at hn hb ⊢
    have Hw := Lib.hid hn
    have Hg := Lib.hid hg
    have HbG := Lib.hid hb
    clear hW0 hn hg hb
    have HcA := Lib.hid (fun W' (hb : Below W0.heap.size W0 W') => cells4 ((hb.block g Hw.out.2.1).trans Hw.out.1))
    obtain ⟨q0, q1, q2, q3, -⟩ := HcA.out W0 (Below.refl _ _)
    go_upto_region 3 with (go_at_call 195; (with_reducible refine (HV.out _).mono ?_); rintro e w1 ⟨rfl, hb1⟩; have Hb1 := Lib.hid hb1; clear hb1)
    clear q0 q1 q2 q3
    obtain ⟨q0, q1, q2, q3, -⟩ := HcA.out w1 Hb1.out
    have Hfin := Lib.hid (fun (v : Value) W' (hv : v = .tuple #[.string ⟨(J ++ [47] ++ D).toArray⟩, .int .i64 0]) (hb : Below w1.heap.size w1 W') => HR.out.out (.returned v) W' ⟨by rw [hv]; simp, by rw [Hg.out]; exact Hw.out.2.2.trans ((Hb1.out.trans (hb.mono Hb1.out.size)).mono (Nat.le_of_lt Hw.out.2.1))⟩)
    have HgW := Lib.hid (show ∀ W', Below w1.heap.size w1 W' → Gl b W' from fun W' hb => HG.out.on (Hw.out.2.2.mono HbG.out |>.trans ((Hb1.out.trans (hb.mono Hb1.out.size)).mono (Nat.le_trans HbG.out (Nat.le_of_lt Hw.out.2.1)))))
    have hbz : Below w1.heap.size w1 w1.drew := (Below.refl _ w1).drew
    have Hbx := Lib.hid (show ∀ W', Below w1.heap.size w1 W' → Below w1.heap.size w1 W' ∧ W'.cell? ⟨g, 0, none⟩ = some (.int .i64 x) ∧ W'.cell? ⟨g, 1, none⟩ = some (.int .i64 y) ∧ W'.cell? ⟨g, 2, none⟩ = some (.int .i64 z) ∧ W'.cell? ⟨g, 3, none⟩ = some (.int .i64 d) from fun W' hb => by
      obtain ⟨r0, r1, r2, r3, _⟩ := HcA.out W' (Hb1.out.trans (hb.mono Hb1.out.size))
      exact ⟨hb, r0, r1, r2, r3⟩)
    go_cut [4] (fun s4 wx => ∃ B, s4 = .slice (some ⟨B, 0, none⟩) 3 3 ∧ Hid (SlE strE 1 wx (some ⟨B, 0, none⟩) 3 [⟨X.toArray⟩, ⟨Y.toArray⟩, ⟨Z.toArray⟩]) ∧ Hid (Below w1.heap.size w1 wx))
    case first =>
      go_region_held3 (fun w' => Below w1.heap.size w1 w' ∧ w'.cell? ⟨g, 0, none⟩ = some (.int .i64 x) ∧ w'.cell? ⟨g, 1, none⟩ = some (.int .i64 y) ∧ w'.cell? ⟨g, 2, none⟩ = some (.int .i64 z) ∧ w'.cell? ⟨g, 3, none⟩ = some (.int .i64 d))
        (first
          | (refine Hbx.out _ ?_; repeat (first | with_reducible exact hbz | with_reducible exact Below.refl _ _ | with_reducible refine Below.drew ?_ | with_reducible exact hka | with_reducible refine below_al1 ?_ _ | assumption | exact Nat.le_refl _))
          | go_keep)
        (first
        | (go_at_call 45; have hcur := (‹Below w1.heap.size w1 _ ∧ _›).1; first
          | ((with_reducible refine (HIx.out _ (HgW.out _ hcur)).mono ?_); rintro e w2 ⟨rfl, hb2⟩; have hka := hcur.trans (hb2.mono hcur.size); clear hcur hb2)
          | ((with_reducible refine (HIy.out _ (HgW.out _ hcur)).mono ?_); rintro e w2 ⟨rfl, hb2⟩; have hka := hcur.trans (hb2.mono hcur.size); clear hcur hb2)
          | ((with_reducible refine (HIz.out _ (HgW.out _ hcur)).mono ?_); rintro e w2 ⟨rfl, hb2⟩; have hka := hcur.trans (hb2.mono hcur.size); clear hcur hb2)))
      all_goals (go_wp2_with fail; go_meet; exact ⟨_, rfl, Lib.hid (str_new _ [⟨X.toArray⟩, ⟨Y.toArray⟩, ⟨Z.toArray⟩]), Lib.hid (below_al1 hka _)⟩)
    case rest =>
      obtain ⟨B, rfl, HS, HB⟩ := hcut
      clear q0 q1 q2 q3 hbz Hbx
      obtain ⟨q0, q1, q2, q3, -⟩ := HcA.out wc (Hb1.out.trans (HB.out.mono Hb1.out.size))
      have hbz : Below wc.heap.size wc wc.drew := (Below.refl _ wc).drew
      have Hbx := Lib.hid (show ∀ W', Below wc.heap.size wc W' → Below wc.heap.size wc W' ∧ W'.cell? ⟨g, 3, none⟩ = some (.int .i64 d) from fun W' hb => by
        obtain ⟨r0, r1, r2, r3, _⟩ := HcA.out W' (Hb1.out.trans ((HB.out.trans (hb.mono HB.out.size)).mono Hb1.out.size))
        exact ⟨hb, r3⟩)
      have He := Lib.hid (show ((⟨J.toArray⟩ ++ ⟨#[47]⟩ ++ ⟨D.toArray⟩ : ByteArray)) = ⟨(J ++ [47] ++ D).toArray⟩ from ba_of (by rw [ba_app, ba_app]))
      have Hf := Lib.hid (show ∀ W', Below wc.heap.size wc W' → _ from fun W' hb => Hfin.out (.tuple #[.string (⟨J.toArray⟩ ++ ⟨#[47]⟩ ++ ⟨D.toArray⟩), .int .i64 0]) W' (by rw [He.out]) (HB.out.trans (hb.mono HB.out.size)))
      go_upto_region 4 with fail
      go_region_held3 (fun w' => Below wc.heap.size wc w' ∧ w'.cell? ⟨g, 3, none⟩ = some (.int .i64 d))
        (first
          | (refine Hbx.out _ ?_; repeat (first | with_reducible exact hbz | with_reducible exact Below.refl _ _ | with_reducible refine Below.drew ?_ | with_reducible exact hka | assumption | exact Nat.le_refl _))
          | go_keep)
        (first
        | (go_at_call 45; have hcur := (‹Below wc.heap.size wc _ ∧ _›).1; (with_reducible refine (HId.out _ (HgW.out _ (HB.out.trans (hcur.mono HB.out.size)))).mono ?_); rintro e w2 ⟨rfl, hb2⟩; have hka := hcur.trans (hb2.mono hcur.size); clear hcur hb2)
        | (go_at_call 267; have hcur := (‹Below wc.heap.size wc _ ∧ _›).1; (with_reducible refine (HJ.out B _ (HS.out.below hcur)).mono ?_); rintro e w2 ⟨rfl, hb2⟩; have hka := hcur.trans (hb2.mono hcur.size); clear hcur hb2))
      all_goals (go_wp2_with fail; exact Hf.out _ hka)
end
end
section
section
open Go.RowKit Go.Shelf
/-- The library's two errors of numbers, whatever is done from block b on. -/
structure Ge (b : Nat) (w : World) : Prop where
  syn : ∃ t p, w.cell? ⟨6, 0, none⟩ = some (.iface t p)
  rng : ∃ t p, w.cell? ⟨7, 0, none⟩ = some (.iface t p)
  l1 : 6 < b
  l2 : 7 < b
theorem Ge.on {b : Nat} {w w' : World} (h : Ge b w) (hb : Below b w w') : Ge b w' :=
  ⟨let ⟨t, p, e⟩ := h.syn; ⟨t, p, (hb.cell h.l1).trans e⟩, let ⟨t, p, e⟩ := h.rng; ⟨t, p, (hb.cell h.l2).trans e⟩, h.l1, h.l2⟩
/-- The number that strconv.Atoi hands back, with or without an error. -/
def atoiV (l : List UInt8) : Int := match Lib.atoiAll l with
  | .ok v => v
  | .range => Lib.atoiSat l
  | _ => 0
theorem atoiV_bd (l : List UInt8) : i64B (atoiV l) := by
  unfold atoiV i64B
  split
  · next v h =>
    obtain ⟨h0, h1⟩ := Lib.atoiAll_bounds h
    omega
  · obtain ⟨h0, h1⟩ := Lib.atoiSat_bounds l
    omega
  · omega
theorem atoiV_any (s : ByteArray) (w : World) (hs : s.size ≤ 1000000) (b : Nat) (he : Ge b w) :
    Calls Tryz.prog 179 #[.string s] w fun e w' => ∃ ev, e = .returned (.tuple #[.int .i64 (atoiV s.data.toList), ev]) ∧ Below w.heap.size w w' := by
  unfold atoiV
  cases h : Lib.atoiAll s.data.toList with
  | ok v =>
    refine (Any.strconv_Atoi_ok atoiSLays s (by omega) v h w).mono ?_
    rintro e w' ⟨rfl, rfl | ⟨t, rfl⟩⟩
    · exact ⟨_, rfl, Below.refl _ _⟩
    · exact ⟨_, rfl, Lib.bytesWorld_below _ _ _⟩
  | range =>
    obtain ⟨t, p, hp⟩ := he.rng
    refine (Any.strconv_Atoi_range atoiSLays s (by omega) h _ w hp (.inr ⟨t, p, rfl⟩)).mono ?_
    rintro e w' ⟨N, rfl, -, -, hb⟩
    exact ⟨_, rfl, hb⟩
  | _ =>
    obtain ⟨t, p, hp⟩ := he.syn
    refine (Any.strconv_Atoi_syntax atoiSLays s (by omega) h _ w hp (.inr ⟨t, p, rfl⟩)).mono ?_
    rintro e w' ⟨N, rfl, -, -, hb⟩
    exact ⟨_, rfl, hb⟩
theorem split_own (s p : ByteArray) (w : World) (b : Nat) (ht : Gl b w) (hs : s.size < 4294967281) (hp : 1 ≤ p.size) :
    Calls Tryz.prog 48 #[.string s, .string p] w fun e w' => ∃ n, e = .returned (.slice (some ⟨w.heap.size, 0, none⟩) n n) ∧ w'.ownsRow w.heap.size 9 1 (.slice (some ⟨w.heap.size, 0, none⟩) n n) n ((strL (Lib.split s.data.toList p.data.toList)).flatMap strE) ∧ n = (Lib.split s.data.toList p.data.toList).length ∧ n ≤ s.size + 1 ∧ Below w.heap.size w w' ∧ w.heap.size < w'.heap.size := by
  obtain ⟨m, hm⟩ := ht.mx
  refine (Any.strings_Split splitSLays infoStr s p m w hs hm hp).mono ?_
  rintro e w' ⟨rfl, rfl⟩
  have e : Lib.splitB p 0 (Lib.countB s p) s = strL (Lib.split s.data.toList p.data.toList) := by
    refine strs_data ?_
    rw [Lib.splitB_data]
    rfl
  have hl := Lib.splitB_all p hp 0 _ s rfl
  have hle := Lib.countB_le p hp s.size s (Nat.le_refl _)
  rw [e] at hl ⊢
  have hl2 : (strL (Lib.split s.data.toList p.data.toList)).length = (Lib.split s.data.toList p.data.toList).length := by unfold strL; rw [List.length_map]
  have ef : ∀ L : List ByteArray, L.flatMap strE = L.map Value.string := by
    intro L
    induction L with
    | nil => rfl
    | cons a r ih => rw [List.flatMap_cons, List.map_cons, ih]; rfl
  refine ⟨_, rfl, ?_, by omega, by omega, below_new w _, by simp⟩
  rw [ef]
  exact own_new w _ _ 1 _ _ (by simp; omega) (Nat.le_refl _) (by unfold maxLen; omega)
/-- What Parse reads. -/
def parseL (s : List UInt8) : List (List UInt8) := Lib.split (Lib.cut s [47]).1 [46] ++ [(Lib.cut s [47]).2.1]
def parseN (l : List (List UInt8)) : Tn := ⟨atoiV (l.getD 0 []), atoiV (l.getD 1 []), atoiV (l.getD 2 []), atoiV (l.getD 3 [])⟩
def parseF (s : List UInt8) : Option Tn := if ((parseL s).length = 4 ∧ s.length ≤ 32) ∧ (parseN (parseL s)).okB = true ∧ toneT (parseN (parseL s)) = s then some (parseN (parseL s)) else none
theorem parseF_ok {s : List UInt8} {t : Tn} (h : parseF s = some t) : t.Ok := by
  unfold parseF at h
  split at h
  · next hc =>
    cases h
    exact (okB_iff _).1 hc.2.1
  · cases h
def parseRet : Option Tn → Value
  | some t => .tuple #[t.val, .int .i64 0]
  | none => .tuple #[.agg #[.int .i64 0, .int .i64 0, .int .i64 0, .int .i64 0], .int .i64 2]
theorem cut_le (s p : List UInt8) : (Lib.cut s p).1.length ≤ s.length ∧ (Lib.cut s p).2.1.length ≤ s.length := by
  unfold Lib.cut
  split
  · exact ⟨by rw [List.length_take]; omega, by rw [List.length_drop]; omega⟩
  · exact ⟨Nat.le_refl _, Nat.zero_le _⟩
theorem splitK_le (sep : List UInt8) : ∀ (k : Nat) (l x : List UInt8), x ∈ Lib.splitK sep 0 k l → x.length ≤ l.length
  | 0, l, x, h => by
    rw [show Lib.splitK sep 0 0 l = [l] from rfl, List.mem_singleton] at h
    rw [h]
    exact Nat.le_refl _
  | k + 1, l, x, h => by
    unfold Lib.splitK at h
    split at h
    · rw [List.mem_singleton] at h
      rw [h]
      exact Nat.le_refl _
    · rcases List.mem_cons.1 h with rfl | h
      · rw [List.length_take]
        omega
      · have := splitK_le sep k _ x h
        rw [List.length_drop] at this
        omega
theorem parseL_le (s x : List UInt8) (h : x ∈ parseL s) : x.length ≤ s.length := by
  have hc := cut_le s [47]
  unfold parseL at h
  rcases List.mem_append.1 h with h | h
  · exact Nat.le_trans (splitK_le _ _ _ _ h) hc.1
  · rw [List.mem_singleton] at h
    rw [h]
    exact hc.2
/-- The four numbers while they are read. -/
def fourP (W : World) (h k : Nat) (N0 N1 N2 N3 v0 v1 v2 v3 : Int) : Prop :=
  W.heap[h]? = some (.cells #[.int .i64 v0, .int .i64 v1, .int .i64 v2, .int .i64 v3] 279 (0, 0)) ∧ (0 < k → v0 = N0) ∧ (1 < k → v1 = N1) ∧ (2 < k → v2 = N2) ∧ (3 < k → v3 = N3)
set_option maxRecDepth 8000 in
set_option maxHeartbeats 8000000 in
theorem tparse_any (s : ByteArray) (w : World) (hs : s.size ≤ 1000000) (b : Nat) (hg : Gl b w) (he : Ge b w) (hb : b ≤ w.heap.size) :
    Calls Tryz.prog 136 #[.string s] w fun e w' => e = .returned (parseRet (parseF s.data.toList)) ∧ Below w.heap.size w w' := by
  refine calls_cps ?_
  intro R hR
  have HRn := Lib.hid (show ∀ W, parseF s.data.toList = none → Below w.heap.size w W → R (.returned (.tuple #[.agg #[.int .i64 0, .int .i64 0, .int .i64 0, .int .i64 0], .int .i64 2])) W from fun W h hb => hR.out _ _ ⟨by rw [h]; rfl, hb⟩)
  have HRs := Lib.hid (show ∀ W t, parseF s.data.toList = some t → Below w.heap.size w W → R (.returned (.tuple #[t.val, .int .i64 0])) W from fun W t h hb => hR.out _ _ ⟨by rw [h]; rfl, hb⟩)
  have hcl := cut_le s.data.toList [47]
  obtain ⟨A, hA⟩ : ∃ A : ByteArray, (⟨(Lib.cut s.data.toList [47]).1.toArray⟩ : ByteArray) = A := ⟨_, rfl⟩
  obtain ⟨D, hD⟩ : ∃ D : ByteArray, (⟨(Lib.cut s.data.toList [47]).2.1.toArray⟩ : ByteArray) = D := ⟨_, rfl⟩
  obtain ⟨c3, hc3⟩ : ∃ c, (Lib.cut s.data.toList [47]).2.2 = c := ⟨_, rfl⟩
  have HCut := Lib.hid (show ∀ W, Gl b W → Calls Tryz.prog 21 #[.string s, .string ⟨#[47]⟩] W fun e w' => e = .returned (.tuple #[.string A, .string D, .bool c3]) ∧ Below W.heap.size W w' from fun W h => by
    rw [← hA, ← hD, ← hc3]
    exact cut_any s ⟨#[47]⟩ W b h (by omega))
  have hAs : A.size ≤ 1000000 := by
    rw [ba_size, ← hA]
    rw [ba_size] at hs
    exact Nat.le_trans hcl.1 hs
  have hpl : parseL s.data.toList = Lib.split A.data.toList [46] ++ [D.data.toList] := by rw [← hA, ← hD]; rfl
  have hple : ∀ x ∈ parseL s.data.toList, x.length ≤ 1000000 := fun x hx => Nat.le_trans (parseL_le _ x hx) (by rw [← ba_size]; exact hs)
  have hpf : parseF s.data.toList = if ((parseL s.data.toList).length = 4 ∧ s.data.toList.length ≤ 32) ∧ (parseN (parseL s.data.toList)).okB = true ∧ toneT (parseN (parseL s.data.toList)) = s.data.toList then some (parseN (parseL s.data.toList)) else none := rfl
  have HSp := Lib.hid (fun W h => split_own A ⟨#[46]⟩ W b h (by omega) (by decide))
  obtain ⟨P, hP⟩ : ∃ P, parseL s.data.toList = P := ⟨_, rfl⟩
  rw [hP] at hpl hple hpf
  rw [← ba_size] at hpf
  have Hpl := Lib.hid hpl
  have Hple := Lib.hid hple
  have Hpf := Lib.hid hpf
  have HG := Lib.hid hg
  have HE := Lib.hid he
  clear hR hA hD hc3 hcl hpl hple hpf hP hg he
  go_enter Tryz.func136, Tryz.ntmps136
  go_upto_region 1 with fail
  obtain ⟨W0, hW0⟩ : ∃ W, w.alloc (.cells #[Value.int .i64 0, .int .i64 0, .int .i64 0, .int .i64 0] 185) = W := ⟨_, rfl⟩
  have hn : W0.heap[w.heap.size]? = some (.cells #[Value.int .i64 0, .int .i64 0, .int .i64 0, .int .i64 0] 185) ∧ w.heap.size < W0.heap.size ∧ Below w.heap.size w W0 := by
    rw [← hW0]
    exact ⟨heap_alloc_new _ _, by simp, below_new _ _⟩
  rw [hW0]
  obtain ⟨g, hg⟩ : ∃ g, w.heap.size = g := ⟨_, rfl⟩
  rw [hg] at hn hb ⊢
  have Hw := Lib.hid hn
  have Hg := Lib.hid hg
  have HbG := Lib.hid hb
  clear hW0 hn hg hb
  have HgW := Lib.hid (show ∀ W', Below W0.heap.size W0 W' → Gl b W' ∧ Ge b W' ∧ W'.heap[g]? = some (.cells #[Value.int .i64 0, .int .i64 0, .int .i64 0, .int .i64 0] 185) ∧ Below w.heap.size w W' from fun W' hb => by
    have h1 := Hw.out.2.2.trans (hb.mono (Nat.le_of_lt Hw.out.2.1))
    exact ⟨HG.out.on (h1.mono HbG.out), HE.out.on (h1.mono HbG.out), (hb.block g Hw.out.2.1).trans Hw.out.1, by rw [Hg.out]; exact h1⟩)
  go_upto_region 2 with (go_at_call 21; (with_reducible refine (HCut.out _ (HgW.out _ (Below.refl _ _)).1).mono ?_); rintro e w1 ⟨rfl, hb1⟩; have Hb1 := Lib.hid hb1; clear hb1)
  go_upto_region 3 with (first
    | (go_at_call 48; (with_reducible refine (HSp.out _ (HgW.out _ Hb1.out).1).mono ?_); rintro e w2 ⟨n, rfl, ho, hn, hn2, hb2, hlt⟩; have HO := Lib.hid ho; have Hn := Lib.hid hn; have Hb2 := Lib.hid (Hb1.out.trans (hb2.mono Hb1.out.size)); have Hlt := Lib.hid hlt; clear ho hn hb2 hlt)
    | (at_builtin; refine wpList_app rfl (.tmp 20) (.tmp 22) _ rfl elemStr0 w1.heap.size _ _ _ rfl (HO.out.alloc _) _ _ _ _ rfl (Sl.newAt _ _ _ 1 1 rfl rfl) (by simp [Value.oneCell']) (by unfold maxLen; omega) (by omega) (by have := Hlt.out; simp; omega) ?_; intro A5 c5 w5 ho5 hg5 hp5; have HG5 := Lib.hid hg5; have HO5 := Lib.hid ho5; clear ho5 hg5 hp5))
  have Hb5 := Lib.hid (show Below W0.heap.size W0 w5 from below_own (Hb2.out.alloc Hb2.out.size _) (HO.out.alloc _) Hb1.out.size (by have := Hb2.out.size; simp; omega) HG5.out)
  have Hn5 := Lib.hid (show n + 1 = P.length by rw [Hpl.out, List.length_append, List.length_singleton, Hn.out])
  have HS := Lib.hid (show SlE strE 1 w5 A5 (n + 1) (strL P) from SlE.of_own (by
    have h := HO5.out
    rw [Hpl.out]
    unfold strL at h ⊢
    rw [List.map_append, List.flatMap_append]
    exact h) (by unfold strL; rw [List.length_map]; exact Hn5.out))
  have HsP := Lib.hid (show ∀ (k : Nat) (x : ByteArray), (strL P)[k]? = some x → x.size ≤ 1000000 ∧ P[k]? = some x.data.toList from fun k x h => by
    unfold strL at h
    rw [List.getElem?_map] at h
    obtain ⟨y, hy, rfl⟩ := Option.map_eq_some_iff.1 h
    exact ⟨by rw [ba_size]; exact Hple.out y (List.mem_of_getElem? hy), hy⟩)
  clear HO HO5 HG5 Hb2 Hlt Hple Hpl HSp HCut
  have Hlo := Lib.hid (HgW.out w5 Hb5.out).2.2.2
  have Hzz := Lib.hid (HgW.out w5 Hb5.out).2.2.1
  by_cases hn3 : n = 3
  · by_cases h32 : s.size ≤ 32
    · subst hn3
      have i2 : ¬ (32 : Int) < (s.size : Int) := by omega
      have Hp4 := Lib.hid (show P.length = 4 ∧ s.size ≤ 32 from ⟨Hn5.out.symm, h32⟩)
      clear h32
      obtain ⟨N0, hN0⟩ : ∃ N, atoiV (P.getD 0 []) = N := ⟨_, rfl⟩
      obtain ⟨N1, hN1⟩ : ∃ N, atoiV (P.getD 1 []) = N := ⟨_, rfl⟩
      obtain ⟨N2, hN2⟩ : ∃ N, atoiV (P.getD 2 []) = N := ⟨_, rfl⟩
      obtain ⟨N3, hN3⟩ : ∃ N, atoiV (P.getD 3 []) = N := ⟨_, rfl⟩
      have HN := Lib.hid (And.intro hN0 (And.intro hN1 (And.intro hN2 hN3)))
      have Hpn := Lib.hid (show parseN P = ⟨N0, N1, N2, N3⟩ from by unfold parseN; rw [hN0, hN1, hN2, hN3])
      have HBd := Lib.hid (show Tn.BdI ⟨N0, N1, N2, N3⟩ from ⟨by rw [← hN0]; exact (atoiV_bd _).1, by rw [← hN0]; exact (atoiV_bd _).2, by rw [← hN1]; exact (atoiV_bd _).1, by rw [← hN1]; exact (atoiV_bd _).2, by rw [← hN2]; exact (atoiV_bd _).1, by rw [← hN2]; exact (atoiV_bd _).2, by rw [← hN3]; exact (atoiV_bd _).1, by rw [← hN3]; exact (atoiV_bd _).2⟩)
      clear hN0 hN1 hN2 hN3
      have HS := Lib.hid (show SlE strE 1 w5 A5 4 (strL P) from HS.out)
      clear Hlo Hzz
      go_upto_region 6 with fail
      obtain ⟨W6, hW6⟩ : ∃ W, w5.alloc (.cells #[Value.int .i64 0, .int .i64 0, .int .i64 0, .int .i64 0] 279) = W := ⟨_, rfl⟩
      obtain ⟨h, hh⟩ : ∃ h, w5.heap.size = h := ⟨_, rfl⟩
      have h6 : W6.heap[h]? = some (.cells #[Value.int .i64 0, .int .i64 0, .int .i64 0, .int .i64 0] 279) := by rw [← hW6, ← hh]; exact heap_alloc_new _ _
      have hb6 : Below h w5 W6 := by rw [← hW6, ← hh]; exact below_new _ _
      rw [hW6, hh]
      have H6 := Lib.hid (And.intro h6 hb6)
      have Hh := Lib.hid hh
      have HhL := Lib.hid (show h ≤ w5.heap.size from Nat.le_of_eq hh.symm)
      have HgL := Lib.hid (show ∀ W', Below h w5 W' → Gl b W' ∧ Ge b W' ∧ W'.heap[g]? = some (.cells #[Value.int .i64 0, .int .i64 0, .int .i64 0, .int .i64 0] 185) ∧ Below w.heap.size w W' from fun W' hb => HgW.out W' (Hb5.out.trans (hb.mono (by rw [← hh]; exact Hb5.out.size))))
      clear hW6 h6 hb6 hh
      go_wp2_with fail
      go_loopw [9, 33] (fun s9 s33 wr => ∃ (k : Nat) (v0 v1 v2 v3 : Int), k ≤ 4 ∧ s33 = .int .i64 (k : Int) ∧ (∃ x, s9 = x) ∧ Hid (fourP wr h k N0 N1 N2 N3 v0 v1 v2 v3) ∧ Hid (Below h w5 wr)) (fun _ s33 _ => 4 - (intOf s33).toNat)
      case atStart => exact ⟨0, 0, 0, 0, 0, by omega, rfl, ⟨_, rfl⟩, Lib.hid ⟨H6.out.1, fun h => absurd h (by omega), fun h => absurd h (by omega), fun h => absurd h (by omega), fun h => absurd h (by omega)⟩, Lib.hid H6.out.2⟩
      case round =>
        obtain ⟨k, v0, v1, v2, v3, hk, rfl, ⟨x9, rfl⟩, HP, HB⟩ := hrel
        by_cases hlt : k < 4
        · have HhL := Lib.hid (show h ≤ wr.heap.size from Nat.le_trans HhL.out HB.out.size)
          obtain rfl | rfl | rfl | rfl : k = 0 ∨ k = 1 ∨ k = 2 ∨ k = 3 := by omega
          · obtain ⟨b0, o0, x, rfl, hb0, hx, q0⟩ := strs_at (HS.out.below (Hh.out ▸ HB.out)) (k := 0) (by omega)
            rw [Nat.add_zero] at q0
            have HX := Lib.hid (HsP.out _ _ hx)
            have Hv := Lib.hid (show atoiV x.data.toList = N0 from by rw [← HN.out.1, List.getD_eq_getElem?_getD, HX.out.2]; rfl)
            have HAt := Lib.hid (atoiV_any x wr HX.out.1 b (HgL.out wr HB.out).2.1)
            have Hhl := Lib.hid (Array.getElem?_eq_some_iff.1 HP.out.1).1
            clear hx
            go_wp2_with (go_at_call 179; (with_reducible refine HAt.out.mono ?_); rintro e w7 ⟨ev, rfl, hb7⟩; have HB7 := Lib.hid (HB.out.trans (hb7.mono HhL.out)); have H7 := Lib.hid ((hb7.block h Hhl.out).trans HP.out.1); obtain ⟨r0, r1, r2, r3, r4⟩ := cells4 H7.out; clear hb7)
            refine ⟨⟨1, (atoiV x.data.toList), v1, v2, v3, by omega, by go_num, ⟨_, rfl⟩, Lib.hid ⟨?_, fun _ => Hv.out, fun h => absurd h (by omega), fun h => absurd h (by omega), fun h => absurd h (by omega)⟩, Lib.hid (HB7.out.setCell (Nat.le_refl _) _)⟩, by simp [intOf]⟩
            simp only [World.setCell, Array.getElem?_modify, H7.out]
            simp
          · obtain ⟨b0, o0, x, rfl, hb0, hx, q0⟩ := strs_at (HS.out.below (Hh.out ▸ HB.out)) (k := 1) (by omega)
            have HX := Lib.hid (HsP.out _ _ hx)
            have Hv := Lib.hid (show atoiV x.data.toList = N1 from by rw [← HN.out.2.1, List.getD_eq_getElem?_getD, HX.out.2]; rfl)
            have HAt := Lib.hid (atoiV_any x wr HX.out.1 b (HgL.out wr HB.out).2.1)
            have Hhl := Lib.hid (Array.getElem?_eq_some_iff.1 HP.out.1).1
            clear hx
            go_wp2_with (go_at_call 179; (with_reducible refine HAt.out.mono ?_); rintro e w7 ⟨ev, rfl, hb7⟩; have HB7 := Lib.hid (HB.out.trans (hb7.mono HhL.out)); have H7 := Lib.hid ((hb7.block h Hhl.out).trans HP.out.1); obtain ⟨r0, r1, r2, r3, r4⟩ := cells4 H7.out; clear hb7)
            refine ⟨⟨2, v0, (atoiV x.data.toList), v2, v3, by omega, by go_num, ⟨_, rfl⟩, Lib.hid ⟨?_, fun h => HP.out.2.1 (by omega), fun _ => Hv.out, fun h => absurd h (by omega), fun h => absurd h (by omega)⟩, Lib.hid (HB7.out.setCell (Nat.le_refl _) _)⟩, by simp [intOf]⟩
            simp only [World.setCell, Array.getElem?_modify, H7.out]
            simp
          · obtain ⟨b0, o0, x, rfl, hb0, hx, q0⟩ := strs_at (HS.out.below (Hh.out ▸ HB.out)) (k := 2) (by omega)
            have HX := Lib.hid (HsP.out _ _ hx)
            have Hv := Lib.hid (show atoiV x.data.toList = N2 from by rw [← HN.out.2.2.1, List.getD_eq_getElem?_getD, HX.out.2]; rfl)
            have HAt := Lib.hid (atoiV_any x wr HX.out.1 b (HgL.out wr HB.out).2.1)
            have Hhl := Lib.hid (Array.getElem?_eq_some_iff.1 HP.out.1).1
            clear hx
            go_wp2_with (go_at_call 179; (with_reducible refine HAt.out.mono ?_); rintro e w7 ⟨ev, rfl, hb7⟩; have HB7 := Lib.hid (HB.out.trans (hb7.mono HhL.out)); have H7 := Lib.hid ((hb7.block h Hhl.out).trans HP.out.1); obtain ⟨r0, r1, r2, r3, r4⟩ := cells4 H7.out; clear hb7)
            refine ⟨⟨3, v0, v1, (atoiV x.data.toList), v3, by omega, by go_num, ⟨_, rfl⟩, Lib.hid ⟨?_, fun h => HP.out.2.1 (by omega), fun h => HP.out.2.2.1 (by omega), fun _ => Hv.out, fun h => absurd h (by omega)⟩, Lib.hid (HB7.out.setCell (Nat.le_refl _) _)⟩, by simp [intOf]⟩
            simp only [World.setCell, Array.getElem?_modify, H7.out]
            simp
          · obtain ⟨b0, o0, x, rfl, hb0, hx, q0⟩ := strs_at (HS.out.below (Hh.out ▸ HB.out)) (k := 3) (by omega)
            have HX := Lib.hid (HsP.out _ _ hx)
            have Hv := Lib.hid (show atoiV x.data.toList = N3 from by rw [← HN.out.2.2.2, List.getD_eq_getElem?_getD, HX.out.2]; rfl)
            have HAt := Lib.hid (atoiV_any x wr HX.out.1 b (HgL.out wr HB.out).2.1)
            have Hhl := Lib.hid (Array.getElem?_eq_some_iff.1 HP.out.1).1
            clear hx
            go_wp2_with (go_at_call 179; (with_reducible refine HAt.out.mono ?_); rintro e w7 ⟨ev, rfl, hb7⟩; have HB7 := Lib.hid (HB.out.trans (hb7.mono HhL.out)); have H7 := Lib.hid ((hb7.block h Hhl.out).trans HP.out.1); obtain ⟨r0, r1, r2, r3, r4⟩ := cells4 H7.out; clear hb7)
            refine ⟨⟨4, v0, v1, v2, (atoiV x.data.toList), by omega, by go_num, ⟨_, rfl⟩, Lib.hid ⟨?_, fun h => HP.out.2.1 (by omega), fun h => HP.out.2.2.1 (by omega), fun h => HP.out.2.2.2.1 (by omega), fun _ => Hv.out⟩, Lib.hid (HB7.out.setCell (Nat.le_refl _) _)⟩, by simp [intOf]⟩
            simp only [World.setCell, Array.getElem?_modify, H7.out]
            simp
        · obtain rfl : k = 4 := by omega
          have hP := HP.out.1
          rw [HP.out.2.1 (by omega), HP.out.2.2.1 (by omega), HP.out.2.2.2.1 (by omega), HP.out.2.2.2.2 (by omega)] at hP
          obtain ⟨r0, r1, r2, r3, r4⟩ := cells4 hP
          clear hP HP HsP HS H6
          go_upto_region 12 with fail
          obtain ⟨W8, hW8⟩ : ∃ W, wr.alloc (.cells #[Value.int .i64 N0, .int .i64 N1, .int .i64 N2, .int .i64 N3] 185) = W := ⟨_, rfl⟩
          have h8 : W8.heap[wr.heap.size]? = some (.cells #[Value.int .i64 N0, .int .i64 N1, .int .i64 N2, .int .i64 N3] 185) ∧ wr.heap.size < W8.heap.size ∧ Below h w5 W8 := by
            rw [← hW8]
            exact ⟨heap_alloc_new _ _, by simp, HB.out.alloc (Nat.le_trans HhL.out HB.out.size) _⟩
          obtain ⟨a8, ha8⟩ : ∃ a, wr.heap.size = a := ⟨_, rfl⟩
          rw [hW8, ha8]
          rw [ha8] at h8
          have hbw : b ≤ W8.heap.size := Nat.le_trans (by have := HbG.out; have := Hg.out; omega) (HgL.out W8 h8.2.2).2.2.2.size
          have HT := Lib.hid (ttext_any ⟨N0, N1, N2, N3⟩ W8 HBd.out b (HgL.out W8 h8.2.2).1 hbw)
          have H8 := Lib.hid h8
          clear r0 r1 r2 r3 r4 hW8 ha8 h8 hbw
          obtain ⟨r0, r1, r2, r3, r4⟩ := cells4 H8.out.1
          obtain ⟨TT, hTT⟩ : ∃ l, toneT ⟨N0, N1, N2, N3⟩ = l := ⟨_, rfl⟩
          have HTT := Lib.hid hTT
          have HZ := Lib.hid (show ∀ w9, Below W8.heap.size W8 w9 → w9.heap[g]? = some (.cells #[Value.int .i64 0, .int .i64 0, .int .i64 0, .int .i64 0] 185) ∧ Below w.heap.size w w9 ∧ w9.heap[a8]? = some (.cells #[Value.int .i64 N0, .int .i64 N1, .int .i64 N2, .int .i64 N3] 185) from fun w9 hb => by
            have h1 := HgL.out w9 (H8.out.2.2.trans (hb.mono (Nat.le_trans HhL.out H8.out.2.2.size)))
            exact ⟨h1.2.2.1, h1.2.2.2, (hb.block a8 H8.out.2.1).trans H8.out.1⟩)
          obtain ⟨p, hp⟩ : ∃ p, Tn.okB ⟨N0, N1, N2, N3⟩ = p := ⟨_, rfl⟩
          have Hp := Lib.hid hp
          have ht := HT.out
          rw [hp, hTT] at ht
          unfold Tn.val at ht
          dsimp only at ht
          clear HT hp hTT
          cases p with
          | false =>
            have Hno := Lib.hid (show parseF s.data.toList = none from by rw [Hpf.out, if_neg (by rintro ⟨-, h, -⟩; rw [Hpn.out, Hp.out] at h; exact absurd h (by decide))])
            have HT := Lib.hid (show Calls Tryz.prog 194 #[.agg #[.int .i64 N0, .int .i64 N1, .int .i64 N2, .int .i64 N3]] W8 fun e w' => e = .returned (.tuple #[.string ⟨#[]⟩, .int .i64 2]) ∧ Below W8.heap.size W8 w' from ht)
            clear ht
            go_upto_region 14 with (go_at_call 194; (with_reducible refine HT.out.mono ?_); rintro e w9 ⟨rfl, hb9⟩; have Hb9 := Lib.hid hb9; clear hb9)
            have Hlo := Lib.hid (HZ.out w9 Hb9.out).2.1
            have Hzz := Lib.hid (HZ.out w9 Hb9.out).1
            clear r0 r1 r2 r3 r4
            have hs4 := set4_heap Hzz.out (.int .i64 0) (.int .i64 0) (.int .i64 0) (.int .i64 0)
            have hb9 := Lib.hid (set4_below Hlo.out (Nat.le_of_eq Hg.out) (.int .i64 0) (.int .i64 0) (.int .i64 0) (.int .i64 0))
            obtain ⟨z0, z1, z2, z3, z4⟩ := cells4 Hzz.out
            unfold set4 at hs4 hb9
            go_wp2_with fail
            obtain ⟨y0, y1, y2, y3, -⟩ := cells4 hs4
            refine bodyPost_ret (v := .tuple #[.agg #[.int .i64 0, .int .i64 0, .int .i64 0, .int .i64 0], .int .i64 2]) ?_ rfl (HRn.out _ Hno.out hb9.out)
            simp [results, Tryz.results136, go_sem, y0, y1, y2, y3]
          | true =>
            have HT := Lib.hid (show Calls Tryz.prog 194 #[.agg #[.int .i64 N0, .int .i64 N1, .int .i64 N2, .int .i64 N3]] W8 fun e w' => e = .returned (.tuple #[.string ⟨TT.toArray⟩, .int .i64 0]) ∧ Below W8.heap.size W8 w' from ht)
            clear ht
            by_cases hts : TT = s.data.toList
            · have Hyes := Lib.hid (show parseF s.data.toList = some ⟨N0, N1, N2, N3⟩ from by rw [Hpf.out, Hpn.out, if_pos ⟨Hp4.out, Hp.out, by rw [HTT.out, hts]⟩])
              obtain ⟨T, hT⟩ : ∃ T : ByteArray, (⟨TT.toArray⟩ : ByteArray) = T := ⟨_, rfl⟩
              rw [hT] at HT
              have hTs : T = s := by rw [← hT, hts]
              subst hTs
              clear hts hT
              go_upto_region 15 with (go_at_call 194; (with_reducible refine HT.out.mono ?_); rintro e w9 ⟨rfl, hb9⟩; have Hb9 := Lib.hid hb9; clear hb9)
              have Hlo := Lib.hid (HZ.out w9 Hb9.out).2.1
              have Hzz := Lib.hid (HZ.out w9 Hb9.out).1
              clear r0 r1 r2 r3 r4
              obtain ⟨r0, r1, r2, r3, r4⟩ := cells4 (HZ.out w9 Hb9.out).2.2
              have hs4 := set4_heap Hzz.out (.int .i64 N0) (.int .i64 N1) (.int .i64 N2) (.int .i64 N3)
              have hb9 := Lib.hid (set4_below Hlo.out (Nat.le_of_eq Hg.out) (.int .i64 N0) (.int .i64 N1) (.int .i64 N2) (.int .i64 N3))
              obtain ⟨z0, z1, z2, z3, z4⟩ := cells4 Hzz.out
              unfold set4 at hs4 hb9
              go_wp2_with fail
              obtain ⟨y0, y1, y2, y3, -⟩ := cells4 hs4
              refine bodyPost_ret (v := .tuple #[.agg #[.int .i64 N0, .int .i64 N1, .int .i64 N2, .int .i64 N3], .int .i64 0]) ?_ rfl (HRs.out _ ⟨N0, N1, N2, N3⟩ Hyes.out hb9.out)
              simp [results, Tryz.results136, go_sem, y0, y1, y2, y3]
            · have Hno := Lib.hid (show parseF s.data.toList = none from by rw [Hpf.out, if_neg (by rintro ⟨-, -, h⟩; rw [Hpn.out, HTT.out] at h; exact hts h)])
              obtain ⟨T, hT⟩ : ∃ T : ByteArray, (⟨TT.toArray⟩ : ByteArray) = T := ⟨_, rfl⟩
              rw [hT] at HT
              have hTs : T ≠ s := fun e => hts (by rw [← e, ← hT])
              have i5 : (T.toList == s.toList) = false := by
                rw [Lib.toList_data, Lib.toList_data, beq_eq_false_iff_ne]
                intro e
                exact hTs (ByteArray.ext (Array.toList_inj.1 e))
              clear hts hT
              go_upto_region 14 with (go_at_call 194; (with_reducible refine HT.out.mono ?_); rintro e w9 ⟨rfl, hb9⟩; have Hb9 := Lib.hid hb9; clear hb9)
              have Hlo := Lib.hid (HZ.out w9 Hb9.out).2.1
              have Hzz := Lib.hid (HZ.out w9 Hb9.out).1
              clear r0 r1 r2 r3 r4
              have hs4 := set4_heap Hzz.out (.int .i64 0) (.int .i64 0) (.int .i64 0) (.int .i64 0)
              have hb9 := Lib.hid (set4_below Hlo.out (Nat.le_of_eq Hg.out) (.int .i64 0) (.int .i64 0) (.int .i64 0) (.int .i64 0))
              obtain ⟨z0, z1, z2, z3, z4⟩ := cells4 Hzz.out
              unfold set4 at hs4 hb9
              go_wp2_with fail
              obtain ⟨y0, y1, y2, y3, -⟩ := cells4 hs4
              refine bodyPost_ret (v := .tuple #[.agg #[.int .i64 0, .int .i64 0, .int .i64 0, .int .i64 0], .int .i64 2]) ?_ rfl (HRn.out _ Hno.out hb9.out)
              simp [results, Tryz.results136, go_sem, y0, y1, y2, y3]
    · subst hn3
      have i2 : (32 : Int) < (s.size : Int) := by omega
      have Hno := Lib.hid (show parseF s.data.toList = none from by rw [Hpf.out, if_neg (by rintro ⟨⟨-, h⟩, -⟩; exact h32 h)])
      clear HS HsP
      have hs4 := set4_heap Hzz.out (.int .i64 0) (.int .i64 0) (.int .i64 0) (.int .i64 0)
      have hb9 := Lib.hid (set4_below Hlo.out (Nat.le_of_eq Hg.out) (.int .i64 0) (.int .i64 0) (.int .i64 0) (.int .i64 0))
      obtain ⟨z0, z1, z2, z3, z4⟩ := cells4 Hzz.out
      unfold set4 at hs4 hb9
      go_wp2_with fail
      obtain ⟨y0, y1, y2, y3, -⟩ := cells4 hs4
      refine bodyPost_ret (v := .tuple #[.agg #[.int .i64 0, .int .i64 0, .int .i64 0, .int .i64 0], .int .i64 2]) ?_ rfl (HRn.out _ Hno.out hb9.out)
      simp [results, Tryz.results136, go_sem, y0, y1, y2, y3]
  · have i1 : ((n : Int) + 1 == 4) = false := by rw [beq_eq_false_iff_ne]; omega
    have Hno := Lib.hid (show parseF s.data.toList = none from by rw [Hpf.out, if_neg (by rintro ⟨⟨h, -⟩, -⟩; rw [← Hn5.out] at h; omega)])
    clear HS HsP
    have hs4 := set4_heap Hzz.out (.int .i64 0) (.int .i64 0) (.int .i64 0) (.int .i64 0)
    have hb9 := Lib.hid (set4_below Hlo.out (Nat.le_of_eq Hg.out) (.int .i64 0) (.int .i64 0) (.int .i64 0) (.int .i64 0))
    obtain ⟨z0, z1, z2, z3, z4⟩ := cells4 Hzz.out
    unfold set4 at hs4 hb9
    go_wp2_with fail
    obtain ⟨y0, y1, y2, y3, -⟩ := cells4 hs4
    refine bodyPost_ret (v := .tuple #[.agg #[.int .i64 0, .int .i64 0, .int .i64 0, .int .i64 0], .int .i64 2]) ?_ rfl (HRn.out _ Hno.out hb9.out)
    simp [results, Tryz.results136, go_sem, y0, y1, y2, y3]
end
end
section
section
open Go.RowKit Go.Shelf
def toneW : List UInt8 := [116, 111, 110, 101]
def centsW (x : List UInt8) : List UInt8 := [116, 111, 110, 101, 32] ++ x ++ [32, 99, 101, 110, 116, 115]
/-- The reply to tone. -/
def toneR (x : List UInt8) : List UInt8 := match parseF x with
  | some t => linesL [rowL (centsW x) [centsV t]]
  | none => bangL 2
def Tn.Lt (t : Tn) : Prop := t.two.natAbs ≤ 24 ∧ t.three.natAbs ≤ 24 ∧ t.five.natAbs ≤ 24
theorem centsV_bd {t : Tn} (ht : t.Ok) (hl : t.Lt) : i64B (centsV t) := by
  obtain ⟨h2, h3, h5⟩ := hl
  have hl := ov_lnG (a := 1200 * t.two) (b := 1200 * t.three) (c := 1200 * t.five) (by omega) (by omega) (by omega)
  have hf := flr_bdG _ _ (Nat.le_trans hl.1 (show 5401 ≤ 5500 by omega)) (Nat.le_trans hl.2 (show 5401 ≤ 5500 by omega))
  have h4 := ht.lo
  have hd := Int.natAbs_ediv_le_natAbs (flr (ov (1200 * t.two) (1200 * t.three) (1200 * t.five)) (un (1200 * t.two) (1200 * t.three) (1200 * t.five))) t.den
  unfold centsV i64B
  omega
set_option maxRecDepth 8000 in
set_option maxHeartbeats 8000000 in
theorem htone_any (w : World) (h : Nat) (B : Nat) (A1 : Option Addr) (n1 c1 : Nat) (A2 : Option Addr) (n2 c2 : Nat) (x : List UInt8) (hA : ArgsW B w A1 n1 c1 A2 n2 c2 [x] []) (hx : x.length ≤ 4096) (hlt : ∀ t, parseF x = some t → t.Lt) (bg : Nat) (hg : Gl bg w) (he : Ge bg w) (hb : bg ≤ w.heap.size) :
    Calls Tryz.prog 76 #[.pointer (some ⟨h, 0, none⟩), .agg #[.slice A1 n1 c1, .slice A2 n2 c2]] w fun e w' => ∃ r, e = .returned r ∧ AnsT (toneR x) r w' ∧ Below w.heap.size w w' := by
  refine calls_cps ?_
  intro R hR
  have hA0 := hA.l1
  simp only [List.length_cons, List.length_nil, Nat.zero_add] at hA0
  subst hA0
  obtain ⟨w1, hw1⟩ : ∃ w1, w.alloc (.cells #[.slice A1 1 c1, .slice A2 n2 c2] 76) = w1 := ⟨_, rfl⟩
  have hbx := heap_alloc_new w (.cells #[.slice A1 1 c1, .slice A2 n2 c2] 76)
  have hbl := below_new w (.cells #[.slice A1 1 c1, .slice A2 n2 c2] 76)
  rw [hw1] at hbx hbl
  have HW1 := Lib.hid hw1
  have hs1 : w1.heap.size = w.heap.size + 1 := by rw [← hw1]; simp
  have hA1 := hA.below hbl
  obtain ⟨b1, o1, rfl, hb1, -⟩ := hA1.s1.2.2 (by omega)
  obtain ⟨X, hX⟩ : ∃ X : ByteArray, (⟨x.toArray⟩ : ByteArray) = X := ⟨_, rfl⟩
  have hXd : X.data.toList = x := by rw [← hX]
  have hXs : X.size ≤ 4096 := by rw [ba_size, hXd]; exact hx
  have Hat := Lib.hid (show ∀ W, Below w1.heap.size w1 W → W.cell? ⟨w.heap.size, 0, none⟩ = some (.slice (some ⟨b1, o1, none⟩) 1 c1) ∧ W.cell? ⟨b1, o1, none⟩ = some (.string X) from fun W hW => by
    have h1 := cells2 ((hW.block w.heap.size (by omega)).trans hbx)
    have h2 := (hA1.below hW).s1
    have h3 := str_getD h2 (k := 0) (by omega)
    rw [Nat.add_zero] at h3
    exact ⟨h1.1, by rw [h3, ← hX]; rfl⟩)
  have HP := Lib.hid (tparse_any X w1 (by omega) bg (hg.on (hbl.mono hb)) (he.on (hbl.mono hb)) (by omega))
  rw [hXd] at HP
  have Hr := Lib.hid hR.out
  have HBL := Lib.hid hbl
  have HG := Lib.hid hg
  have Hlt := Lib.hid hlt
  have HXd := Lib.hid hXd
  have z1 : ¬ 9223372036854775807 < 5 + X.size := by omega
  have z2 : ¬ 9223372036854775807 < 5 + X.size + 6 := by omega
  obtain ⟨x0, p0⟩ := Hat.out w1 (Below.refl _ _)
  unfold toneR at Hr
  clear hR hA hA1 hbx hbl hg he hw1 hX hlt hXd hx
  cases hpf : parseF x with
  | none =>
    rw [hpf] at HP Hr
    have HP := Lib.hid (show Calls Tryz.prog 136 #[.string X] w1 fun e w' => e = .returned (.tuple #[.agg #[.int .i64 0, .int .i64 0, .int .i64 0, .int .i64 0], .int .i64 2]) ∧ Below w1.heap.size w1 w' from HP.out)
    have Hf := Lib.hid (show ∀ w', Below w.heap.size w w' → R (.returned (.iface 61 (.int .i64 2))) w' from fun w' hb => Hr.out _ w' ⟨_, rfl, ans_bang 2 w' ⟨by decide, by decide⟩, hb⟩)
    clear hpf Hr
    go_enter Tryz.func76, Tryz.ntmps76
    go_upto_region 1 with fail
    rw [HW1.out]
    go_wp2_with (go_at_call 136; (with_reducible refine HP.out.mono ?_); rintro e w2 ⟨rfl, hb2⟩; have HF2 := Lib.hid (fun o => Hf.out (w2.alloc o) ((HBL.out.trans (hb2.mono HBL.out.size)).alloc (Nat.le_trans HBL.out.size hb2.size) o)); clear hb2)
    exact HF2.out _
  | some t =>
    have hok := parseF_ok hpf
    have hl := Hlt.out t hpf
    have hcb := centsV_bd hok hl
    rw [hpf] at HP Hr
    obtain ⟨ta, tb, tc, td⟩ := t
    have HP := Lib.hid (show Calls Tryz.prog 136 #[.string X] w1 fun e w' => e = .returned (.tuple #[.agg #[.int .i64 ta, .int .i64 tb, .int .i64 tc, .int .i64 td], .int .i64 0]) ∧ Below w1.heap.size w1 w' from HP.out)
    have HC := Lib.hid (show ∀ W, Calls Tryz.prog 137 #[.agg #[.int .i64 ta, .int .i64 tb, .int .i64 tc, .int .i64 td]] W fun e w' => e = .returned (.tuple #[.int .i64 (centsV ⟨ta, tb, tc, td⟩), .int .i64 0]) ∧ Below W.heap.size W w' from fun W => cents_any ⟨ta, tb, tc, td⟩ W hok hl.1 hl.2.1 hl.2.2)
    obtain ⟨v, hv⟩ : ∃ v, centsV ⟨ta, tb, tc, td⟩ = v := ⟨_, rfl⟩
    rw [hv] at HC hcb
    dsimp only at Hr
    rw [hv] at Hr
    have Hvb := Lib.hid hcb
    clear hpf hok hl hcb hv
    go_enter Tryz.func76, Tryz.ntmps76
    go_upto_region 1 with fail
    rw [HW1.out]
    go_upto_region 4 with (go_at_call 136; (with_reducible refine HP.out.mono ?_); rintro e w2 ⟨rfl, hb2⟩; have HB2 := Lib.hid hb2; clear hb2)
    obtain ⟨w3, hw3⟩ : ∃ w3, w2.alloc (.cells #[Value.int .i64 ta, .int .i64 tb, .int .i64 tc, .int .i64 td] 185) = w3 := ⟨_, rfl⟩
    have h3 := heap_alloc_new w2 (.cells #[Value.int .i64 ta, .int .i64 tb, .int .i64 tc, .int .i64 td] 185)
    have hb3 : Below w1.heap.size w1 w3 := by rw [← hw3]; exact HB2.out.alloc HB2.out.size _
    rw [hw3] at h3 ⊢
    obtain ⟨r0, r1, r2, r3, r4⟩ := cells4 h3
    have HB3 := Lib.hid hb3
    clear x0 p0 hw3 h3 hb3
    go_upto_region 5 with (go_at_call 137; (with_reducible refine (HC.out _).mono ?_); rintro e w4 ⟨rfl, hb4⟩; have HB4 := Lib.hid (HB3.out.trans (hb4.mono HB3.out.size)); clear hb4)
    clear r0 r1 r2 r3 r4
    obtain ⟨x0, p0⟩ := Hat.out w4 HB4.out
    obtain ⟨WD, hWD⟩ : ∃ WD : ByteArray, (⟨#[116, 111, 110, 101, 32]⟩ ++ X ++ ⟨#[32, 99, 101, 110, 116, 115]⟩ : ByteArray) = WD := ⟨_, rfl⟩
    have hWd : WD.data.toList = centsW x := by rw [← hWD, ba_app, ba_app, HXd.out]; rfl
    have hWs : WD.size ≤ 1000000 := by
      rw [ba_size, hWd, ← HXd.out]
      unfold centsW
      rw [List.length_append, List.length_append, ← ba_size]
      show 5 + X.size + 6 ≤ _
      omega
    have HB5 := Lib.hid (HBL.out.trans ((HB4.out.alloc HB4.out.size (.cells #[.int .i64 v] 3)).mono HBL.out.size))
    have HRow := Lib.hid (row_any WD (some ⟨w4.heap.size, 0, none⟩) 1 1 [v] (w4.alloc (.cells #[.int .i64 v] 3)) ⟨rfl, by have h := Sl.newAt w4 #[.int .i64 v] 3 1 1 rfl rfl; exact h⟩ (by omega) hWs (fun x hx => by rw [List.mem_singleton] at hx; subst hx; exact Hvb.out) bg (HG.out.on (HB5.out.mono hb)) (Nat.le_trans hb HB5.out.size))
    rw [hWd] at HRow
    have Hw2 := Lib.hid (show (centsW x).length ≤ 1000000 by rw [← hWd, ← ba_size]; exact hWs)
    clear hWd hWs
    go_wp2_with (first
      | (go_at_call 56; (with_reducible refine HRow.out.mono ?_); rintro e w6 ⟨rfl, hb6⟩; have HB6 := Lib.hid (HB5.out.trans (hb6.mono HB5.out.size)); clear hb6)
      | (go_at_call 138; (with_reducible refine (either_any 0 _ 1 1 _).mono ?_); rintro e w7 ⟨rfl, rfl⟩))
    have hx6 := str_new w6 [⟨(rowL (centsW x) [v]).toArray⟩]
    have hb7 := HB6.out.trans ((below_new w6 (.cells #[.string ⟨(rowL (centsW x) [v]).toArray⟩] 9)).mono HB6.out.size)
    exact Hr.out _ _ ⟨_, rfl, ans_one Hvb.out Hw2.out hx6, hb7⟩
theorem read_w {ws : List (List UInt8)} (h : (readP [119] ws).2.2 = true) : ∃ x, ws = [x] ∧ readP [119] ws = ([x], [], true) := by
  have hf : Lib.fields [119] = [[119]] := by decide
  unfold readP at h ⊢
  rw [hf] at h ⊢
  obtain ⟨s, h1, h2⟩ := finP_yes h
  rw [h1]
  obtain ⟨w, q, e1, -, h1⟩ := readK_w (by decide) (by decide) (by decide) (by decide) h1
  cases h1
  dsimp only at e1 h2
  subst e1 h2
  exact ⟨w, rfl, rfl⟩
theorem line_tone (w : World) (F : Nat → Prop) (h : Nat) (b : Bk) (m : Nat) (hh : HSt w F h b m) (hm90 : m ≤ 90) (s : ByteArray) (hs : s.size < 4294967281) (ws : List (List UInt8)) (hw : [] ∉ spl (fstL s.data.toList)) (hlen : (fstL s.data.toList).length ≤ 4096) (bg : Nat) (hg : Gl bg w) (he : Ge bg w) (hb : bg ≤ w.heap.size) (hF : ∀ j, F j → bg ≤ j) (Q : List UInt8 → Bk → Prop) (hsp : spl (fstL s.data.toList) = toneW :: ws)
    (hno : (readP [119] ws).2.2 = false → Q (bangL 2) b)
    (hlt : ∀ x, ws = [x] → ∀ t, parseF x = some t → t.Lt)
    (hyes : ∀ x, ws = [x] → Q (toneR x) b) :
    Calls Tryz.prog 7 #[.pointer (some ⟨h, 0, none⟩), .string s] w fun e w' => ∃ t, e = .returned (.string ⟨t.toArray⟩) ∧ LQ w F h (m + 1) Q t w' := by
  obtain ⟨q0, hl⟩ := hh.made
  refine cline_any w h q0 hl s hs 116 [111, 110, 101] [119] 76 ws hsp hw hlen (by decide) (by decide) 0 rfl (by decide) (by decide) (by decide) (by decide) (by decide) (enters_of Tryz.func76 (by kernel_rfl) rfl) bg hg hb (LQ w F h (m + 1) Q) (fun hz => lq_no hh (Nat.le_succ _) (hno hz)) ?_
  intro hz W A1 c1 n1 A2 c2 n2 hW hA
  obtain ⟨a, dk, sh, h1, h2, h3⟩ := hh
  obtain ⟨x, rfl, hr⟩ := read_w hz
  rw [hr] at hA
  have hx := (spl_sub (l := fstL s.data.toList) (w := x) (by rw [hsp]; simp)).1
  refine (htone_any W h w.heap.size A1 n1 c1 A2 n2 c2 x hA (by omega) (hlt x rfl) bg (hg.on (hW.mono hb)) (he.on (hW.mono hb)) (Nat.le_trans hb hW.size)).mono ?_
  rintro e w' ⟨r, rfl, q1, q2⟩
  have _ := hm90
  exact ⟨r, rfl, lq_ans hg hb hF hW (kx_of_below q2) q1 ((h1.below hW).below q2) h2 (h3.mono (Nat.le_succ _)) (hyes x rfl)⟩
end
end
section
section
open Go.RowKit Go.Shelf
/-- No house, or one that New did not return. -/
def Nb (w : World) (p : Value) : Prop := p = .pointer none ∨ ∃ z, p = .pointer (some ⟨z, 0, none⟩) ∧ w.cell? ⟨z, 0, none⟩ = some (.bool false)
theorem nline_any (w : World) (p s : Value) (hp : Nb w p) (bg : Nat) (hg : Gl bg w) : Calls Tryz.prog 7 #[p, s] w fun e w' => e = .returned (.string ⟨(bangL 8).toArray⟩) ∧ Below w.heap.size w w' := by
  refine calls_cps ?_
  intro R hR
  have HT := Lib.hid (rtext_any 8 w ⟨by decide, by decide⟩ bg hg)
  rcases hp with rfl | ⟨z, rfl, q0⟩
  · go_enter Tryz.func7, Tryz.ntmps7
    go_wp2_with (go_at_call 20; (with_reducible refine HT.out.mono ?_); rintro e w2 ⟨rfl, hb2⟩; have HB2 := Lib.hid hb2; clear hb2)
    exact hR.out _ _ ⟨rfl, HB2.out⟩
  · go_enter Tryz.func7, Tryz.ntmps7
    go_wp2_with (go_at_call 20; (with_reducible refine HT.out.mono ?_); rintro e w2 ⟨rfl, hb2⟩; have HB2 := Lib.hid hb2; clear hb2)
    exact hR.out _ _ ⟨rfl, HB2.out⟩
theorem nlots_any (w : World) (p : Value) (hp : Nb w p) : Calls Tryz.prog 15 #[p] w fun e w' => e = .returned (.slice none 0 0) ∧ w = w' := by
  refine calls_cps ?_
  intro R hR
  rcases hp with rfl | ⟨z, rfl, q0⟩
  · go_enter Tryz.func15, Tryz.ntmps15
    go_wp2_with fail
    exact hR.out _ _ ⟨rfl, rfl⟩
  · go_enter Tryz.func15, Tryz.ntmps15
    go_wp2_with fail
    exact hR.out _ _ ⟨rfl, rfl⟩
theorem nbook_any (w : World) (p : Value) (hp : Nb w p) : Calls Tryz.prog 10 #[p] w fun e w' => e = .returned (.string ⟨#[]⟩) ∧ w = w' := by
  refine calls_cps ?_
  intro R hR
  rcases hp with rfl | ⟨z, rfl, q0⟩
  · go_enter Tryz.func10, Tryz.ntmps10
    go_wp2_with fail
    exact hR.out _ _ ⟨rfl, rfl⟩
  · go_enter Tryz.func10, Tryz.ntmps10
    go_wp2_with fail
    exact hR.out _ _ ⟨rfl, rfl⟩
theorem nclone_any (w : World) (p : Value) (hp : Nb w p) : Calls Tryz.prog 16 #[p] w fun e w' => e = .returned (.pointer none) ∧ w = w' := by
  refine calls_cps ?_
  intro R hR
  rcases hp with rfl | ⟨z, rfl, q0⟩
  · go_enter Tryz.func16, Tryz.ntmps16
    go_wp2_with fail
    exact hR.out _ _ ⟨rfl, rfl⟩
  · go_enter Tryz.func16, Tryz.ntmps16
    go_wp2_with fail
    exact hR.out _ _ ⟨rfl, rfl⟩
def tL : List UInt8 := [116, 111, 110, 101, 32, 45, 49, 46, 49, 46, 48, 47, 49]
def tX : List UInt8 := [45, 49, 46, 49, 46, 48, 47, 49]
def tR : List UInt8 := [116, 111, 110, 101, 32, 45, 49, 46, 49, 46, 48, 47, 49, 32, 99, 101, 110, 116, 115, 32, 55, 48, 49, 10]
theorem t_spl : spl (fstL tL) = toneW :: [tX] := by decide
deriving instance DecidableEq for Tn
theorem t_parse : parseF tX = some ⟨-1, 1, 0, 1⟩ := by decide +kernel
theorem t_cents : centsV ⟨-1, 1, 0, 1⟩ = 701 := by decide +kernel
theorem t_text : toneR tX = tR := by
  unfold toneR
  rw [t_parse]
  dsimp only
  rw [t_cents]
  decide +kernel
def bL : List UInt8 := [98, 97, 108, 97, 110, 99, 101, 32, 115, 116, 111, 114, 101, 32, 112, 108, 97, 110, 107]
def bWs : List (List UInt8) := [[115, 116, 111, 114, 101], [112, 108, 97, 110, 107]]
theorem b_spl : spl (fstL bL) = balaW :: bWs := by decide
theorem b_text : balT ⟨[[oMv]], false⟩ [115, 116, 111, 114, 101] [112, 108, 97, 110, 107] = [98, 97, 108, 97, 110, 99, 101, 32, 55, 10] := by
  unfold balT
  rw [if_pos (by decide +kernel), o_bal, if_neg (by decide +kernel), if_pos (by decide +kernel)]
  decide +kernel
def pL : List UInt8 := [112, 111, 115, 116, 32, 97, 32, 98]
theorem p_spl : spl (fstL pL) = postW :: [[97], [98]] := by decide
theorem p_read : (readP kPost [[97], [98]]).2.2 = false := by decide +kernel
set_option maxRecDepth 8000 in
set_option maxHeartbeats 8000000 in
theorem hlives_any (w : World) (bg : Nat) (hg : Gl bg w) (he : Ge bg w) (hb : bg ≤ w.heap.size) : Calls Tryz.prog 17 #[] w fun e w' => e = .returned (.bool true) ∧ Below w.heap.size w w' := by
  refine calls_cps ?_
  intro R hR
  obtain ⟨F, hF0⟩ : ∃ F : Nat → Prop, (fun j => w.heap.size ≤ j) = F := ⟨_, rfl⟩
  have hu : Up w F := by rw [← hF0]; exact fun b hb => hb
  have hF : ∀ j, F j → bg ≤ j := fun j hj => by rw [← hF0] at hj; exact Nat.le_trans hb hj
  have HLow := Lib.hid (show ∀ W, Kx F w W → Below w.heap.size w W from fun W k => Kx.low (Below.refl _ w) k (fun j hj => by rw [← hF0] at hj; exact hj) (Nat.le_refl _))
  have HU := Lib.hid hu
  have HG := Lib.hid hg
  have HE := Lib.hid he
  have HN := Lib.hid (new_any w F hu)
  clear hu hg hF0 he
  have e1 : ((⟨[116, 111, 110, 101, 32, 45, 49, 46, 49, 46, 48, 47, 49, 32, 99, 101, 110, 116, 115, 32, 55, 48, 49, 10].toArray⟩ : ByteArray).toList == [116, 111, 110, 101, 32, 45, 49, 46, 49, 46, 48, 47, 49, 32, 99, 101, 110, 116, 115, 32, 55, 48, 49, 10]) = true := by rw [Lib.toList_data]; rfl
  have e2 : ((⟨[101, 110, 116, 114, 121, 32, 48, 10].toArray⟩ : ByteArray).toList == [101, 110, 116, 114, 121, 32, 48, 10]) = true := by rw [Lib.toList_data]; rfl
  have e3 : ((⟨[98, 97, 108, 97, 110, 99, 101, 32, 55, 10].toArray⟩ : ByteArray).toList == [98, 97, 108, 97, 110, 99, 101, 32, 55, 10]) = true := by rw [Lib.toList_data]; rfl
  have e4 : ((⟨[33, 32, 50, 10].toArray⟩ : ByteArray).toList == [33, 32, 50, 10]) = true := by rw [Lib.toList_data]; rfl
  go_enter Tryz.func17, Tryz.ntmps17
  go_wp2_with fail
  refine HN.out.mono ?_
  rintro e w1 ⟨h, a, dk, hge, rfl, hh1, hb1⟩
  have HB1 := Lib.hid hb1
  have HL1 := Lib.hid (line_tone w1 F h ⟨[], false⟩ 0 (hst_new hh1) (by decide) ⟨tL.toArray⟩ (by decide) [tX] (by show [] ∉ spl (fstL tL); decide) (by show (fstL tL).length ≤ 4096; decide) bg (HG.out.on (hb1.mono hb)) (HE.out.on (hb1.mono hb)) (Nat.le_trans hb hb1.size) hF (fun t b' => t = [116, 111, 110, 101, 32, 45, 49, 46, 49, 46, 48, 47, 49, 32, 99, 101, 110, 116, 115, 32, 55, 48, 49, 10] ∧ b' = ⟨[], false⟩) t_spl
    (fun hz => absurd hz (by decide +kernel)) (fun x hx t ht => by
      obtain rfl : tX = x := by simpa using hx
      rw [t_parse] at ht
      cases ht
      exact ⟨by decide, by decide, by decide⟩) (fun x hx => by
      obtain rfl : tX = x := by simpa using hx
      exact ⟨t_text, rfl⟩))
  clear hh1 hb1 hge
  go_wp2_with fail
  refine HL1.out.mono ?_
  rintro e w2 ⟨t, rfl, b', ⟨rfl, rfl⟩, hh2, hk2⟩
  have hk12 : Kx F w w2 := (kx_of_below HB1.out).trans hk2 (fun _ _ h => h)
  have HK2 := Lib.hid hk12
  have HL2 := Lib.hid (line_post w2 F h ⟨[], false⟩ 1 hh2 (by decide) (HU.out.kx hk12) ⟨oL.toArray⟩ (by decide) oWs (by show [] ∉ spl (fstL oL); decide) (by show (fstL oL).length ≤ 4096; decide) bg (HG.out.kx hk12 hF hb) (Nat.le_trans hb hk12.size) hF (fun t b' => t = [101, 110, 116, 114, 121, 32, 48, 10] ∧ b' = ⟨[[oMv]], false⟩) o_spl (by decide)
    (fun hz => by rw [o_read] at hz; cases hz) (fun _ => by
      rw [o_read]
      dsimp only
      rw [o_mvs]
      unfold postT eitherT
      rw [o_post]
      exact ⟨o_text, rfl⟩))
  clear hh2 hk2 hk12
  go_wp2_with fail
  refine HL2.out.mono ?_
  rintro e w3 ⟨t, rfl, b', ⟨rfl, rfl⟩, hh3, hk3⟩
  have hk13 : Kx F w w3 := HK2.out.trans hk3 (fun _ _ h => h)
  have HK3 := Lib.hid hk13
  have HL3 := Lib.hid (line_bal w3 F h ⟨[[oMv]], false⟩ 2 hh3 (by decide) (HU.out.kx hk13) ⟨bL.toArray⟩ (by decide) bWs (by show [] ∉ spl (fstL bL); decide) (by show (fstL bL).length ≤ 4096; decide) bg (HG.out.kx hk13 hF hb) (Nat.le_trans hb hk13.size) hF (fun t b' => t = [98, 97, 108, 97, 110, 99, 101, 32, 55, 10] ∧ b' = ⟨[[oMv]], false⟩) b_spl
    (fun hz => absurd hz (by decide +kernel)) (fun x y hxy => by
      simp only [bWs, List.cons.injEq, and_true] at hxy
      obtain ⟨rfl, rfl⟩ := hxy
      exact ⟨b_text, rfl⟩))
  clear hh3 hk3 hk13
  go_wp2_with fail
  refine HL3.out.mono ?_
  rintro e w4 ⟨t, rfl, b', ⟨rfl, rfl⟩, hh4, hk4⟩
  have hk14 : Kx F w w4 := HK3.out.trans hk4 (fun _ _ h => h)
  have HK4 := Lib.hid hk14
  have HL4 := Lib.hid (line_post w4 F h ⟨[[oMv]], false⟩ 3 hh4 (by decide) (HU.out.kx hk14) ⟨pL.toArray⟩ (by decide) [[97], [98]] (by show [] ∉ spl (fstL pL); decide) (by show (fstL pL).length ≤ 4096; decide) bg (HG.out.kx hk14 hF hb) (Nat.le_trans hb hk14.size) hF (fun t _ => t = [33, 32, 50, 10]) p_spl (by decide)
    (fun _ => by decide +kernel) (fun hz => by rw [p_read] at hz; cases hz))
  clear hh4 hk4 hk14
  go_wp2_with fail
  refine HL4.out.mono ?_
  rintro e w5 ⟨t, rfl, b', rfl, hh5, hk5⟩
  have hf := hR.out (.returned (.bool true)) w5 ⟨rfl, HLow.out w5 (HK4.out.trans hk5 (fun _ _ h => h))⟩
  have HF := Lib.hid hf
  clear hf hh5 hk5 hR
  go_wp2
  exact HF.out
theorem nline8_any (w : World) (p s : Value) (hp : Nb w p) (bg : Nat) (hg : Gl bg w) : Calls Tryz.prog 7 #[p, s] w fun e w' => e = .returned (.string ⟨[33, 32, 56, 10].toArray⟩) ∧ Below w.heap.size w w' :=
  (nline_any w p s hp bg hg).mono fun _ _ h => ⟨by rw [h.1, show bangL 8 = [33, 32, 56, 10] from by decide +kernel], h.2⟩
set_option maxRecDepth 8000 in
set_option maxHeartbeats 8000000 in
theorem hnobody_any (w : World) (s : ByteArray) (bg : Nat) (hg : Gl bg w) (he : Ge bg w) (hb : bg ≤ w.heap.size) : Calls Tryz.prog 4 #[.string s] w fun e w' => e = .returned (.bool true) ∧ Below w.heap.size w w' := by
  refine calls_cps ?_
  intro R hR
  have HG := Lib.hid hg
  have HE := Lib.hid he
  have HR := Lib.hid hR
  have e1 : ((⟨[33, 32, 56, 10].toArray⟩ : ByteArray).toList == [33, 32, 56, 10]) = true := by rw [Lib.toList_data]; rfl
  have e2 : ((⟨#[]⟩ : ByteArray).toList == []) = true := by rw [Lib.toList_data]; rfl
  have hb0 := hb
  clear hg he hR hb
  go_enter Tryz.func4, Tryz.ntmps4
  go_upto_region 2 with fail
  go_wp2_with fail
  obtain ⟨W, hW⟩ : ∃ W, (w.alloc (.cells #[Value.bool false, .pointer none, .slice none 0 0, .slice none 0 0, .slice none 0 0, .slice none 0 0, .slice none 0 0, .slice none 0 0, .slice none 0 0, .slice none 0 0, .pointer none, .slice none 0 0, .slice none 0 0, .pointer none, .pointer none] 56)).alloc (.cells #[.pointer none, .pointer (some ⟨w.heap.size, 0, none⟩)] 23) = W := ⟨_, rfl⟩
  have h1 := two_new w _ _ hW
  rw [hW]
  obtain ⟨z, hz⟩ : ∃ z, w.heap.size = z := ⟨_, rfl⟩
  have HBW := Lib.hid h1.2.2
  rw [hz] at h1 ⊢
  have HC := Lib.hid (show ∀ wr, Below W.heap.size W wr → wr.cell? ⟨z, 0, none⟩ = some (.bool false) ∧ wr.cell? ⟨z + 1, 0, none⟩ = some (.pointer none) ∧ wr.cell? ⟨z + 1, 1, none⟩ = some (.pointer (some ⟨z, 0, none⟩)) from fun wr hb => by
    have q1 := (hb.block z (Nat.lt_trans (Nat.lt_succ_self z) h1.2.1)).trans h1.1.1
    have q2 := (hb.block (z + 1) h1.2.1).trans h1.1.2
    refine ⟨?_, ?_, ?_⟩ <;> simp [World.cell?, q1, q2])
  have HGE := Lib.hid (show ∀ wr, Below W.heap.size W wr → Gl bg wr ∧ Ge bg wr ∧ Below w.heap.size w wr from fun wr hb => by
    have h2 := HBW.out.trans (hb.mono HBW.out.size)
    exact ⟨HG.out.on (h2.mono hb0), HE.out.on (h2.mono hb0), h2⟩)
  clear h1 hW hz
  go_loopw [5, 11] (fun s5 s11 wr => ∃ k : Nat, k ≤ 2 ∧ s11 = .int .i64 (k : Int) ∧ (∃ x, s5 = x) ∧ Hid (Below W.heap.size W wr)) (fun _ s11 _ => 2 - (intOf s11).toNat)
  case atStart => exact ⟨0, by omega, rfl, ⟨_, rfl⟩, Lib.hid (Below.refl _ _)⟩
  case round =>
    obtain ⟨k, hk, rfl, ⟨x5, rfl⟩, HB⟩ := hrel
    by_cases hlt : k < 2
    · obtain ⟨c0, c1, c2⟩ := HC.out wr HB.out
      obtain rfl | rfl : k = 0 ∨ k = 1 := by omega
      · have HN := Lib.hid (show ∀ W2, Below W.heap.size W W2 → Nb W2 (.pointer none) from fun W2 hb => have _ := hb; Or.inl rfl)
        have HL := Lib.hid (fun s => nline8_any wr (.pointer none) s (HN.out wr HB.out) bg (HGE.out wr HB.out).1)
        go_wp2_with (first
          | (go_at_call 7; (with_reducible refine (HL.out _).mono ?_); rintro e w2 ⟨rfl, hb2⟩; have HB2 := Lib.hid (HB.out.trans (hb2.mono HB.out.size)); clear hb2)
          | (go_at_call 15; (with_reducible refine (nlots_any w2 (.pointer none) (HN.out w2 HB2.out)).mono ?_); rintro e w3 ⟨rfl, rfl⟩)
          | (go_at_call 10; (with_reducible refine (nbook_any w2 (.pointer none) (HN.out w2 HB2.out)).mono ?_); rintro e w3 ⟨rfl, rfl⟩)
          | (go_at_call 16; (with_reducible refine (nclone_any w2 (.pointer none) (HN.out w2 HB2.out)).mono ?_); rintro e w3 ⟨rfl, rfl⟩))
        exact ⟨⟨1, by omega, by go_num, ⟨_, rfl⟩, HB2⟩, by simp [intOf]⟩
      · have HN := Lib.hid (show ∀ W2, Below W.heap.size W W2 → Nb W2 (.pointer (some ⟨z, 0, none⟩)) from fun W2 hb => Or.inr ⟨z, rfl, (HC.out W2 hb).1⟩)
        have HL := Lib.hid (fun s => nline8_any wr (.pointer (some ⟨z, 0, none⟩)) s (HN.out wr HB.out) bg (HGE.out wr HB.out).1)
        go_wp2_with (first
          | (go_at_call 7; (with_reducible refine (HL.out _).mono ?_); rintro e w2 ⟨rfl, hb2⟩; have HB2 := Lib.hid (HB.out.trans (hb2.mono HB.out.size)); clear hb2)
          | (go_at_call 15; (with_reducible refine (nlots_any w2 (.pointer (some ⟨z, 0, none⟩)) (HN.out w2 HB2.out)).mono ?_); rintro e w3 ⟨rfl, rfl⟩)
          | (go_at_call 10; (with_reducible refine (nbook_any w2 (.pointer (some ⟨z, 0, none⟩)) (HN.out w2 HB2.out)).mono ?_); rintro e w3 ⟨rfl, rfl⟩)
          | (go_at_call 16; (with_reducible refine (nclone_any w2 (.pointer (some ⟨z, 0, none⟩)) (HN.out w2 HB2.out)).mono ?_); rintro e w3 ⟨rfl, rfl⟩))
        exact ⟨⟨2, by omega, by go_num, ⟨_, rfl⟩, HB2⟩, by simp [intOf]⟩
    · obtain rfl : k = 2 := by omega
      have HL := Lib.hid (hlives_any wr bg (HGE.out wr HB.out).1 (HGE.out wr HB.out).2.1 (Nat.le_trans hb0 (HGE.out wr HB.out).2.2.size))
      have HBr := Lib.hid (HGE.out wr HB.out).2.2
      go_wp2_with (go_at_call 17; (with_reducible refine HL.out.mono ?_); rintro e w2 ⟨rfl, hb2⟩; have HB2 := Lib.hid (HBr.out.trans (hb2.mono HBr.out.size)); clear hb2)
      exact HR.out.out _ _ ⟨rfl, HB2.out⟩
end
end
end Go.Proofs.YtndcijkgaadpgaaGreatDoor
