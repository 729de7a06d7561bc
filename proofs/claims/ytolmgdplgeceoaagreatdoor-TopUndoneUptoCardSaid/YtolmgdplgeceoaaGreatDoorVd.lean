/-
  houses: what every program must return; condition: the tables lie below a block. TopUndone returns true at every input whose texts are no longer than 2000000 bytes; condition: the tables lie below a block.
-/
import Derived.Test.YtolmgdplgeceoaaGreatDoorVc
namespace Go.Proofs.YtolmgdplgeceoaaGreatDoor
section
section
open Go.RowKit Go.Shelf
theorem hst_new {w : World} {F : Nat → Prop} {h a dk : Nat} (hh : Hs w F h a dk Dk.new ⟨[], false⟩ []) : HSt w F h ⟨[], false⟩ 0 := ⟨a, dk, [], hh, by decide, Gd.new⟩
def oMv : Mv := ⟨⟨#[111, 117, 116, 115, 105, 100, 101]⟩, ⟨#[115, 116, 111, 114, 101]⟩, ⟨#[112, 108, 97, 110, 107]⟩, 7⟩
def oL : List UInt8 := [112, 111, 115, 116, 32, 111, 117, 116, 115, 105, 100, 101, 32, 115, 116, 111, 114, 101, 32, 112, 108, 97, 110, 107, 32, 55]
def oWs : List (List UInt8) := [[111, 117, 116, 115, 105, 100, 101], [115, 116, 111, 114, 101], [112, 108, 97, 110, 107], [55]]
theorem o_spl : spl (fstL oL) = postW :: oWs := by decide
theorem o_read : readP kPost oWs = ([[111, 117, 116, 115, 105, 100, 101], [115, 116, 111, 114, 101], [112, 108, 97, 110, 107]], [7], true) := by decide +kernel
theorem o_mvs : mvsOf [[111, 117, 116, 115, 105, 100, 101], [115, 116, 111, 114, 101], [112, 108, 97, 110, 107]] [7] = [oMv] := rfl
theorem o_would : Bk.would ⟨[], false⟩ [oMv] = 0 := by decide +kernel
theorem o_post : (postB (dskOf []) ⟨[], false⟩ [oMv]).2 = (⟨[[oMv]], false⟩, 0) := by
  rcases (Gd.new).post (by decide) (l := [oMv]) (by decide) with ⟨h, _⟩ | ⟨_, h, _⟩
  · exact absurd o_would h
  · have h2 := congrArg Prod.snd h
    exact h2
theorem o_text : linesL [rowL entW [((1 : Nat) : Int) - 1]] = [101, 110, 116, 114, 121, 32, 48, 10] := by decide +kernel
def oP1 : Pl := (⟨#[111, 117, 116, 115, 105, 100, 101]⟩, ⟨#[112, 108, 97, 110, 107]⟩)
def oP2 : Pl := (⟨#[115, 116, 111, 114, 101]⟩, ⟨#[112, 108, 97, 110, 107]⟩)
theorem o_bal (p : Pl) : balE [[oMv]] p = if p = oP1 then -7 else if p = oP2 then 7 else 0 := by
  have e : balE [[oMv]] p = ((if (oMv.t, oMv.i) = p then oMv.q else 0) - (if (oMv.f, oMv.i) = p then oMv.q else 0)) + 0 + 0 := rfl
  have e1 : (oMv.f, oMv.i) = oP1 := rfl
  have e2 : (oMv.t, oMv.i) = oP2 := rfl
  have e3 : oMv.q = 7 := rfl
  have hne : oP1 ≠ oP2 := by decide +kernel
  rw [e, e1, e2, e3]
  by_cases h1 : p = oP1
  · subst h1
    rw [if_pos rfl, if_pos rfl, if_neg (Ne.symm hne)]
    rfl
  · have n1 : ¬ oP1 = p := fun h => h1 h.symm
    rw [if_neg h1, if_neg n1]
    by_cases h2 : p = oP2
    · rw [if_pos h2, if_pos h2.symm]
      rfl
    · have n2 : ¬ oP2 = p := fun h => h2 h.symm
      rw [if_neg h2, if_neg n2]
      rfl
theorem o_lots {L : List Lot} (h : LotsOf (balE [[oMv]]) L) (hp : L.Pairwise (fun x y => cfL x y ≤ 0)) : L = [(oP1.1, oP1.2, -7), (oP2.1, oP2.2, 7)] := by
  have b1 : balE [[oMv]] oP1 = -7 := by rw [o_bal, if_pos rfl]
  have b2 : balE [[oMv]] oP2 = 7 := by rw [o_bal, if_neg (by decide +kernel), if_pos rfl]
  have m1 := h.every oP1 ⟨by decide, by decide⟩ (by rw [b1]; decide)
  have m2 := h.every oP2 ⟨by decide, by decide⟩ (by rw [b2]; decide)
  rw [b1] at m1
  rw [b2] at m2
  have hall : ∀ x ∈ L, x = (oP1.1, oP1.2, (-7 : Int)) ∨ x = (oP2.1, oP2.2, (7 : Int)) := fun x hx => by
    obtain ⟨-, h2, h3⟩ := h.all x hx
    obtain ⟨a, i, q⟩ := x
    dsimp only at h2 h3
    rw [o_bal] at h2
    by_cases e1 : (a, i) = oP1
    · left
      rw [if_pos e1] at h2
      rw [h2, ← e1]
    · rw [if_neg e1] at h2
      by_cases e2 : (a, i) = oP2
      · right
        rw [if_pos e2] at h2
        rw [h2, ← e2]
      · rw [if_neg e2] at h2
        exact absurd h2 h3
  have hnd : L.Nodup := (List.pairwise_map.1 h.once).imp (fun hne e => hne (by rw [e]))
  have hp2 : L.Perm [(oP1.1, oP1.2, (-7 : Int)), (oP2.1, oP2.2, (7 : Int))] := by
    refine (List.perm_ext_iff_of_nodup hnd (by decide +kernel)).2 fun x => ⟨fun hx => ?_, fun hx => ?_⟩
    · rcases hall x hx with rfl | rfl <;> simp
    · simp only [List.mem_cons, List.not_mem_nil, or_false] at hx
      rcases hx with rfl | rfl
      · exact m1
      · exact m2
  have hl := hp2.length_eq
  match L, hl with
  | [x, y], _ =>
    have hx := hall x (by simp)
    have hy := hall y (by simp)
    simp only [List.pairwise_cons, List.mem_singleton, forall_eq] at hp
    simp only [List.nodup_cons, List.mem_singleton] at hnd
    rcases hx with rfl | rfl <;> rcases hy with rfl | rfl
    · exact absurd rfl hnd.1
    · rfl
    · exfalso
      have := hp.1
      revert this
      decide +kernel
    · exact absurd rfl hnd.1
theorem o_ltext : linesL ([(oP1.1, oP1.2, (-7 : Int)), (oP2.1, oP2.2, (7 : Int))].map lotL) = [108, 111, 116, 32, 111, 117, 116, 115, 105, 100, 101, 32, 112, 108, 97, 110, 107, 32, 45, 55, 10, 108, 111, 116, 32, 115, 116, 111, 114, 101, 32, 112, 108, 97, 110, 107, 32, 55, 10] := by decide +kernel
set_option maxRecDepth 8000 in
set_option maxHeartbeats 4000000 in
theorem houses_any (w : World) (bg : Nat) (hg : Gl bg w) (hb : bg ≤ w.heap.size) : Calls Tryz.prog 5 #[] w fun e w' => e = .returned (.bool true) ∧ Below w.heap.size w w' := by
  refine calls_cps ?_
  intro R hR
  obtain ⟨F, hF0⟩ : ∃ F : Nat → Prop, (fun j => w.heap.size ≤ j) = F := ⟨_, rfl⟩
  have hu : Up w F := by rw [← hF0]; exact fun b hb => hb
  have hF : ∀ j, F j → bg ≤ j := fun j hj => by rw [← hF0] at hj; exact Nat.le_trans hb hj
  have HLow := Lib.hid (show ∀ W, Kx F w W → Below w.heap.size w W from fun W k => Kx.low (Below.refl _ w) k (fun j hj => by rw [← hF0] at hj; exact hj) (Nat.le_refl _))
  have HU := Lib.hid hu
  have HG := Lib.hid hg
  have HN := Lib.hid (new_any w F hu)
  clear hu hg hF0
  go_enter Tryz.func5, Tryz.ntmps5
  go_wp2_with fail
  refine HN.out.mono ?_
  rintro e w1 ⟨h, a, dk, hge, rfl, hh1, hb1⟩
  have HH1 := Lib.hid (hst_new hh1)
  have HB1 := Lib.hid hb1
  have Hge := Lib.hid hge
  have HL1 := Lib.hid (line_post w1 F h ⟨[], false⟩ 0 (hst_new hh1) (by decide) (HU.out.below hb1) ⟨oL.toArray⟩ (by decide) oWs (by show [] ∉ spl (fstL oL); decide) (by show (fstL oL).length ≤ 4096; decide) bg (HG.out.on (hb1.mono hb)) (Nat.le_trans hb hb1.size) hF (fun t b' => t = [101, 110, 116, 114, 121, 32, 48, 10] ∧ b' = ⟨[[oMv]], false⟩) o_spl (by decide)
    (fun hz => by rw [o_read] at hz; cases hz) (fun _ => by
      rw [o_read]
      dsimp only
      rw [o_mvs]
      unfold postT eitherT
      rw [o_post]
      exact ⟨o_text, rfl⟩))
  clear hh1 hb1 hge
  have e1 : ((⟨[101, 110, 116, 114, 121, 32, 48, 10].toArray⟩ : ByteArray).toList == [101, 110, 116, 114, 121, 32, 48, 10]) = true := by rw [Lib.toList_data]; rfl
  go_wp2_with fail
  refine HL1.out.mono ?_
  rintro e w2 ⟨t, rfl, b', ⟨rfl, rfl⟩, hh2, hk2⟩
  have hk12 : Kx F w w2 := (kx_of_below HB1.out).trans hk2 (fun _ _ h => h)
  have HK2 := Lib.hid hk12
  have HL2 := Lib.hid (line_lots w2 F h ⟨[[oMv]], false⟩ 1 hh2 (by decide) (HU.out.kx hk12) ⟨lotsW.toArray⟩ (by decide) [] (by show [] ∉ spl (fstL lotsW); decide) (by show (fstL lotsW).length ≤ 4096; decide) bg (HG.out.kx hk12 hF hb) (Nat.le_trans hb hk12.size) hF (fun t b' => t = [108, 111, 116, 32, 111, 117, 116, 115, 105, 100, 101, 32, 112, 108, 97, 110, 107, 32, 45, 55, 10, 108, 111, 116, 32, 115, 116, 111, 114, 101, 32, 112, 108, 97, 110, 107, 32, 55, 10]) (by decide)
    (fun hz => by revert hz; decide) (fun _ L h1 h2 => by rw [o_lots h1 h2]; exact o_ltext))
  have e2 : ((⟨[108, 111, 116, 32, 111, 117, 116, 115, 105, 100, 101, 32, 112, 108, 97, 110, 107, 32, 45, 55, 10, 108, 111, 116, 32, 115, 116, 111, 114, 101, 32, 112, 108, 97, 110, 107, 32, 55, 10].toArray⟩ : ByteArray).toList == [108, 111, 116, 32, 111, 117, 116, 115, 105, 100, 101, 32, 112, 108, 97, 110, 107, 32, 45, 55, 10, 108, 111, 116, 32, 115, 116, 111, 114, 101, 32, 112, 108, 97, 110, 107, 32, 55, 10]) = true := by rw [Lib.toList_data]; rfl
  clear hh2 hk2 hk12
  go_wp2_with fail
  refine HL2.out.mono ?_
  rintro e w3 ⟨t, rfl, b', rfl, hh3, hk3⟩
  have hf := hR.out (.returned (.bool true)) w3 ⟨rfl, HLow.out w3 (HK2.out.trans hk3 (fun _ _ h => h))⟩
  have HF := Lib.hid hf
  clear hf hh3 hk3 hR
  go_wp2
  exact HF.out
end
end
section
section
open Go.RowKit Go.Shelf
theorem lots_none {f : Pl → Int} {L : List Lot} (h : LotsOf f L) (hf : ∀ p, f p = 0) : L = [] := by
  cases L with
  | nil => rfl
  | cons x L =>
    obtain ⟨-, h2, h3⟩ := h.all x List.mem_cons_self
    exact absurd (h2.trans (hf _)) h3
def revS : ByteArray := ⟨#[114, 101, 118, 101, 114, 115, 101, 32]⟩
theorem rev_line (k : Nat) : spl (fstL (revS ++ ⟨(Lib.itoa (k : Int)).toArray⟩ : ByteArray).data.toList) = revW :: [Lib.itoa (k : Int)] ∧ (fstL (revS ++ ⟨(Lib.itoa (k : Int)).toArray⟩ : ByteArray).data.toList) = revW ++ 32 :: Lib.itoa (k : Int) := by
  have e : (revS ++ ⟨(Lib.itoa (k : Int)).toArray⟩ : ByteArray).data.toList = revW ++ 32 :: Lib.itoa (k : Int) := by rw [ba_app]; rfl
  have h10 : ∀ c ∈ revW ++ 32 :: Lib.itoa (k : Int), c ≠ 10 := by
    intro c hc
    rcases List.mem_append.1 hc with hc | hc
    · exact (show ∀ c ∈ revW, c ≠ 10 by decide) c hc
    · rcases List.mem_cons.1 hc with rfl | hc
      · decide
      · exact (itoa_plain _ c hc).2
  rw [e, fst_no h10, spl_word _ _ (by decide), spl_last _ (fun c hc => (itoa_plain _ c hc).1)]
  exact ⟨rfl, rfl⟩
theorem itoa_ne (k : Nat) (h : k < 1000000000000) : Lib.itoa (k : Int) ≠ [] := by
  intro e
  have := (digits_len k h).1
  rw [← itoa_nat, e] at this
  simp at this
theorem read_n_ok {x : List UInt8} {v : Int} (h : numL x = some v) : (readP kN [x]).2.2 = true := by
  have hf : Lib.fields kN = [kN] := by decide
  unfold readP
  rw [hf, readK_one (by decide) (by decide) (by decide), takeP_n]
  simp [h, readK, finP]
/-- The reply to an entry taken back. -/
theorem rev_reply {E : List (List Mv)} {k m : Nat} (hk : k < E.length) (hj : Jour E) (he : ∀ e ∈ E, enOk e = true ∧ e.length ≤ 16) (h : Gd ⟨backE E (k + 1), false⟩ m) (hm : m ≤ 90) :
    postT (revB (dskOf (backE E (k + 1))) ⟨backE E (k + 1), false⟩ (k : Int)) = rowL entW [2 * (E.length : Int) - 1 - (k : Int)] ++ [10] ∧ (revB (dskOf (backE E (k + 1))) ⟨backE E (k + 1), false⟩ (k : Int)).2.1 = ⟨backE E k, false⟩ := by
  have hl := backE_len E (k := k + 1) (by omega)
  have hl2 := backE_len E (k := k) (by omega)
  have hr : revB (dskOf (backE E (k + 1))) ⟨backE E (k + 1), false⟩ (k : Int) = (dskOf (backE E k), ⟨backE E k, false⟩, 0) := by
    unfold revB
    rw [if_neg (by simp), if_neg (by dsimp only; omega)]
    dsimp only
    rw [Int.toNat_natCast, back_get hk]
    exact (h.back hj he hk hm).1
  rw [hr]
  refine ⟨?_, rfl⟩
  unfold postT eitherT
  rw [if_pos rfl]
  dsimp only
  rw [hl2, show ((2 * E.length - k : Nat) : Int) - 1 = 2 * (E.length : Int) - 1 - (k : Int) by omega]
  unfold linesL
  simp
set_option maxRecDepth 100000 in
set_option maxHeartbeats 8000000 in
theorem undone_any (w : World) (A : Option Addr) (n c : Nat) (L : List ByteArray) (hX : SlE strE 1 w A n L) (hsz : ∀ x ∈ L, x.size ≤ 2000000) (_hn : n ≤ 9223372036854775807) (bg : Nat) (hg : Gl bg w) (hb : bg ≤ w.heap.size) :
    Calls Tryz.prog 3 #[.slice A n c] w fun e w' => e = .returned (.bool true) ∧ Below w.heap.size w w' := by
  refine calls_cps ?_
  intro R hR
  obtain ⟨F, hF0⟩ : ∃ F : Nat → Prop, (fun j => w.heap.size ≤ j) = F := ⟨_, rfl⟩
  have hu : Up w F := by rw [← hF0]; exact fun b hb => hb
  have hF : ∀ j, F j → bg ≤ j := fun j hj => by rw [← hF0] at hj; exact Nat.le_trans hb hj
  have HLow := Lib.hid (show ∀ W, Kx F w W → Below w.heap.size w W from fun W k => Kx.low (Below.refl _ w) k (fun j hj => by rw [← hF0] at hj; exact hj) (Nat.le_refl _))
  have HU := Lib.hid hu
  have HG := Lib.hid hg
  have HX := Lib.hid hX
  have HSz := Lib.hid hsz
  have Hr := Lib.hid (fun v w' (hv : v = true) (k : Kx F w w') => hR.out (.returned (.bool v)) w' ⟨by rw [hv], HLow.out w' k⟩)
  have HN := Lib.hid (new_any w F hu)
  clear hu hg hF0 hX hsz hR
  go_enter Tryz.func3, Tryz.ntmps3
  go_wp2_with fail
  refine HN.out.mono ?_
  rintro e w1 ⟨h, a, dk, hge, rfl, hh1, hb1⟩
  have HH1 := Lib.hid (hst_new hh1)
  have HB1 := Lib.hid hb1
  have HHs := Lib.hid (houses_any w1 bg (HG.out.on (hb1.mono hb)) (Nat.le_trans hb hb1.size))
  clear hh1 hb1 hge
  go_wp2_with fail
  refine HHs.out.mono ?_
  rintro e w2 ⟨rfl, hb2⟩
  have HH2 := Lib.hid (HH1.out.below hb2)
  have HK2 := Lib.hid (kx_of_below (S := F) (HB1.out.trans (hb2.mono HB1.out.size)))
  clear hb2
  go_wp2_with fail
  go_loopw [4] (fun s4 wr => ∃ i : Nat, i ≤ n ∧ i ≤ 24 ∧ s4 = .int .i64 (i : Int) ∧ Hid (∃ b, HSt wr F h b i) ∧ Hid (Kx F w wr)) (fun s4 _ => 24 - (intOf s4).toNat)
  case atStart => exact ⟨0, Nat.zero_le _, Nat.zero_le _, rfl, Lib.hid ⟨_, HH2.out⟩, HK2⟩
  case round =>
    obtain ⟨i, hin, hi24, rfl, Hh, Hk⟩ := hrel
    by_cases hlt : i < n ∧ i < 24
    · obtain ⟨hlt1, hlt2⟩ := hlt
      obtain ⟨bo, oo, s, hA, hbo, hs, q0⟩ := strs_at (HX.out.below (HLow.out wr Hk.out)) hlt1
      subst hA
      have hs2 := HSz.out s (List.mem_of_getElem? hs)
      have i1 : (i : Int) < (n : Int) := by omega
      have i2 : (i : Int) < 24 := by omega
      have HBk := Lib.hid (booking_any s wr hs2)
      clear hs
      cases hbk : bookB s
      · rw [hbk] at HBk
        clear hbk
        go_wp2_with fail
        refine HBk.out.mono ?_
        rintro e w3 ⟨rfl, hb3⟩
        have HK3 := Lib.hid (Hk.out.below hb3)
        have HH3 := Lib.hid (show ∃ b, HSt w3 F h b (i + 1) from let ⟨b, hb⟩ := Hh.out; ⟨b, (hb.below hb3).mono (Nat.le_succ _)⟩)
        clear hb3 q0
        go_wp2_with fail
        exact ⟨⟨i + 1, hlt1, hlt2, by go_num, HH3, HK3⟩, by simp [intOf] <;> omega⟩
      · rw [hbk] at HBk
        have Hbk := Lib.hid hbk
        clear hbk
        go_wp2_with fail
        refine HBk.out.mono ?_
        rintro e w3 ⟨rfl, hb3⟩
        have HK3 := Lib.hid (Hk.out.below hb3)
        have q1 := (World.cell?_of_block (w := wr) (a := ⟨bo, oo + i, none⟩) (hb3.block bo hbo)).trans q0
        have HLn := Lib.hid (show Calls Tryz.prog 7 #[.pointer (some ⟨h, 0, none⟩), .string s] w3 fun e w' => (∃ t : List UInt8, e = .returned (.string ⟨t.toArray⟩)) ∧ (∃ b', HSt w' F h b' (i + 1)) ∧ Kx F w3 w' from let ⟨b, hbs⟩ := Hh.out; bline_any w3 F h b i (hbs.below hb3) (by omega) (HU.out.kx HK3.out) s (by omega) Hbk.out bg (HG.out.kx HK3.out hF hb) (Nat.le_trans hb HK3.out.size) hF)
        clear hb3 q0
        go_wp2_with fail
        refine HLn.out.mono ?_
        rintro e w4 ⟨⟨t, rfl⟩, hh4, hk4⟩
        have HH4 := Lib.hid hh4
        have HK4 := Lib.hid (HK3.out.trans hk4 (fun _ _ h => h))
        clear hh4 hk4
        go_wp2_with fail
        exact ⟨⟨i + 1, hlt1, hlt2, by go_num, HH4, HK4⟩, by simp [intOf] <;> omega⟩
    · obtain ⟨b, hbs⟩ := Hh.out
      have hgd : Gd b i := let ⟨_, _, _, _, _, h3⟩ := hbs; h3
      obtain ⟨E, br⟩ := b
      have hbr : br = false := hgd.br
      subst hbr
      have HGd := Lib.hid hgd
      have HEn := Lib.hid (entries_any wr F h ⟨E, false⟩ i hbs (by omega) bg (HG.out.kx Hk.out hF hb) (Nat.le_trans hb Hk.out.size))
      obtain ⟨N, hN⟩ : ∃ N, E.length = N := ⟨_, rfl⟩
      have HN2 := Lib.hid hN
      have hN24 : N ≤ 24 := by
        have := hgd.few
        rw [← hN]
        exact Nat.le_trans this hi24
      have HHb := Lib.hid hbs
      dsimp only at HEn
      rw [hN] at HEn
      clear hgd hbs hN
      have hways : ((i : Int) < (n : Int) → False) ∨ ((i : Int) < 24 → False) := by omega
      have hst : (¬ (i : Int) < (n : Int)) ∨ ((i : Int) < (n : Int) ∧ ¬ (i : Int) < 24) := by omega
      clear hways hlt
      rcases hst with i1 | ⟨i1, i2⟩
      all_goals
        go_wp2_with fail
        refine HEn.out.mono ?_
        rintro e w3 ⟨rfl, hb3⟩
        have HK3 := Lib.hid (Hk.out.below hb3)
        have HH3 := Lib.hid (HHb.out.below hb3)
        clear hb3
        go_wp2_with fail
        go_loopw [6] (fun s6 wr => ∃ k : Nat, k ≤ N ∧ s6 = .int .i64 ((k : Int) - 1) ∧ Hid (HSt wr F h ⟨backE E k, false⟩ (24 + (N - k))) ∧ Hid (Kx F w wr)) (fun s6 _ => (intOf s6 + 1).toNat)
        case atStart => exact ⟨N, Nat.le_refl _, rfl, Lib.hid (by rw [← HN2.out, back_all]; exact HH3.out.mono (by omega)), HK3⟩
        case round =>
          obtain ⟨k, hkN, rfl, Hh5, Hk5⟩ := hrel
          cases k with
          | zero =>
            rw [show ((0 : Nat) : Int) - 1 = -1 from rfl]
            have hlen0 : (backE E 0).length = 2 * N := by rw [backE_len E (Nat.zero_le _), HN2.out, Nat.sub_zero]
            have HLo := Lib.hid (show Calls Tryz.prog 11 #[.pointer (some ⟨h, 0, none⟩)] wr fun e w' => (∃ (A : Option Addr) (c : Nat), e = .returned (.slice A 0 c)) ∧ Below wr.heap.size wr w' from by
              obtain ⟨a', dk', sh', h1, h2, h3⟩ := Hh5.out
              refine (hlots_any wr F h a' dk' _ ⟨backE E 0, false⟩ sh' h1 (by rw [hlen0]; omega)).mono ?_
              rintro e w' ⟨A', c', L', rfl, q1, -, -, -, q2⟩
              have hL0 := lots_none q1 (back_zero E)
              subst hL0
              exact ⟨⟨A', c', rfl⟩, q2⟩)
            have Hlen0 := Lib.hid hlen0
            clear hlen0
            go_wp2_with fail
            refine HLo.out.mono ?_
            rintro e w6 ⟨⟨A6, c6, rfl⟩, hb6⟩
            have HK6 := Lib.hid (Hk5.out.below hb6)
            have HH6 := Lib.hid (Hh5.out.below hb6)
            have HLl := Lib.hid (line_lots w6 F h ⟨backE E 0, false⟩ (24 + (N - 0)) HH6.out (by omega) (HU.out.kx HK6.out) ⟨lotsW.toArray⟩ (by decide) [] (by show [] ∉ spl (fstL lotsW); decide) (by show (fstL lotsW).length ≤ 4096; decide) bg (HG.out.kx HK6.out hF hb) (Nat.le_trans hb HK6.out.size) hF (fun t b' => t = [] ∧ b' = ⟨backE E 0, false⟩) (by decide) (fun hz => absurd hz (by decide)) (fun _ L' h1 _ => by rw [lots_none h1 (back_zero E)]; exact ⟨rfl, rfl⟩))
            have e0 : ((⟨([] : List UInt8).toArray⟩ : ByteArray).toList == []) = true := by rw [Lib.toList_data]; rfl
            clear hb6
            go_wp2_with fail
            refine HLl.out.mono ?_
            rintro e w7 ⟨t, rfl, b', ⟨rfl, rfl⟩, hh7, hk7⟩
            have HK7 := Lib.hid (HK6.out.trans hk7 (fun _ _ h => h))
            have HEn2 := Lib.hid (entries_any w7 F h ⟨backE E 0, false⟩ _ hh7 (by omega) bg (HG.out.kx HK7.out hF hb) (Nat.le_trans hb HK7.out.size))
            dsimp only at HEn2
            rw [Hlen0.out] at HEn2
            have e2 : (((2 * N : Nat) : Int) == 2 * (N : Int)) = true := by rw [beq_iff_eq]; omega
            clear hh7 hk7
            go_wp2_with fail
            refine HEn2.out.mono ?_
            rintro e w8 ⟨rfl, hb8⟩
            have hf := Hr.out true w8 rfl (HK7.out.below hb8)
            have HFin := Lib.hid hf
            clear hf hb8 Hr
            go_wp2
            exact HFin.out
          | succ k =>
            rw [show (((k + 1 : Nat) : Int) - 1) = (k : Int) by omega]
            have hkl : k < E.length := by have := HN2.out; omega
            have HTx := Lib.hid (rtxt_any k (by omega) wr)
            have hil := (Lib.itoa_length_le (k : Int) (by omega) (by omega))
            have r1 : ¬ 9223372036854775807 < 8 + (Lib.itoa (k : Int)).length := by omega
            have hnum := num_itoa k (by omega)
            have hgd5 : Gd ⟨backE E (k + 1), false⟩ (24 + (N - (k + 1))) := let ⟨_, _, _, _, _, h3⟩ := Hh5.out; h3
            obtain ⟨hrp1, hrp2⟩ := rev_reply hkl HGd.out.jour HGd.out.ent hgd5 (by omega)
            rw [HN2.out] at hrp1
            obtain ⟨S, hS⟩ : ∃ S, rowL entW [2 * (N : Int) - 1 - (k : Int)] ++ [10] = S := ⟨_, rfl⟩
            rw [hS] at hrp1
            obtain ⟨hsp1, hsp2⟩ := rev_line k
            have HLr := Lib.hid (fun (W : World) (hW : Below wr.heap.size wr W) => line_rev W F h ⟨backE E (k + 1), false⟩ (24 + (N - (k + 1))) (Hh5.out.below hW) (by omega) (HU.out.kx (Hk5.out.below hW)) (⟨#[114, 101, 118, 101, 114, 115, 101, 32]⟩ ++ ⟨(Lib.itoa (k : Int)).toArray⟩) (by rw [ba_size, ba_app, List.length_append]; show 8 + (Lib.itoa (k : Int)).length < _; omega) [Lib.itoa (k : Int)] (by rw [show spl (fstL (⟨#[114, 101, 118, 101, 114, 115, 101, 32]⟩ ++ ⟨(Lib.itoa (k : Int)).toArray⟩ : ByteArray).data.toList) = _ from hsp1]; intro hm; simp at hm; rcases hm with hm | hm; (· exact absurd hm (by decide)); (· exact itoa_ne k (by omega) hm)) (by rw [show (fstL (⟨#[114, 101, 118, 101, 114, 115, 101, 32]⟩ ++ ⟨(Lib.itoa (k : Int)).toArray⟩ : ByteArray).data.toList) = _ from hsp2, List.length_append, List.length_cons]; show 7 + _ ≤ _; omega) bg (HG.out.kx (Hk5.out.below hW) hF hb) (Nat.le_trans hb (Hk5.out.below hW).size) hF (fun t b' => t = S ∧ b' = ⟨backE E k, false⟩) hsp1
              (fun hz => by rw [read_n_ok hnum] at hz; cases hz) (fun x v hx hv => by
                injection hx with hx _
                rw [← hx, hnum] at hv
                cases hv
                exact ⟨hrp1, hrp2⟩))
            have HS := Lib.hid hS
            clear hgd5 hrp1 hrp2 hsp1 hsp2 hS hnum hkl
            go_wp2_with fail
            refine HTx.out.mono ?_
            rintro e w6 ⟨rfl, hb6⟩
            have HK6 := Lib.hid (Hk5.out.below hb6)
            have HL6 := Lib.hid (HLr.out w6 hb6)
            clear hb6
            go_wp2_with fail
            refine HL6.out.mono ?_
            rintro e w7 ⟨t, rfl, b', ⟨ht, rfl⟩, hh7, hk7⟩
            obtain rfl : S = t := ht.symm
            have HK7 := Lib.hid (HK6.out.trans hk7 (fun _ _ h => h))
            have HH7 := Lib.hid (hh7.mono (show 24 + (N - (k + 1)) + 1 ≤ 24 + (N - k) by omega))
            clear hh7 hk7
            have hb8 := below_new w7 (.cells #[.int .i64 (2 * (N : Int) - 1 - (k : Int))] 3)
            have HB8 := Lib.hid hb8
            have HLi := Lib.hid (rlist_any ⟨entW.toArray⟩ (some ⟨w7.heap.size, 0, none⟩) 1 1 [2 * (N : Int) - 1 - (k : Int)] (w7.alloc (.cells #[.int .i64 (2 * (N : Int) - 1 - (k : Int))] 3)) ⟨rfl, by have h := Sl.newAt w7 #[.int .i64 (2 * (N : Int) - 1 - (k : Int))] 3 1 1 rfl rfl; exact h⟩ (by omega) (by decide) (fun x hx => by rw [List.mem_singleton] at hx; subst hx; omega))
            rw [show rowL (⟨entW.toArray⟩ : ByteArray).data.toList [2 * (N : Int) - 1 - (k : Int)] ++ [10] = S from HS.out] at HLi
            clear hb8
            go_wp2_with fail
            refine HLi.out.mono ?_
            rintro e w9 ⟨rfl, hb9⟩
            have HB9 := Lib.hid (HB8.out.trans (hb9.mono HB8.out.size))
            clear hb9
            go_wp2_with fail
            exact ⟨⟨k, by omega, by go_num, Lib.hid (HH7.out.below HB9.out), Lib.hid (HK7.out.below HB9.out)⟩, by simp [intOf] <;> omega⟩
end
end
end Go.Proofs.YtolmgdplgeceoaaGreatDoor
