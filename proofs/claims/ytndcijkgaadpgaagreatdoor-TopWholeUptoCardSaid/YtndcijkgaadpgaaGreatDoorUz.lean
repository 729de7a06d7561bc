/-
  Plain: a book of few small entries whose disk never goes down; all its entries taken back. The stock's lines of a house whose disk never goes down: post, reverse, balance, lots, shape; conditions: the line's words, few entries, the tables lie below a block. A new house and its first entry: outside gives the store seven planks; no condition.
-/
import Derived.Test.YtndcijkgaadpgaaGreatDoorUf
import Derived.Test.YtndcijkgaadpgaaGreatDoorUp
import Derived.Test.YtndcijkgaadpgaaGreatDoorUq
import Derived.Test.YtndcijkgaadpgaaGreatDoorUt
namespace Go.Proofs.YtndcijkgaadpgaaGreatDoor
section
/-- The disk of a book that never went down. -/
def dskOf (E : List (List Mv)) : Dk := ⟨E.flatMap encE, (E.flatMap encE).length, false, 0⟩
/-- What holds of a book of at most m small entries whose disk is never armed. -/
structure Gd (b : Bk) (m : Nat) : Prop where
  br : b.br = false
  jour : Jour b.E
  ent : ∀ e ∈ b.E, enOk e = true ∧ e.length ≤ 16
  few : b.E.length ≤ m
theorem enc_small {e : List Mv} (h : enOk e = true ∧ e.length ≤ 16) : (encE e).length ≤ 695 := by
  obtain ⟨h1, h2⟩ := h
  unfold enOk at h1
  simp only [Bool.and_eq_true, List.all_eq_true] at h1
  have := nmSz_le h1.1.1
  rw [encE_len]
  omega
theorem flat_small : ∀ (E : List (List Mv)), (∀ e ∈ E, enOk e = true ∧ e.length ≤ 16) → (E.flatMap encE).length ≤ 695 * E.length
  | [], _ => by simp
  | e :: E, h => by
    have h1 := flat_small E fun x hx => h x (List.mem_cons_of_mem _ hx)
    have h2 := enc_small (h e List.mem_cons_self)
    rw [List.flatMap_cons, List.length_append, List.length_cons]
    omega
theorem Gd.new : Gd ⟨[], false⟩ 0 := ⟨rfl, Jour.nil, fun _ h => (by cases h), Nat.le_refl _⟩
theorem Gd.mono {b : Bk} {m n : Nat} (h : Gd b m) (hm : m ≤ n) : Gd b n := ⟨h.br, h.jour, h.ent, Nat.le_trans h.few hm⟩
theorem Gd.inv {b : Bk} {m : Nat} (h : Gd b m) (hm : m ≤ 90) : Inv (dskOf b.E) b := by
  have h1 := flat_small b.E h.ent
  have h2 := h.few
  refine ⟨⟨?_, Nat.le_refl _, by show 0 < _; decide⟩, h.jour, fun e he => (h.ent e he).1, [], by rw [List.append_nil]; rfl, fun _ => ⟨rfl, rfl, rfl⟩, fun hb => ?_⟩
  · show (b.E.flatMap encE).length ≤ 65536
    omega
  · rw [h.br] at hb
    cases hb
/-- Post where nothing fails. -/
theorem Gd.post {b : Bk} {m : Nat} (h : Gd b m) (hm : m ≤ 90) {l : List Mv} (hl : l.length ≤ 16) :
    (b.would l ≠ 0 ∧ postB (dskOf b.E) b l = (dskOf b.E, b, b.would l)) ∨ (b.would l = 0 ∧ postB (dskOf b.E) b l = (dskOf (b.E ++ [l]), ⟨b.E ++ [l], false⟩, 0) ∧ Gd ⟨b.E ++ [l], false⟩ (m + 1)) := by
  by_cases hw : b.would l = 0
  · right
    obtain ⟨hbr, hen, href⟩ := would_ok hw
    have h1 := flat_small b.E h.ent
    have h2 := h.few
    have h3 := enc_small ⟨hen, hl⟩
    have hfl : (b.E ++ [l]).flatMap encE = b.E.flatMap encE ++ encE l := by rw [List.flatMap_append, List.flatMap_cons, List.flatMap_nil, List.append_nil]
    refine ⟨hw, ?_, rfl, h.jour.snoc fun p => (refE_0 fun q => h.jour.now q).1 href p, fun e he => ?_, ?_⟩
    · have happ : (dskOf b.E).app (encE l) = (⟨b.E.flatMap encE ++ encE l, (b.E.flatMap encE).length, false, 0⟩, 0) := by
        unfold Dk.app dskOf
        rw [if_neg (by simp), if_neg (by dsimp only; omega)]
        unfold Dk.act
        simp
      unfold postB
      rw [if_neg (by rw [hw]; decide), happ]
      unfold Dk.sync Dk.act
      simp only [dskOf, hfl, hbr]
      simp
    · rcases List.mem_append.1 he with he | he
      · exact h.ent e he
      · rw [List.mem_singleton.1 he]; exact ⟨hen, hl⟩
    · show (b.E ++ [l]).length ≤ m + 1
      rw [List.length_append, List.length_singleton]
      omega
  · left
    exact ⟨hw, by unfold postB; rw [if_pos hw]⟩
/-- The next entry taken back is done. -/
theorem back_would {E : List (List Mv)} (hj : Jour E) (he : ∀ e ∈ E, enOk e = true) {k : Nat} (hk : k < E.length) : Bk.would ⟨backE E (k + 1), false⟩ (revE E[k]) = 0 := by
  unfold Bk.would
  rw [if_neg (by simp), if_pos (enOk_rev (he _ (List.getElem_mem hk)))]
  have h1 := hj.back hk
  exact refW_of fun p _ => h1 p
theorem back_get {E : List (List Mv)} {k : Nat} (hk : k < E.length) : (backE E (k + 1)).getD k [] = E[k] := by
  unfold backE
  rw [List.getD_eq_getElem?_getD, List.getElem?_append_left hk, List.getElem?_eq_getElem hk]
  rfl
theorem back_zero (E : List (List Mv)) (p : Pl) : balE (backE E 0) p = 0 := by
  rw [balE_back E p E.length 0 (by omega), List.take_zero]
  rfl
theorem back_all (E : List (List Mv)) : backE E E.length = E := by
  unfold backE
  rw [List.drop_length, List.map_nil, List.reverse_nil, List.append_nil]
theorem backE_ent {E : List (List Mv)} (h : ∀ e ∈ E, enOk e = true ∧ e.length ≤ 16) (k : Nat) : ∀ e ∈ backE E k, enOk e = true ∧ e.length ≤ 16 := by
  intro e he
  unfold backE at he
  rcases List.mem_append.1 he with he | he
  · exact h e he
  · rw [List.mem_reverse, List.mem_map] at he
    obtain ⟨x, hx, rfl⟩ := he
    have h1 := h x (List.mem_of_mem_drop hx)
    refine ⟨enOk_rev h1.1, ?_⟩
    unfold revE
    rw [List.length_reverse, List.length_map]
    exact h1.2
/-- One entry taken back. -/
theorem Gd.back {E : List (List Mv)} (hj : Jour E) (he : ∀ e ∈ E, enOk e = true ∧ e.length ≤ 16) {k m : Nat} (hk : k < E.length) (h : Gd ⟨backE E (k + 1), false⟩ m) (hm : m ≤ 90) :
    postB (dskOf (backE E (k + 1))) ⟨backE E (k + 1), false⟩ (revE E[k]) = (dskOf (backE E k), ⟨backE E k, false⟩, 0) ∧ Gd ⟨backE E k, false⟩ (m + 1) := by
  have hl : (revE E[k]).length ≤ 16 := by
    unfold revE
    rw [List.length_reverse, List.length_map]
    exact (he _ (List.getElem_mem hk)).2
  rcases h.post hm hl with ⟨h1, _⟩ | ⟨_, h2, h3⟩
  · exact absurd (back_would hj (fun e hx => (he e hx).1) hk) h1
  · rw [backE_succ hk]
    exact ⟨h2, h3⟩
end
section
section
open Go.RowKit Go.Shelf
/-- A house whose disk never goes down, with a book of at most m entries. -/
def HSt (W : World) (F : Nat → Prop) (h : Nat) (b : Bk) (m : Nat) : Prop := ∃ a dk sh, Hs W F h a dk (dskOf b.E) b sh ∧ sh.length ≤ 16 ∧ Gd b m
theorem HSt.below {W w : World} {F : Nat → Prop} {h : Nat} {b : Bk} {m : Nat} (hh : HSt W F h b m) (k : Below W.heap.size W w) : HSt w F h b m := by
  obtain ⟨a, dk, sh, h1, h2, h3⟩ := hh
  exact ⟨a, dk, sh, h1.below k, h2, h3⟩
theorem HSt.mono {W : World} {F : Nat → Prop} {h : Nat} {b : Bk} {m n : Nat} (hh : HSt W F h b m) (k : m ≤ n) : HSt W F h b n := by
  obtain ⟨a, dk, sh, h1, h2, h3⟩ := hh
  exact ⟨a, dk, sh, h1, h2, h3.mono k⟩
theorem HSt.made {W : World} {F : Nat → Prop} {h : Nat} {b : Bk} {m : Nat} (hh : HSt W F h b m) : W.cell? ⟨h, 0, none⟩ = some (.bool true) ∧ h < W.heap.size := by
  obtain ⟨a, dk, sh, h1, h2, h3⟩ := hh
  obtain ⟨A, c, q0, -⟩ := h1.at
  obtain ⟨C, h4, _⟩ := h1.cells
  exact ⟨q0, (Array.getElem?_eq_some_iff.1 h4).1⟩
/-- What a line leaves: its reply and the book behind it. -/
def LQ (w : World) (F : Nat → Prop) (h m : Nat) (Q : List UInt8 → Bk → Prop) : List UInt8 → World → Prop := fun t W => ∃ b', Q t b' ∧ HSt W F h b' m ∧ Kx F w W
theorem lq_no {w : World} {F : Nat → Prop} {h m m' : Nat} {Q : List UInt8 → Bk → Prop} {b : Bk} {t : List UInt8} (hh : HSt w F h b m) (hm : m ≤ m') (hq : Q t b) : ∀ W, Below w.heap.size w W → LQ w F h m' Q t W :=
  fun _ hW => ⟨b, hq, (hh.below hW).mono hm, kx_of_below hW⟩
theorem lq_ans {w W w' : World} {F : Nat → Prop} {h m a dk : Nat} {Q : List UInt8 → Bk → Prop} {b : Bk} {t : List UInt8} {v : Value} {sh : List Shp} {bg : Nat} (hg : Gl bg w) (hb : bg ≤ w.heap.size) (hF : ∀ j, F j → bg ≤ j) (hW : Below w.heap.size w W) (hk : Kx F W w') (ht : AnsT t v w') (hh : Hs w' F h a dk (dskOf b.E) b sh) (hs : sh.length ≤ 16) (hd : Gd b m) (hq : Q t b) : AnsW bg (LQ w F h m Q) v w' := by
  have hk2 : Kx F w w' := (kx_of_below hW).trans hk (fun _ _ h => h)
  exact ht.ansW (hg.kx hk2 hF hb) (fun W' hW' => ⟨b, hq, ⟨a, dk, sh, hh.below hW', hs, hd⟩, hk2.below hW'⟩)
/-- Posting a small entry. -/
theorem Gd.step {b : Bk} {m : Nat} (h : Gd b m) (hm : m ≤ 90) {l : List Mv} (hl : l.length ≤ 16) : (postB (dskOf b.E) b l).1 = dskOf (postB (dskOf b.E) b l).2.1.E ∧ Gd (postB (dskOf b.E) b l).2.1 (m + 1) := by
  rcases h.post hm hl with ⟨_, e⟩ | ⟨_, e, h2⟩
  · rw [e]
    exact ⟨rfl, h.mono (Nat.le_succ _)⟩
  · rw [e]
    exact ⟨rfl, h2⟩
def postW : List UInt8 := [112, 111, 115, 116]
def revW : List UInt8 := [114, 101, 118, 101, 114, 115, 101]
def balaW : List UInt8 := [98, 97, 108, 97, 110, 99, 101]
def lotsW : List UInt8 := [108, 111, 116, 115]
def sawW : List UInt8 := [115, 97, 119]
def shapeW : List UInt8 := [115, 104, 97, 112, 101]
section
variable (w : World) (F : Nat → Prop) (h : Nat) (b : Bk) (m : Nat) (hh : HSt w F h b m) (hm90 : m ≤ 90) (hu : Up w F) (s : ByteArray) (hs : s.size < 4294967281) (ws : List (List UInt8)) (hw : [] ∉ spl (fstL s.data.toList)) (hlen : (fstL s.data.toList).length ≤ 4096) (bg : Nat) (hg : Gl bg w) (hb : bg ≤ w.heap.size) (hF : ∀ j, F j → bg ≤ j) (Q : List UInt8 → Bk → Prop)
include hh hm90 hu hs hw hlen hg hb hF
theorem line_post (hsp : spl (fstL s.data.toList) = postW :: ws) (hws : ws.length ≤ 64)
    (hno : (readP kPost ws).2.2 = false → Q (bangL 2) b)
    (hyes : (readP kPost ws).2.2 = true → Q (postT (postB (dskOf b.E) b (mvsOf (readP kPost ws).1 (readP kPost ws).2.1))) (postB (dskOf b.E) b (mvsOf (readP kPost ws).1 (readP kPost ws).2.1)).2.1) :
    Calls Tryz.prog 7 #[.pointer (some ⟨h, 0, none⟩), .string s] w fun e w' => ∃ t, e = .returned (.string ⟨t.toArray⟩) ∧ LQ w F h (m + 1) Q t w' := by
  obtain ⟨q0, hl⟩ := hh.made
  refine cline_any w h q0 hl s hs 112 [111, 115, 116] kPost 108 ws hsp hw hlen (by decide) (by decide) 32 rfl (by decide) (by decide) (by decide) (by decide) (by decide) (enters_of Tryz.func108 (by kernel_rfl) rfl) bg hg hb (LQ w F h (m + 1) Q) (fun hz => lq_no hh (Nat.le_succ _) (hno hz)) ?_
  intro hz W A1 c1 n1 A2 c2 n2 hW hA
  obtain ⟨a, dk, sh, h1, h2, h3⟩ := hh
  obtain ⟨r1, r2, r3⟩ := read_post hz
  have hl8 : (readP kPost ws).2.1.length ≤ 16 := by omega
  have h4 := h3.step hm90 (l := mvsOf (readP kPost ws).1 (readP kPost ws).2.1) (by rw [mvsOf_len]; omega)
  refine (hpost_any W F h a dk _ b sh (h1.below hW) (h3.inv hm90) (hu.below hW) w.heap.size A1 n1 c1 A2 n2 c2 _ _ hA r1 (by omega) (fun x hx => ?_) bg (hg.on (hW.mono hb)) (Nat.le_trans hb hW.size) hF).mono ?_
  · have h5 := spl_sub (l := fstL s.data.toList) (w := x) (by rw [hsp]; exact List.mem_cons_of_mem _ (r3 x hx))
    omega
  · rintro e w' ⟨v, rfl, q1, q2, q3⟩
    rw [h4.1] at q2
    exact ⟨v, rfl, lq_ans hg hb hF hW q3 q1 q2 h2 h4.2 (hyes hz)⟩
theorem line_rev (hsp : spl (fstL s.data.toList) = revW :: ws)
    (hno : (readP kN ws).2.2 = false → Q (bangL 2) b)
    (hyes : ∀ x v, ws = [x] → numL x = some v → Q (postT (revB (dskOf b.E) b v)) (revB (dskOf b.E) b v).2.1) :
    Calls Tryz.prog 7 #[.pointer (some ⟨h, 0, none⟩), .string s] w fun e w' => ∃ t, e = .returned (.string ⟨t.toArray⟩) ∧ LQ w F h (m + 1) Q t w' := by
  obtain ⟨q0, hl⟩ := hh.made
  refine cline_any w h q0 hl s hs 114 [101, 118, 101, 114, 115, 101] kN 109 ws hsp hw hlen (by decide) (by decide) 33 rfl (by decide) (by decide) (by decide) (by decide) (by decide) (enters_of Tryz.func109 (by kernel_rfl) rfl) bg hg hb (LQ w F h (m + 1) Q) (fun hz => lq_no hh (Nat.le_succ _) (hno hz)) ?_
  intro hz W A1 c1 n1 A2 c2 n2 hW hA
  obtain ⟨a, dk, sh, h1, h2, h3⟩ := hh
  obtain ⟨x, v, rfl, hv, hr⟩ := read_n hz
  have hA' : ArgsW w.heap.size W A1 n1 c1 A2 n2 c2 [] [v] := by
    have : readP kN [x] = ([], [v], true) := hr
    rw [this] at hA
    exact hA
  have h4 : (revB (dskOf b.E) b v).1 = dskOf (revB (dskOf b.E) b v).2.1.E ∧ Gd (revB (dskOf b.E) b v).2.1 (m + 1) := by
    unfold revB
    rw [if_neg (by rw [h3.br]; decide)]
    split
    · exact ⟨rfl, h3.mono (Nat.le_succ _)⟩
    · rename_i hv2
      refine h3.step hm90 ?_
      have hx : v.toNat < b.E.length := by omega
      have hg2 : b.E.getD v.toNat [] = b.E[v.toNat] := by rw [List.getD_eq_getElem?_getD, List.getElem?_eq_getElem hx]; rfl
      rw [hg2]
      unfold revE
      rw [List.length_reverse, List.length_map]
      exact (h3.ent _ (List.getElem_mem hx)).2
  refine (hrev_any W F h a dk _ b sh (h1.below hW) (h3.inv hm90) (hu.below hW) w.heap.size A1 n1 c1 A2 n2 c2 _ v hA' bg (hg.on (hW.mono hb)) (Nat.le_trans hb hW.size) hF).mono ?_
  rintro e w' ⟨r, rfl, q1, q2, q3⟩
  rw [h4.1] at q2
  exact ⟨r, rfl, lq_ans hg hb hF hW q3 q1 q2 h2 h4.2 (hyes x v rfl hv)⟩
theorem line_bal (hsp : spl (fstL s.data.toList) = balaW :: ws)
    (hno : (readP [119, 32, 119] ws).2.2 = false → Q (bangL 2) b)
    (hyes : ∀ x y, ws = [x, y] → Q (balT b x y) b) :
    Calls Tryz.prog 7 #[.pointer (some ⟨h, 0, none⟩), .string s] w fun e w' => ∃ t, e = .returned (.string ⟨t.toArray⟩) ∧ LQ w F h (m + 1) Q t w' := by
  have _ := hu
  obtain ⟨q0, hl⟩ := hh.made
  refine cline_any w h q0 hl s hs 98 [97, 108, 97, 110, 99, 101] [119, 32, 119] 110 ws hsp hw hlen (by decide) (by decide) 34 rfl (by decide) (by decide) (by decide) (by decide) (by decide) (enters_of Tryz.func110 (by kernel_rfl) rfl) bg hg hb (LQ w F h (m + 1) Q) (fun hz => lq_no hh (Nat.le_succ _) (hno hz)) ?_
  intro hz W A1 c1 n1 A2 c2 n2 hW hA
  obtain ⟨a, dk, sh, h1, h2, h3⟩ := hh
  obtain ⟨x, y, rfl, hr⟩ := read_ww hz
  rw [hr] at hA
  have hx := (spl_sub (l := fstL s.data.toList) (w := x) (by rw [hsp]; simp)).1
  have hy := (spl_sub (l := fstL s.data.toList) (w := y) (by rw [hsp]; simp)).1
  refine (hbal_any W F h a dk _ b sh (h1.below hW) (h3.inv hm90) w.heap.size A1 n1 c1 A2 n2 c2 x y hA (by omega) (by omega) bg (hg.on (hW.mono hb)) (Nat.le_trans hb hW.size)).mono ?_
  rintro e w' ⟨r, rfl, q1, q2⟩
  exact ⟨r, rfl, lq_ans hg hb hF hW (kx_of_below q2) q1 ((h1.below hW).below q2) h2 (h3.mono (Nat.le_succ _)) (hyes x y rfl)⟩
theorem line_lots (hsp : spl (fstL s.data.toList) = lotsW :: ws)
    (hno : (readP [] ws).2.2 = false → Q (bangL 2) b)
    (hyes : ws = [] → ∀ L, LotsOf (balE b.E) L → L.Pairwise (fun x y => cfL x y ≤ 0) → Q (linesL (L.map lotL)) b) :
    Calls Tryz.prog 7 #[.pointer (some ⟨h, 0, none⟩), .string s] w fun e w' => ∃ t, e = .returned (.string ⟨t.toArray⟩) ∧ LQ w F h (m + 1) Q t w' := by
  have _ := hu
  obtain ⟨q0, hl⟩ := hh.made
  refine cline_any w h q0 hl s hs 108 [111, 116, 115] [] 111 ws hsp hw hlen (by decide) (by decide) 35 rfl (by decide) (by decide) (by decide) (by decide) (by decide) (enters_of Tryz.func111 (by kernel_rfl) rfl) bg hg hb (LQ w F h (m + 1) Q) (fun hz => lq_no hh (Nat.le_succ _) (hno hz)) ?_
  intro hz W A1 c1 n1 A2 c2 n2 hW hA
  obtain ⟨a, dk, sh, h1, h2, h3⟩ := hh
  obtain ⟨rfl, hr⟩ := read_none hz
  refine (clots_any W F h a dk _ b sh (h1.below hW) (h3.inv hm90) A1 n1 c1 A2 n2 c2 bg (hg.on (hW.mono hb)) (Nat.le_trans hb hW.size)).mono ?_
  rintro e w' ⟨r, L, rfl, h4, h5, q1, q2⟩
  exact ⟨r, rfl, lq_ans hg hb hF hW (kx_of_below q2) q1 ((h1.below hW).below q2) h2 (h3.mono (Nat.le_succ _)) (hyes rfl L h4 h5)⟩
theorem line_shape (hsp : spl (fstL s.data.toList) = shapeW :: ws) (hq : ∀ t, Q t b) :
    Calls Tryz.prog 7 #[.pointer (some ⟨h, 0, none⟩), .string s] w fun e w' => ∃ t, e = .returned (.string ⟨t.toArray⟩) ∧ LQ w F h (m + 1) Q t w' := by
  have _ := hm90
  obtain ⟨q0, hl⟩ := hh.made
  refine cline_any w h q0 hl s hs 115 [104, 97, 112, 101] ([110, 32, 110, 32, 110, 32] ++ kTurn) 105 ws hsp hw hlen (by decide) (by decide) 29 rfl (by decide) (by decide) (by decide) (by decide) (by decide) (enters_of Tryz.func105 (by kernel_rfl) rfl) bg hg hb (LQ w F h (m + 1) Q) (fun hz => lq_no hh (Nat.le_succ _) (hq _)) ?_
  intro hz W A1 c1 n1 A2 c2 n2 hW hA
  obtain ⟨a, dk, sh, h1, h2, h3⟩ := hh
  obtain ⟨x, y, z, u, p, q, r, rfl, -, -, -, hr⟩ := read_shape hz
  rw [hr] at hA
  refine (hshape_any W F h a dk _ b sh (h1.below hW) (hu.below hW) h2 w.heap.size A1 n1 c1 A2 n2 c2 u p q r hA).mono ?_
  rintro e w' ⟨v, rfl, q1, q2, q3⟩
  refine ⟨v, rfl, lq_ans hg hb hF hW q3 q1 q2 ?_ (h3.mono (Nat.le_succ _)) (hq _)⟩
  split
  · rw [List.length_append, List.length_singleton]; omega
  · exact h2
end
end
end
section
section
open Go.RowKit Go.Shelf
theorem hst_new {w : World} {F : Nat → Prop} {h a dk : Nat} (hh : Hs w F h a dk Dk.new ⟨[], false⟩ []) : HSt w F h ⟨[], false⟩ 0 := ⟨a, dk, [], hh, by decide, Gd.new⟩
def oMv : Mv := ⟨⟨#[111, 117, 116, 115, 105, 100, 101]⟩, ⟨#[115, 116, 111, 114, 101]⟩, ⟨#[112, 108, 97, 110, 107]⟩, 7⟩
def oL : List UInt8 := [112, 111, 115, 116, 32, 111, 117, 116, 115, 105, 100, 101, 32, 115, 116, 111, 114, 101, 32, 112, 108, 97, 110, 107, 32, 55]
def oWs : List (List UInt8) := [[111, 117, 116, 115, 105, 100, 101], [115, 116, 111, 114, 101], [112, 108, 97, 110, 107], [55]]
theorem o_spl : spl (fstL oL) = postW :: oWs := by decide
theorem o_read : readP kPost oWs = ([[111, 117, 116, 115, 105, 100, 101], [115, 116, 111, 114, 101], [112, 108, 97, 110, 107]], [7], true) := by decide +kernel
theorem o_mvs : mvsOf [[111, 117, 116, 115, 105, 100, 101], [115, 116, 111, 114, 101], [112, 108, 97, 110, 107]] [7] = [oMv] := rfl
theorem o_would : Bk.would ⟨[], false⟩ [oMv] = 0 := by decide +kernel
theorem o_post : (postB (dskOf []) ⟨[], false⟩ [oMv]).2 = (⟨[[oMv]], false⟩, 0) := by
  rcases (Gd.new).post (by decide) (l := [oMv]) (by decide) with ⟨h, _⟩ | ⟨_, h, _⟩
  · exact absurd o_would h
  · have h2 := congrArg Prod.snd h
    exact h2
theorem o_text : linesL [rowL entW [((1 : Nat) : Int) - 1]] = [101, 110, 116, 114, 121, 32, 48, 10] := by decide +kernel
def oP1 : Pl := (⟨#[111, 117, 116, 115, 105, 100, 101]⟩, ⟨#[112, 108, 97, 110, 107]⟩)
def oP2 : Pl := (⟨#[115, 116, 111, 114, 101]⟩, ⟨#[112, 108, 97, 110, 107]⟩)
theorem o_bal (p : Pl) : balE [[oMv]] p = if p = oP1 then -7 else if p = oP2 then 7 else 0 := by
  have e : balE [[oMv]] p = ((if (oMv.t, oMv.i) = p then oMv.q else 0) - (if (oMv.f, oMv.i) = p then oMv.q else 0)) + 0 + 0 := rfl
  have e1 : (oMv.f, oMv.i) = oP1 := rfl
  have e2 : (oMv.t, oMv.i) = oP2 := rfl
  have e3 : oMv.q = 7 := rfl
  have hne : oP1 ≠ oP2 := by decide +kernel
  rw [e, e1, e2, e3]
  by_cases h1 : p = oP1
  · subst h1
    rw [if_pos rfl, if_pos rfl, if_neg (Ne.symm hne)]
    rfl
  · have n1 : ¬ oP1 = p := fun h => h1 h.symm
    rw [if_neg h1, if_neg n1]
    by_cases h2 : p = oP2
    · rw [if_pos h2, if_pos h2.symm]
      rfl
    · have n2 : ¬ oP2 = p := fun h => h2 h.symm
      rw [if_neg h2, if_neg n2]
      rfl
end
end
end Go.Proofs.YtndcijkgaadpgaaGreatDoor
