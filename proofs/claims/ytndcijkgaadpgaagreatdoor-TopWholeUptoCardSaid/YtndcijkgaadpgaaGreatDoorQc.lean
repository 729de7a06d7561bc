/-
  book.Open on a disk that holds whole entries and a rest that is none; conditions: the cells hold such a disk, which is up and not armed. (*House).arm, (*House).restart; conditions: the cells hold a house, the numbers that each theorem states. Plain: what a line of the stock does to a book whose disk may go down.
-/
import Derived.Test.YtndcijkgaadpgaaGreatDoorQa
import Derived.Test.YtndcijkgaadpgaaGreatDoorUz
import Derived.Test.YtndcijkgaadpgaaGreatDoorUi
import Derived.Test.YtndcijkgaadpgaaGreatDoorUr
import Derived.Test.YtndcijkgaadpgaaGreatDoorUt
import Derived.Test.YtndcijkgaadpgaaGreatDoorJv
namespace Go.Proofs.YtndcijkgaadpgaaGreatDoor
section
section
open Go.RowKit Go.Maps Go.Shelf
/-- Where entry j begins. -/
def endE (E : List (List Mv)) (j : Nat) : Nat := ((E.take j).flatMap encE).length
theorem endE_succ {E : List (List Mv)} {j : Nat} (h : j < E.length) : endE E (j + 1) = endE E j + (encE E[j]).length := by
  unfold endE
  rw [List.take_add_one, List.getElem?_eq_getElem h, List.flatMap_append, List.length_append]
  simp
theorem endE_all (E : List (List Mv)) : endE E E.length = (E.flatMap encE).length := by
  unfold endE
  rw [List.take_length]
theorem endE_le {E : List (List Mv)} {j : Nat} : endE E j ≤ (E.flatMap encE).length := by
  have h : E.flatMap encE = (E.take j).flatMap encE ++ (E.drop j).flatMap encE := by rw [← List.flatMap_append, List.take_append_drop]
  unfold endE
  rw [h, List.length_append]
  omega
theorem end_drop (E : List (List Mv)) (t : List UInt8) (j : Nat) : (E.flatMap encE ++ t).drop (endE E j) = (E.drop j).flatMap encE ++ t := by
  have h : E.flatMap encE = (E.take j).flatMap encE ++ (E.drop j).flatMap encE := by rw [← List.flatMap_append, List.take_append_drop]
  unfold endE
  rw [h, List.append_assoc, List.drop_left]
theorem dec_at {E : List (List Mv)} {t : List UInt8} (hE : ∀ e ∈ E, enOk e = true) {j : Nat} (h : j < E.length) : decP ((E.flatMap encE ++ t).drop (endE E j)) = (E[j], (encE E[j]).length) := by
  rw [end_drop, List.drop_eq_getElem_cons h, List.flatMap_cons, List.append_assoc]
  exact dec_entry (hE _ (List.getElem_mem h)) _
theorem dec_end (E : List (List Mv)) {t : List UInt8} (ht : decP t = ([], 0)) : decP ((E.flatMap encE ++ t).drop (endE E E.length)) = ([], 0) := by
  rw [end_drop, List.drop_length]
  exact ht
theorem jour_bal {E : List (List Mv)} (h : Jour E) {j : Nat} (hj : j ≤ E.length) : BalB (balE (E.take j)) := fun q => by
  obtain ⟨h1, h2, _⟩ := h j q hj
  unfold mxQ at h1 h2
  omega
/-- Behind what the disk alone has done. -/
theorem Bd.disk1 {W w : World} {G : Nat → Prop} {a dk : Nat} {d d' : Dk} {b : Bk} (h : Bd W G a dk d b) (hd : Dsk w G dk d') (k : Kx (fun j => j = dk) W w) : Bd w G a dk d' b ∧ Kx G W w :=
  ⟨⟨hd, h.book.disk h.disk (k.mono (T := DkS W G dk) fun _j e => .inl e)⟩, kx_dks h.disk (k.mono (T := DkS W G dk) fun _j e => .inl e)⟩
theorem sync_up {d : Dk} (h1 : d.down = false) (h2 : d.left = 0) : d.sync = (⟨d.B, d.B.length, false, 0⟩, 0) := by
  obtain ⟨B, sf, dn, lf⟩ := d
  dsimp only at h1 h2
  subst h1 h2
  rfl
/-- A disk that holds whole entries alone: behind the last sync. -/
theorem open_done {w w' : World} {F : Nat → Prop} {a dk : Nat} {d : Dk} {E : List (List Mv)} (hb : Bd w F a dk d ⟨E, false⟩) (hB : d.B = E.flatMap encE) (h1 : d.down = false) (h2 : d.left = 0) (hd : Dsk w' F dk d.sync.1) (k : Kx (fun j => j = dk) w w') : Bd w' F a dk (dskOf E) ⟨E, false⟩ ∧ Kx F w w' := by
  have h := hb.disk1 hd k
  rw [sync_up h1 h2] at h
  dsimp only at h
  rw [hB] at h
  exact h
theorem open_none {w : World} {F : Nat → Prop} {a dk : Nat} {d : Dk} {E : List (List Mv)} (hb : Bd w F a dk d ⟨E, false⟩) (hB : d.B = E.flatMap encE) (h1 : d.down = false) (h2 : d.left = 0) (h0 : d.B.length = 0) : Bd w F a dk (dskOf E) ⟨E, false⟩ := by
  have hs := hb.disk.1.2.1
  obtain ⟨B, sf, dn, lf⟩ := d
  dsimp only at h1 h2 hB h0 hs
  subst h1 h2
  have e : dskOf E = ⟨B, sf, false, 0⟩ := by
    unfold dskOf
    rw [← hB, h0, show sf = 0 by omega]
  rw [e]
  exact hb
set_option maxRecDepth 8000 in
set_option maxHeartbeats 8000000 in
theorem open_any (w : World) (F : Nat → Prop) (dk : Nat) (d : Dk) (E : List (List Mv)) (t : List UInt8) (hd : Dsk w F dk d) (hu : Up w F) (hB : d.B = E.flatMap encE ++ t) (ht : decP t = ([], 0)) (hE : ∀ e ∈ E, enOk e = true) (hj : Jour E) (hdn : d.down = false) (hlf : d.left = 0) :
    Calls Tryz.prog 19 #[.pointer (some ⟨dk, 0, none⟩)] w fun e w' => ∃ a, w.heap.size ≤ a ∧ e = .returned (.tuple #[.pointer (some ⟨a, 0, none⟩), .int .i64 0]) ∧ Bd w' F a dk (dskOf E) ⟨E, false⟩ ∧ Kx F w w' := by
  refine calls_cps ?_
  intro R hR
  have Hr := Lib.hid hR.out
  have HD := Lib.hid hd
  have HU := Lib.hid hu
  have hr := ready_any w F dk d hd
  rw [hdn] at hr
  have HRd := Lib.hid hr
  have hmm := @run_makeMap Tryz.prog
  have HW1 := Lib.hid (below_new w (.map #[] 0))
  obtain ⟨W1, hW1⟩ : ∃ W1, w.alloc (.map #[] 0) = W1 := ⟨_, rfl⟩
  have HB1 := Lib.hid (bal_new w)
  rw [hW1] at HW1 HB1
  have hs1 : W1.heap.size = w.heap.size + 1 := by rw [← hW1]; simp
  obtain ⟨W2, hW2⟩ : ∃ W2, W1.alloc (.cells #[.pointer (some ⟨dk, 0, none⟩), .slice none 0 0, .map (some w.heap.size), .bool false] 115) = W2 := ⟨_, rfl⟩
  have HW2 := Lib.hid (show Below w.heap.size w W2 from hW2 ▸ HW1.out.alloc (by omega) _)
  have hh2 := heap_alloc_new W1 (.cells #[.pointer (some ⟨dk, 0, none⟩), .slice none 0 0, .map (some w.heap.size), .bool false] 115)
  rw [hW2, hs1] at hh2
  have HH := Lib.hid hh2
  have HB2 := Lib.hid (HB1.out.keep (w := W2) (by rw [← hW2]; exact heap_alloc_old W1 _ HB1.out.lt))
  have HE1 := Lib.hid hW1
  have HE2 := Lib.hid hW2
  have Hs1 := Lib.hid hs1
  have HBd := Lib.hid (show Bd W2 F (w.heap.size + 1) dk d ⟨E.take 0, false⟩ from ⟨HD.out.below HW2.out, HU.out _ (by omega), none, 0, w.heap.size, 0, HH.out, ⟨[], World.ownsRow_nil _ _ _ _, fun g hg => by simp [Value.ownBlock] at hg, fun i e he => by simp at he⟩, HU.out _ (Nat.le_refl _), by simp, HB2.out⟩)
  have HK2 := Lib.hid (kx_of_below (S := F) HW2.out)
  clear hu hh2 hW1 hW2 hr hs1 hR hd
  go_enter Tryz.func19, Tryz.ntmps19
  go_wp2_with (go_at_call 40; (with_reducible refine HRd.out.mono ?_); rintro e w' ⟨rfl, rfl⟩)
  rw [HE1.out, HE2.out]
  clear hmm HB1 HB2 HE1 HE2 HW1 HRd HH
  obtain ⟨a, ha⟩ : ∃ a, w.heap.size + 1 = a := ⟨_, rfl⟩
  rw [ha] at HBd ⊢
  have HAa := Lib.hid ha
  have HDB := Lib.hid hB
  have hTle : (E.flatMap encE).length ≤ d.B.length := by rw [hB, List.length_append]; omega
  have hdB := HD.out.1.1
  have hfew := enc_many E
  obtain ⟨T, hT⟩ : ∃ T, (E.flatMap encE).length = T := ⟨_, rfl⟩
  have HT := Lib.hid hT
  have HDt := Lib.hid (fun j (h : j < E.length) => dec_at (t := t) hE h)
  have HDe := Lib.hid (dec_end E ht)
  rw [← hB] at HDt HDe
  have HJ := Lib.hid hj
  have HEn := Lib.hid hE
  rw [hT] at hTle hfew
  clear hB ht hE hj hT ha
  go_wp2_with fail
  go_loopw [5] (fun s5 wr => ∃ j : Nat, j ≤ E.length ∧ s5 = .int .i64 ((endE E j : Nat) : Int) ∧ Hid (Bd wr F a dk d ⟨E.take j, false⟩) ∧ Hid (Kx F w wr)) (fun s5 _ => T - (intOf s5).toNat)
  case atStart => exact ⟨0, Nat.zero_le _, rfl, HBd, HK2⟩
  case round =>
    obtain ⟨j, hj, rfl, Hb, Hk⟩ := hrel
    obtain ⟨ok, hf, A, c, h2, ho, hg⟩ := Hb.out.disk
    obtain ⟨d0, d1, d2, d3, d4, -⟩ := hcell5 h2
    have hcc : d.B.length ≤ c := by
      obtain ⟨A0, c0, e, h1, -, -⟩ := own_slice ho
      simp only [Value.slice.injEq, true_and] at e
      rw [e.2]
      exact h1
    have hend : endE E j ≤ T := by rw [← HT.out]; exact endE_le
    have hx := by_tail (SlE.of_own ho rfl) (k := endE E j) (by omega) hcc
    have hfr := run_from A d.B.length c (endE E j) (by omega)
    have HDec := Lib.hid (decode_any wr _ _ (c - endE E j) _ hx (by omega) (by omega))
    obtain ⟨A2, hA2⟩ : ∃ A2, tlA A (endE E j) c = A2 := ⟨_, rfl⟩
    rw [hA2] at hfr HDec
    clear ok hf h2 ho hg hx hA2
    by_cases hlt : j < E.length
    · rw [HDt.out j hlt] at HDec
      dsimp only at HDec
      have hpos := enc_pos E[j]
      obtain ⟨e, he⟩ : ∃ e, E[j] = e := ⟨_, rfl⟩
      have Hen := Lib.hid (show enOk e = true from he ▸ HEn.out _ (List.getElem_mem hlt))
      have Hes := Lib.hid (show endE E (j + 1) = endE E j + (encE e).length from he ▸ endE_succ hlt)
      have Htk := Lib.hid (show E.take (j + 1) = E.take j ++ [e] by rw [List.take_add_one, List.getElem?_eq_getElem hlt, he]; rfl)
      rw [he] at HDec hpos
      obtain ⟨n, hn⟩ : ∃ n, (encE e).length = n := ⟨_, rfl⟩
      have Hn := Lib.hid hn
      rw [hn] at HDec hpos Hes
      have hTj : endE E j + n ≤ T := by
        rw [← HT.out, ← Hes.out]
        exact endE_le
      obtain ⟨m, hm⟩ : ∃ m, e.length = m := ⟨_, rfl⟩
      have hm32 : m ≤ 32 := by have := (enOk_len Hen.out).2.2.1; omega
      have Hm := Lib.hid hm
      have HZ := Lib.hid (mvZ_of Hen.out)
      clear he hn hm HBd HK2
      go_wp2_with fail
      refine HDec.out.mono ?_
      rintro e' w4 ⟨A5, m5, c5, rfl, hm5, ho5, hb5⟩
      subst hm5
      rw [Hm.out] at ho5 ⊢
      have hb4 := Hb.out.below hb5
      have Hb4 := Lib.hid hb4
      have Hk4 := Lib.hid (Hk.out.below hb5)
      have HU4 := Lib.hid (HU.out.kx Hk4.out)
      obtain ⟨A4, c4, mb4, n4, g0, g1, g2, g3, gf, HE4, HN4, HBal4, HF4, HHp4⟩ := hb4.book.cells
      dsimp only at g1 HE4 HN4 HBal4 HHp4
      have hlen : (E.take j).length = j := by rw [List.length_take]; omega
      obtain ⟨outer, o1, o2, o3⟩ := HE4.out
      have hrowF : ∀ g, (Value.slice A5 m c5).ownBlock = some g → F g := fun g hg => HU.out g (Nat.le_trans Hk.out.size (own_ge0 ho5 hg))
      have HX4 := Lib.hid (own_mono ho5 (Nat.zero_le _))
      have HSn := Lib.hid (show Sn w4 w4 F A4 A5 c4 c5 m (E.take j) e outer from ⟨Below.refl _ _, own_mono ho5 (Nat.zero_le _), hrowF, o1, o2, o3⟩)
      have HO1 := Lib.hid (o1.alloc (.cells #[.slice A5 m c5] 116))
      have HW5 := Lib.hid ((heap_alloc_old w4 (.cells #[.slice A5 m c5] 116) (Array.getElem?_eq_some_iff.1 HHp4.out).1).trans HHp4.out)
      have G1 := Lib.hid g1
      rw [hlen] at g1 HO1
      have hj9 : j ≤ 9362 := by omega
      clear ho5 hb5 hb4 o1 o2 o3 hrowF g2 g3 g0 HDec
      go_wp2_with (at_builtin; refine wpList_app rfl (.tmp 36) (.tmp 38) _ rfl elemEn 0 _ _ _ rfl HO1.out _ _ _ _ rfl (Sl.newAt w4 #[.slice A5 m c5] _ 1 1 rfl rfl) (by simp [Value.oneCell']) (by unfold maxLen; omega) (by omega) (Nat.zero_le _) ?_; intro A6 c6 w6 ho6 hg6 hl6; have hk6 := kept_box HW5.out HO1.out (by decide) hg6; obtain ⟨t0, s1, t2, t3, tf⟩ := cells4 hk6; have tf1 := tf 1; have HK6 := Lib.hid hk6; clear tf hk6; have HO6 := Lib.hid ho6; have HG6 := Lib.hid hg6; have HL6 := Lib.hid hl6; clear ho6 hg6 hl6)
      have hp6 := post_end (b := ⟨E.take j, false⟩) (l := e) Hb4.out.book Hb4.out.disk HX4.out HU4.out G1.out HE4.out HN4.out HBal4.out HF4.out HHp4.out HSn.out Hm.out.symm (by dsimp only; rw [hlen]; exact HO6.out) (by dsimp only; rw [hlen]; exact HG6.out) (by dsimp only; rw [hlen]; exact HL6.out) HK6.out
      dsimp only at hp6
      rw [hlen] at hp6
      have HP6 := Lib.hid hp6
      have hn4 : n4 < 900000000 := by
        have := HN4.out
        omega
      clear hp6 g1 t0 s1 t2 t3 tf1 HO6 HG6 HL6 HK6 HW5 HSn HX4 HO1
      refine (do_any _ mb4 n4 (balE (E.take j)) A5 m c5 e HP6.out.bal hn4 (jour_bal HJ.out hj) (SlE.of_own HP6.out.row Hm.out.symm) HZ.out).mono ?_
      rintro e' w8 ⟨rfl, hb8, hk8⟩
      have HE8 := Lib.hid (HP6.out.last hb8 hk8 hm32)
      clear hb8 hk8 HP6
      go_wp2_with fail
      refine ⟨⟨j + 1, hlt, by rw [Hes.out]; push_cast; rfl, Lib.hid ?_, Lib.hid (Hk4.out.trans HE8.out.2 (fun _ _ h => h))⟩, by simp [intOf]; omega⟩
      rw [Htk.out]
      exact HE8.out.1
    · have hjE : j = E.length := by omega
      subst hjE
      rw [HDe.out] at HDec
      have hT2 : endE E E.length = T := by rw [endE_all]; exact HT.out
      rw [hT2] at HDec hfr hend ⊢
      rw [List.take_length] at Hb
      clear HBd HK2
      go_wp2_with fail
      refine HDec.out.mono ?_
      rintro e' w4 ⟨A5, m5, c5, rfl, -, -, hb5⟩
      have hb4 := Hb.out.below hb5
      have Hb4 := Lib.hid hb4
      have Hk4 := Lib.hid (Hk.out.below hb5)
      obtain ⟨-, -, A7, c7, h7, -, -⟩ := hb4.disk
      obtain ⟨e0, e1, e2, e3, e4, -⟩ := hcell5 h7
      have HTk := Lib.hid (show d.B.take T = E.flatMap encE by rw [HDB.out, ← HT.out, List.take_left])
      have ha9 : w.heap.size ≤ a := by have := HAa.out; omega
      obtain ⟨N, hN⟩ : ∃ N, d.B.length = N := ⟨_, rfl⟩
      have HN := Lib.hid hN
      rw [hN] at e1 hTle
      clear hb4 hb5 h7 hN e0 e2 e3 e4
      by_cases hcut : T < N
      · have i1 : (T : Int) < (N : Int) := by omega
        have HC := Lib.hid (dcut_any w4 F dk d T Hb4.out.disk (by rw [HN.out]; exact hTle) hdn hlf)
        rw [HTk.out] at HC
        go_wp2_with fail
        refine HC.out.mono ?_
        rintro e' w5 ⟨rfl, hd5, hk5⟩
        obtain ⟨hb5, hk6⟩ := Hb4.out.disk1 hd5 hk5
        have Hb5 := Lib.hid hb5
        have Hk5 := Lib.hid (Hk4.out.trans hk6 (fun _ _ h => h))
        obtain ⟨-, -, A8, c8, h8, -, -⟩ := hd5
        obtain ⟨u0, u1, u2, u3, u4, -⟩ := hcell5 h8
        dsimp only at u1
        rw [HT.out] at u1
        clear hb5 hk6 hk5 h8 u0 u2 u3 u4 e1
        by_cases h0 : 0 < T
        · have i2 : (T : Int) > 0 := by omega
          have HS := Lib.hid (dsync_any w5 F dk _ Hb5.out.disk)
          rw [sync_up (d := { d with B := E.flatMap encE, safe := min d.safe T }) hdn hlf] at HS
          go_wp2_with fail
          refine HS.out.mono ?_
          rintro e' w6 ⟨rfl, hd6, hk6⟩
          have hf := open_done Hb5.out rfl hdn hlf (by rw [sync_up (d := { d with B := E.flatMap encE, safe := min d.safe T }) hdn hlf]; exact hd6) hk6
          have HF := Lib.hid (Hr.out (.returned (.tuple #[.pointer (some ⟨a, 0, none⟩), .int .i64 0])) w6 ⟨a, ha9, rfl, hf.1, Hk5.out.trans hf.2 (fun _ _ h => h)⟩)
          clear hd6 hk6 hf HS
          go_wp2_with fail
          exact HF.out
        · have i2 : ¬ (T : Int) > 0 := by omega
          have HF := Lib.hid (Hr.out (.returned (.tuple #[.pointer (some ⟨a, 0, none⟩), .int .i64 0])) w5 ⟨a, ha9, rfl, open_none Hb5.out rfl hdn hlf (by show (E.flatMap encE).length = 0; rw [HT.out]; omega), Hk5.out⟩)
          clear h0
          go_wp2_with fail
          exact HF.out
      · have i1 : ¬ (T : Int) < (N : Int) := by omega
        have hTN : T = N := by omega
        have HBE := Lib.hid (show d.B = E.flatMap encE by rw [← HTk.out, List.take_of_length_le (by rw [HN.out]; omega)])
        by_cases h0 : 0 < N
        · have i2 : (N : Int) > 0 := by omega
          have HS := Lib.hid (dsync_any w4 F dk _ Hb4.out.disk)
          have hsu := sync_up hdn hlf
          have Hsu := Lib.hid hsu
          rw [hsu] at HS
          clear hsu hcut
          go_wp2_with fail
          refine HS.out.mono ?_
          rintro e' w6 ⟨rfl, hd6, hk6⟩
          have hf := open_done Hb4.out HBE.out hdn hlf (by rw [Hsu.out]; exact hd6) hk6
          have HF := Lib.hid (Hr.out (.returned (.tuple #[.pointer (some ⟨a, 0, none⟩), .int .i64 0])) w6 ⟨a, ha9, rfl, hf.1, Hk4.out.trans hf.2 (fun _ _ h => h)⟩)
          clear hd6 hk6 hf HS
          go_wp2_with fail
          exact HF.out
        · have i2 : ¬ (N : Int) > 0 := by omega
          have HF := Lib.hid (Hr.out (.returned (.tuple #[.pointer (some ⟨a, 0, none⟩), .int .i64 0])) w4 ⟨a, ha9, rfl, open_none Hb4.out HBE.out hdn hlf (by rw [HN.out]; omega), Hk4.out⟩)
          clear h0 hcut
          go_wp2_with fail
          exact HF.out
end
end
section
section
open Go.RowKit Go.Shelf
theorem ans_none (W : World) : AnsT [] (.iface 137 (.slice none 0 0)) W := .inr ⟨none, 0, 0, [], rfl, SlE.nil _ _, Nat.zero_le _, Nat.le_refl _, by decide, rfl⟩
set_option maxRecDepth 8000 in
set_option maxHeartbeats 4000000 in
theorem harm_any (w : World) (F : Nat → Prop) (h a dk : Nat) (d : Dk) (b : Bk) (sh : List Shp) (hh : Hs w F h a dk d b sh) (B : Nat) (A1 : Option Addr) (n1 c1 : Nat) (A2 : Option Addr) (n2 c2 : Nat) (ws : List (List UInt8)) (v : Int) (hA : ArgsW B w A1 n1 c1 A2 n2 c2 ws [v]) (hv0 : 0 < v) (hv1 : v < 1000000000000) :
    Calls Tryz.prog 112 #[.pointer (some ⟨h, 0, none⟩), .agg #[.slice A1 n1 c1, .slice A2 n2 c2]] w fun e w' => ∃ r, e = .returned r ∧ AnsT [] r w' ∧ Hs w' F h a dk (d.arm v) b sh ∧ Kx F w w' := by
  refine calls_cps ?_
  intro R hR
  obtain ⟨w1, hw1⟩ : ∃ w1, w.alloc (.cells #[.slice A1 n1 c1, .slice A2 n2 c2] 76) = w1 := ⟨_, rfl⟩
  have hbx := heap_alloc_new w (.cells #[.slice A1 n1 c1, .slice A2 n2 c2] 76)
  have hbl := below_new w (.cells #[.slice A1 n1 c1, .slice A2 n2 c2] 76)
  rw [hw1] at hbx hbl
  have HW1 := Lib.hid hw1
  have hbd : Below w.heap.size w w1.drew := hbl.trans ((below_drewn (w := w1) 1).mono hbl.size)
  obtain ⟨x0, x1, -⟩ := cells2 hbx
  obtain ⟨A0, c0, -, q13, q14, -⟩ := (hh.below hbl).at
  have hA1 := hA.below hbl
  have l2 := hA.l2
  simp only [List.length_cons, List.length_nil, Nat.zero_add] at l2
  subst l2
  obtain ⟨bi, oi, x, rfl, hbi, hx, p0⟩ := hA1.s2.at1 (k := 0) (by omega)
  have hxv : x = v := by simpa using hx.symm
  subst hxv
  rw [Nat.add_zero] at p0
  have HH := Lib.hid (hh.below hbd)
  have HP := Lib.hid (darm_any w1.drew (HsG w1.drew F) dk d x HH.out.book.disk hv0 hv1)
  have HK0 := Lib.hid (kx_of_below (S := F) hbd)
  have Hr := Lib.hid hR.out
  clear hR hh hA hA1 hx hbx hbl hw1 hbd
  go_enter Tryz.func112, Tryz.ntmps112
  go_wp2_with fail
  rw [HW1.out]
  go_still_tail 8, (by kernel_rfl)
  go_wp2_with fail
  refine HP.out.mono ?_
  rintro e w2 ⟨rfl, hd2, hk2⟩
  obtain ⟨hb2, hk3⟩ := HH.out.book.disk1 hd2 hk2
  have hf := Hr.out (.returned (.iface 137 (.slice none 0 0))) w2 ⟨_, rfl, ans_none w2, HH.out.after hb2 hk3, HK0.out.trans (hk3.mono (T := F) fun j hj => hj.1) (fun _ _ h => h)⟩
  have HF := Lib.hid hf
  clear hd2 hk2 hb2 hk3 hf q13 q14 x0 x1 p0 Hr
  go_wp2
  exact HF.out
/-- What is on the disk behind a restart. -/
theorem rest_cases {d : Dk} {b : Bk} (h : Inv d b) (k : Nat) : ∃ E t, (d.restart (k : Int)).B = E.flatMap encE ++ t ∧ decP t = ([], 0) ∧ (∀ e ∈ E, enOk e = true) ∧ Jour E ∧ (E = b.E ∨ b.br = true ∧ ∃ l, E = b.E ++ [l] ∧ d.B = b.E.flatMap encE ++ encE l) := by
  obtain ⟨t, ht, h1, h2⟩ := h.fit
  unfold Dk.restart
  dsimp only
  rw [Int.toNat_natCast]
  cases hb : b.br
  · obtain ⟨rfl, -, hs⟩ := h1 hb
    refine ⟨b.E, [], ?_, dec_nil, h.ent, h.jour, .inl rfl⟩
    rw [List.take_of_length_le (by omega)]
    exact ht
  · obtain ⟨-, hs, l, rfl, hl, hr⟩ := h2 hb
    have hlen : d.B.length = (b.E.flatMap encE).length + (encE l).length := by rw [ht, List.length_append]
    have ht2 : d.B.take (d.safe + min k (d.B.length - d.safe)) = b.E.flatMap encE ++ (encE l).take (min k (encE l).length) := by
      rw [ht, hs, List.length_append, List.take_append, List.take_of_length_le (by omega)]
      congr 2
      omega
    by_cases hk : k < (encE l).length
    · exact ⟨b.E, (encE l).take (min k (encE l).length), ht2, dec_part hl (by omega), h.ent, h.jour, .inl rfl⟩
    · refine ⟨b.E ++ [l], [], ?_, dec_nil, fun e he => ?_, h.jour.snoc fun p => (refE_0 fun q => h.jour.now q).1 hr p, .inr ⟨rfl, l, rfl, ht⟩⟩
      · rw [ht2, List.take_of_length_le (by omega), List.flatMap_append, List.append_nil]
        simp
      · rcases List.mem_append.1 he with he | he
        · exact h.ent e he
        · rw [List.mem_singleton.1 he]
          exact hl
set_option maxRecDepth 8000 in
set_option maxHeartbeats 4000000 in
theorem hrest_any (w : World) (F : Nat → Prop) (h a dk : Nat) (d : Dk) (b : Bk) (sh : List Shp) (hh : Hs w F h a dk d b sh) (hi : Inv d b) (hu : Up w F) (B : Nat) (A1 : Option Addr) (n1 c1 : Nat) (A2 : Option Addr) (n2 c2 : Nat) (ws : List (List UInt8)) (k : Nat) (hk : k ≤ 1000000) (hA : ArgsW B w A1 n1 c1 A2 n2 c2 ws [(k : Int)]) :
    Calls Tryz.prog 113 #[.pointer (some ⟨h, 0, none⟩), .agg #[.slice A1 n1 c1, .slice A2 n2 c2]] w fun e w' => ∃ r, e = .returned r ∧ AnsT [] r w' ∧ (∃ a' E, Hs w' F h a' dk (dskOf E) ⟨E, false⟩ sh ∧ (∀ e ∈ E, enOk e = true) ∧ Jour E ∧ (E = b.E ∨ b.br = true ∧ ∃ l, E = b.E ++ [l] ∧ d.B = b.E.flatMap encE ++ encE l)) ∧ Kx F w w' := by
  refine calls_cps ?_
  intro R hR
  obtain ⟨w1, hw1⟩ : ∃ w1, w.alloc (.cells #[.slice A1 n1 c1, .slice A2 n2 c2] 76) = w1 := ⟨_, rfl⟩
  have hbx := heap_alloc_new w (.cells #[.slice A1 n1 c1, .slice A2 n2 c2] 76)
  have hbl := below_new w (.cells #[.slice A1 n1 c1, .slice A2 n2 c2] 76)
  rw [hw1] at hbx hbl
  have HW1 := Lib.hid hw1
  have hbd : Below w.heap.size w w1.drew := hbl.trans ((below_drewn (w := w1) 1).mono hbl.size)
  obtain ⟨x0, x1, -⟩ := cells2 hbx
  obtain ⟨A0, c0, -, q13, q14, -⟩ := (hh.below hbl).at
  have hA1 := hA.below hbl
  have l2 := hA.l2
  simp only [List.length_cons, List.length_nil, Nat.zero_add] at l2
  subst l2
  obtain ⟨bi, oi, x, rfl, hbi, hx, p0⟩ := hA1.s2.at1 (k := 0) (by omega)
  have hxv : x = (k : Int) := by simpa using hx.symm
  subst hxv
  rw [Nat.add_zero] at p0
  have HH := Lib.hid (hh.below hbd)
  have HU := Lib.hid (up_G (hu.below hbd))
  have HP := Lib.hid (drestart_any w1.drew (HsG w1.drew F) dk d k HH.out.book.disk hk)
  have HK0 := Lib.hid (kx_of_below (S := F) hbd)
  have Hr := Lib.hid hR.out
  have HC := Lib.hid (rest_cases hi k)
  clear hR hh hA hA1 hx hbx hbl hw1 hbd hi hu
  go_enter Tryz.func113, Tryz.ntmps113
  go_wp2_with fail
  rw [HW1.out]
  go_still_tail 8, (by kernel_rfl)
  go_wp2_with fail
  refine HP.out.mono ?_
  rintro e w2 ⟨rfl, hd2, hk2⟩
  obtain ⟨hb2, hk3⟩ := HH.out.book.disk1 hd2 hk2
  have hh2 := HH.out.after hb2 hk3
  obtain ⟨A3, c3, -, r13, -, -⟩ := hh2.at
  obtain ⟨E, t, e1, e2, e3, e4, e5⟩ := HC.out
  have HO := Lib.hid (open_any w2 (HsG w1.drew F) dk _ E t hd2 (HU.out.kx hk3) e1 e2 e3 e4 rfl rfl)
  have HK3 := Lib.hid hk3
  have HE := Lib.hid (show (∀ e ∈ E, enOk e = true) ∧ Jour E ∧ (E = b.E ∨ b.br = true ∧ ∃ l, E = b.E ++ [l] ∧ d.B = b.E.flatMap encE ++ encE l) from ⟨e3, e4, e5⟩)
  clear hd2 hk2 hb2 hk3 hh2 e1 e2 e3 e4 e5 q13 q14 x0 x1 p0 HC
  go_wp2_with fail
  refine HO.out.mono ?_
  rintro e w3 ⟨a2, -, rfl, hb3, hk4⟩
  have hk5 : Kx (HsG w1.drew F) w1.drew w3 := HK3.out.trans hk4 (fun _ _ h => h)
  obtain ⟨C, h1, h2, h3, h4, A, c, h5, h6, h7⟩ := HH.out.cells
  have hC3 := (hk5.block _ (Array.getElem?_eq_some_iff.1 h1).1 (fun hn => (hn.2 _ _ h1).1 rfl)).trans h1
  have g14 : w3.cell? ⟨h, 14, none⟩ = some (.pointer (some ⟨a, 0, none⟩)) := by rw [cell_of_row _ _ 14 _ _ (0, 0) hC3]; exact h4
  have gf : w3.frozen? ⟨h, 14, none⟩ = false := by simp [World.frozen?, hC3]
  have hset14 := hset (i := 14) (v := .pointer (some ⟨a2, 0, none⟩)) hC3
  have hrow : w3.ownsRow 0 103 4 (.slice A sh.length c) sh.length (sh.flatMap Shp.enc) := own_heap h6 (fun g hg => by
    obtain ⟨D, hD⟩ := own_blk h6 hg
    exact hk5.block g (Array.getElem?_eq_some_iff.1 hD).1 (fun hn => (hn.2 _ _ hD).2 rfl))
  have hlt : 14 < C.size := (Array.getElem?_eq_some_iff.1 h4).1
  have hbd4 : Bd (w3.setCell ⟨h, 14, none⟩ (.pointer (some ⟨a2, 0, none⟩))) (HsG w1.drew F) a2 dk (dskOf E) ⟨E, false⟩ := hb3.keepT (kx_put w3 h 14 _) (fun j D ty e hD hb => by
    subst e
    rw [hC3] at hD
    simp only [Option.some.injEq, Obj.cells.injEq] at hD
    rw [← hD.2.1] at hb
    revert hb
    unfold BkTy
    decide) (fun j es cl hm e => by
    subst e
    rw [hC3] at hm
    cases hm)
  have hfin := Hr.out (.returned (.iface 137 (.slice none 0 0))) (w3.setCell ⟨h, 14, none⟩ (.pointer (some ⟨a2, 0, none⟩))) ⟨_, rfl, ans_none _, ⟨a2, E, ⟨hbd4.sub fun j hj _ => hj.1, HH.out.own, _, hset14, by rw [Array.getElem?_setIfInBounds_ne (by decide)]; exact h2, by rw [Array.getElem?_setIfInBounds_ne (by decide)]; exact h3, by rw [Array.getElem?_setIfInBounds_self_of_lt hlt], A, c, by rw [Array.getElem?_setIfInBounds_ne (by decide)]; exact h5, own_setH hrow hC3 (by decide), h7⟩, HE.out⟩, (HK0.out.trans (hk5.mono (T := F) fun j hj => hj.1) (fun _ _ h => h)).trans (kx_put w3 h 14 _) (fun j _ e => e ▸ HH.out.own)⟩
  have HF := Lib.hid hfin
  clear hb3 hk4 hk5 h1 h2 h3 h4 h5 h6 h7 hC3 hset14 hrow hlt hbd4 hfin Hr
  go_wp2
  exact HF.out
end
end
section
section
open Go.RowKit Go.Shelf
/-- Few small entries, also the one that is only on the disk. -/
def SmB (d : Dk) (b : Bk) (m : Nat) : Prop := (∀ e ∈ b.E, e.length ≤ 16) ∧ b.E.length ≤ m ∧ ∀ l, enOk l = true → d.B = b.E.flatMap encE ++ encE l → l.length ≤ 16
theorem SmB.mono {d : Dk} {b : Bk} {m n : Nat} (h : SmB d b m) (k : m ≤ n) : SmB d b n := ⟨h.1, Nat.le_trans h.2.1 k, h.2.2⟩
/-- What posting an entry does: nothing, or its bytes are on the disk. -/
theorem post_three {d : Dk} {b : Bk} (h : Inv d b) (l : List Mv) :
    ((postB d b l).1 = d ∧ (postB d b l).2.1 = b ∧ ((postB d b l).2.2 = 1 ∨ (postB d b l).2.2 = 5 ∨ (postB d b l).2.2 = 8 ∨ (postB d b l).2.2 = 9 ∨ (postB d b l).2.2 = 10)) ∨
    (b.br = false ∧ enOk l = true ∧ (postB d b l).1.B = b.E.flatMap encE ++ encE l ∧ ((postB d b l).2 = (⟨b.E ++ [l], false⟩, 0) ∨ (postB d b l).2 = (⟨b.E, true⟩, 11))) := by
  by_cases hw : b.would l ≠ 0
  · left
    have e : postB d b l = (d, b, b.would l) := by unfold postB; rw [if_pos hw]
    rw [e]
    refine ⟨rfl, rfl, ?_⟩
    have := would_bd b l
    dsimp only
    omega
  · obtain ⟨hbr, hen, href⟩ := would_ok (Classical.not_not.1 hw)
    obtain ⟨t, ht, h1, _⟩ := h.fit
    obtain ⟨rfl, hdn, hsf⟩ := h1 hbr
    rw [List.append_nil] at ht
    by_cases hr : 65536 - d.B.length < (encE l).length
    · left
      have happ : d.app (encE l) = (d, 9) := by
        unfold Dk.app
        rw [hdn, if_neg (by simp), if_pos hr]
      have e : postB d b l = (d, b, 9) := by
        unfold postB
        rw [if_neg hw, happ]
        simp
      rw [e]
      exact ⟨rfl, rfl, by simp⟩
    · right
      refine ⟨hbr, hen, ?_⟩
      obtain ⟨D, hD⟩ : ∃ D : Dk, D = { d with B := d.B ++ encE l } := ⟨_, rfl⟩
      have happ : d.app (encE l) = (D.act.1, if D.act.2 then 11 else 0) := by
        unfold Dk.app
        rw [hdn, if_neg (by simp), if_neg hr, hD, hdn]
      have hDB : D.B = b.E.flatMap encE ++ encE l := by rw [hD, ← ht]
      have hDd : D.down = false := by rw [hD]; exact hdn
      have a1 := (act_B D).1
      have a4 := act_down D hDd
      cases hact : D.act.2
      · rw [hact] at a4 happ
        have s1 := (act_B D.act.1).1
        cases hs : D.act.1.act.2
        · have e : postB d b l = ({ D.act.1.act.1 with safe := D.act.1.act.1.B.length }, ⟨b.E ++ [l], b.br⟩, 0) := by
            unfold postB
            rw [if_neg hw, happ]
            unfold Dk.sync
            rw [a4, hs]
            simp
          rw [e, hbr]
          exact ⟨by show D.act.1.act.1.B = _; rw [s1, a1, hDB], .inl rfl⟩
        · have e : postB d b l = (D.act.1.act.1, ⟨b.E, true⟩, 11) := by
            unfold postB
            rw [if_neg hw, happ]
            unfold Dk.sync
            rw [a4, hs]
            simp
          rw [e]
          exact ⟨by show D.act.1.act.1.B = _; rw [s1, a1, hDB], .inr rfl⟩
      · rw [hact] at happ
        have e : postB d b l = (D.act.1, ⟨b.E, true⟩, 11) := by
          unfold postB
          rw [if_neg hw, happ]
          simp
        rw [e]
        exact ⟨by show D.act.1.B = _; rw [a1, hDB], .inr rfl⟩
theorem enc_one {l k : List Mv} (hl : enOk l = true) (hk : enOk k = true) (h : encE l = encE k) : l = k := by
  have h1 := dec_entry hl []
  rw [h, dec_entry hk [], Prod.mk.injEq] at h1
  exact h1.1.symm
theorem SmB.post {d : Dk} {b : Bk} {m : Nat} (h : SmB d b m) (hi : Inv d b) {l : List Mv} (hl : l.length ≤ 16) : SmB (postB d b l).1 (postB d b l).2.1 (m + 1) := by
  rcases post_three hi l with ⟨e1, e2, -⟩ | ⟨hbr, hen, hB, e | e⟩
  · rw [e1, e2]
    exact h.mono (Nat.le_succ _)
  · have e1 : (postB d b l).2.1 = ⟨b.E ++ [l], false⟩ := by rw [e]
    unfold SmB
    rw [e1, hB]
    dsimp only
    refine ⟨fun x hx => ?_, by rw [List.length_append, List.length_singleton]; have := h.2.1; omega, fun k hk hx => ?_⟩
    · rcases List.mem_append.1 hx with hx | hx
      · exact h.1 x hx
      · rw [List.mem_singleton.1 hx]
        exact hl
    · exfalso
      have h1 := congrArg List.length hx
      have h2 := enc_pos k
      rw [List.length_append, List.length_append, List.flatMap_append, List.length_append, List.flatMap_cons, List.flatMap_nil, List.append_nil] at h1
      omega
  · have e1 : (postB d b l).2.1 = ⟨b.E, true⟩ := by rw [e]
    unfold SmB
    rw [e1, hB]
    dsimp only
    refine ⟨h.1, Nat.le_trans h.2.1 (Nat.le_succ _), fun k hk hx => ?_⟩
    rw [← enc_one hen hk (List.append_cancel_left hx)]
    exact hl
/-- Whether a reply tells an entry. -/
def EntB (t : List UInt8) : Bool := decide (6 < t.length) && decide (t.take 6 = [101, 110, 116, 114, 121, 32])
theorem bang_ent (e : Int) : EntB (bangL e) = false := by
  unfold EntB bangL
  rw [Bool.and_eq_false_iff]
  right
  rw [decide_eq_false_iff_not]
  intro h
  simp at h
theorem post_ent (n : Int) : EntB (linesL [rowL entW [n]]) = true := by
  have e : linesL [rowL entW [n]] = [101, 110, 116, 114, 121, 32] ++ (Lib.itoa n ++ [10]) := by
    unfold linesL rowL entW
    simp
  have h1 : 6 < ([101, 110, 116, 114, 121, 32] ++ (Lib.itoa n ++ [10])).length := by simp
  have h2 : ([101, 110, 116, 114, 121, 32] ++ (Lib.itoa n ++ [10])).take 6 = [101, 110, 116, 114, 121, 32] := rfl
  unfold EntB
  rw [e, decide_eq_true h1, decide_eq_true h2]
  rfl
/-- What a line of the stock does. -/
def Stp (d : Dk) (b : Bk) (t : List UInt8) (d' : Dk) (b' : Bk) : Prop :=
  (d' = d ∧ b' = b ∧ EntB t = false ∧ t ≠ bangL 11) ∨ ∃ l, l.length ≤ 16 ∧ d' = (postB d b l).1 ∧ b' = (postB d b l).2.1 ∧ t = postT (postB d b l)
theorem stp_bang {d : Dk} {b : Bk} {e : Int} (h : bangL e ≠ bangL 11) : Stp d b (bangL e) d b := .inl ⟨rfl, rfl, bang_ent e, h⟩
theorem postT_bang {P : Dk × Bk × Int} (h : P.2.2 ≠ 0) : postT P = bangL P.2.2 := by
  unfold postT eitherT
  rw [if_neg h]
theorem stp_cases {d d' : Dk} {b b' : Bk} {t : List UInt8} (hi : Inv d b) (h : Stp d b t d' b') :
    (b' = b ∧ EntB t = false ∧ t ≠ bangL 11) ∨ (EntB t = true ∧ t ≠ bangL 11 ∧ b.br = false ∧ ∃ l, b' = ⟨b.E ++ [l], false⟩) ∨ (EntB t = false ∧ t = bangL 11 ∧ b.br = false ∧ b' = ⟨b.E, true⟩) := by
  rcases h with ⟨rfl, rfl, h1, h2⟩ | ⟨l, hl, rfl, rfl, rfl⟩
  · exact .inl ⟨rfl, h1, h2⟩
  · rcases post_three hi l with ⟨e1, e2, e3⟩ | ⟨hbr, hen, hB, e | e⟩
    · left
      have h0 : (postB d b l).2.2 ≠ 0 := by omega
      rw [postT_bang h0]
      refine ⟨e2, bang_ent _, ?_⟩
      rcases e3 with e3 | e3 | e3 | e3 | e3 <;> (rw [e3]; decide +kernel)
    · right
      left
      have e0 : postT (postB d b l) = linesL [rowL entW [((b.E ++ [l]).length : Int) - 1]] := by
        unfold postT eitherT
        rw [e, if_pos rfl]
      rw [e0, e]
      refine ⟨post_ent _, fun hx => ?_, hbr, l, rfl⟩
      have h1 := post_ent (((b.E ++ [l]).length : Int) - 1)
      rw [hx, bang_ent] at h1
      cases h1
    · right
      right
      have h0 : (postB d b l).2.2 ≠ 0 := by
        rw [e]
        exact (by decide : (11 : Int) ≠ 0)
      rw [postT_bang h0, e]
      exact ⟨bang_ent _, rfl, hbr, rfl⟩
theorem stp_inv {d d' : Dk} {b b' : Bk} {t : List UInt8} {m : Nat} (hi : Inv d b) (hs : SmB d b m) (h : Stp d b t d' b') : Inv d' b' ∧ SmB d' b' (m + 1) := by
  rcases h with ⟨rfl, rfl, -⟩ | ⟨l, hl, rfl, rfl, -⟩
  · exact ⟨hi, hs.mono (Nat.le_succ _)⟩
  · exact ⟨hi.post l, hs.post hi hl⟩
end
end
end Go.Proofs.YtndcijkgaadpgaaGreatDoor
