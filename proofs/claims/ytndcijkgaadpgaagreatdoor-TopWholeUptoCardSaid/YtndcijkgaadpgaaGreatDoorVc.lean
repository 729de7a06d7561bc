/-
  booking, entries; conditions: sizes, the cells hold a house whose disk never goes down. entries, houses; conditions: the cells hold a house whose disk never goes down, the tables lie below a block.
-/
import Derived.Test.YtndcijkgaadpgaaGreatDoorUz
import Derived.Test.YtndcijkgaadpgaaGreatDoorLds
import Derived.Test.YtndcijkgaadpgaaGreatDoorVb
namespace Go.Proofs.YtndcijkgaadpgaaGreatDoor
section
section
open Go.RowKit Go.Shelf
/-- Whether a line is one of the stock alone; n: how long it is. -/
def bookW (n : Nat) : List (List UInt8) → Bool
  | [] => false
  | nm :: ws => if nm = postW then decide (ws.length ≤ 32) else if nm = revW then true else if nm = balaW then true else if nm = lotsW then true else if nm = sawW then decide (ws.length = 3) && decide (n < 12) else decide (nm = shapeW)
def bookB (s : ByteArray) : Bool := decide ([] ∉ spl (fstL s.data.toList)) && bookW s.size (spl (fstL s.data.toList))
theorem bookB_no {s : ByteArray} (h : [] ∈ spl (fstL s.data.toList)) : bookB s = false := by
  unfold bookB
  rw [decide_eq_false (fun hn => hn h)]
  rfl
theorem bookB_yes {s : ByteArray} {nm : List UInt8} {ws : List (List UInt8)} (h : [] ∉ spl (fstL s.data.toList)) (hs : spl (fstL s.data.toList) = nm :: ws) : bookB s = bookW s.size (nm :: ws) := by
  unfold bookB
  rw [decide_eq_true h, hs]
  rfl
set_option maxRecDepth 8000 in
set_option maxHeartbeats 8000000 in
theorem booking_any (s : ByteArray) (w : World) (hs : s.size ≤ 2000000) :
    Calls Tryz.prog 9 #[.string s] w fun e w' => e = .returned (.bool (bookB s)) ∧ Below w.heap.size w w' := by
  refine calls_cps ?_
  intro R hR
  have Hr := Lib.hid (fun v w' (hv : v = bookB s) hb => hR.out (.returned (.bool v)) w' ⟨by rw [hv], hb⟩)
  have HF1 := Lib.hid (rfirst_any s w (by omega))
  obtain ⟨f, hf⟩ : ∃ f, strB (fstL s.data.toList) = f := ⟨_, rfl⟩
  have hfl : f.data.toList = fstL s.data.toList := by rw [← hf]; rfl
  have hfs : f.size ≤ 2000000 := by
    rw [ba_size, hfl]
    have := fst_len s.data.toList
    rw [← ba_size] at this
    omega
  rw [hf] at HF1
  clear hR hf
  go_enter Tryz.func9, Tryz.ntmps9
  go_wp2_with fail
  refine HF1.out.mono ?_
  rintro e w1 ⟨rfl, rfl⟩
  go_wp2_with fail
  refine rwords_any f w hfs _ ?_ ?_
  · intro hin w1 hb1
    have hf := Hr.out false w1 (bookB_no (by rw [← hfl]; exact hin)).symm hb1
    have HF := Lib.hid hf
    clear hf Hr hin hb1 HF1
    go_wp2
    exact HF.out
  · intro hnin A c w1 hx hb1
    obtain ⟨nm, ws, hsp⟩ : ∃ nm ws, spl f.data.toList = nm :: ws := by
      cases h : spl f.data.toList with
      | nil => exact absurd h (spl_ne _)
      | cons a b => exact ⟨a, b, rfl⟩
    have hbk := bookB_yes (s := s) (nm := nm) (ws := ws) (by rw [← hfl]; exact hnin) (by rw [← hfl]; exact hsp)
    rw [hsp] at hx ⊢
    obtain ⟨n, hn⟩ : ∃ n, (nm :: ws).length = n := ⟨_, rfl⟩
    rw [hn] at hx ⊢
    obtain ⟨b0, o0, y, rfl, hb0, hy, q0⟩ := strs_at hx (k := 0) (by rw [← hn]; simp)
    have hyn : y.toList = nm := by
      unfold strL at hy
      simp only [List.map_cons, List.getElem?_cons_zero, Option.some.injEq] at hy
      rw [← hy, Lib.toList_data]
    rw [Nat.add_zero] at q0
    have hn1 : 0 < n := by rw [← hn]; simp
    have hnw : n = ws.length + 1 := by rw [← hn]; rfl
    rw [hbk] at Hr
    have Hb1 := Lib.hid hb1
    have Hnw := Lib.hid hnw
    clear hx hb1 hnin hsp hbk hy hn HF1 hfl hnw
    by_cases e1 : nm = postW
    · have p1 : (y.toList == [112, 111, 115, 116]) = true := by rw [hyn, e1]; rfl
      have p2 : (y.toList == [114, 101, 118, 101, 114, 115, 101]) = false := by rw [hyn, e1]; rfl
      have p3 : (y.toList == [98, 97, 108, 97, 110, 99, 101]) = false := by rw [hyn, e1]; rfl
      have p4 : (y.toList == [108, 111, 116, 115]) = false := by rw [hyn, e1]; rfl
      have p5 : (y.toList == [115, 97, 119]) = false := by rw [hyn, e1]; rfl
      have p6 : (y.toList == [115, 104, 97, 112, 101]) = false := by rw [hyn, e1]; rfl
      by_cases h33 : n ≤ 33
      · have i1 : (n : Int) ≤ 33 := by omega
        have hf := Hr.out true w1 (by rw [bookW, if_pos e1, decide_eq_true (by have := Hnw.out; omega)]) Hb1.out
        have HF := Lib.hid hf
        clear hf Hr e1 hyn h33
        go_wp2
        exact HF.out
      · have i1 : ¬ (n : Int) ≤ 33 := by omega
        have i1' : decide ((n : Int) ≤ 33) = false := decide_eq_false i1
        have hf := Hr.out false w1 (by rw [bookW, if_pos e1, decide_eq_false (by have := Hnw.out; omega)]) Hb1.out
        have HF := Lib.hid hf
        clear hf Hr e1 hyn h33
        go_wp2
        exact HF.out
    have p1 : (y.toList == [112, 111, 115, 116]) = false := by rw [hyn, beq_eq_false_iff_ne]; exact e1
    by_cases e2 : nm = revW
    · have p2 : (y.toList == [114, 101, 118, 101, 114, 115, 101]) = true := by rw [hyn, e2]; rfl
      have hf := Hr.out true w1 (by rw [bookW, if_neg e1, if_pos e2]) Hb1.out
      have HF := Lib.hid hf
      clear hf Hr e1 e2 hyn
      go_wp2
      exact HF.out
    have p2 : (y.toList == [114, 101, 118, 101, 114, 115, 101]) = false := by rw [hyn, beq_eq_false_iff_ne]; exact e2
    by_cases e3 : nm = balaW
    · have p3 : (y.toList == [98, 97, 108, 97, 110, 99, 101]) = true := by rw [hyn, e3]; rfl
      have hf := Hr.out true w1 (by rw [bookW, if_neg e1, if_neg e2, if_pos e3]) Hb1.out
      have HF := Lib.hid hf
      clear hf Hr e1 e2 e3 hyn
      go_wp2
      exact HF.out
    have p3 : (y.toList == [98, 97, 108, 97, 110, 99, 101]) = false := by rw [hyn, beq_eq_false_iff_ne]; exact e3
    by_cases e4 : nm = lotsW
    · have p4 : (y.toList == [108, 111, 116, 115]) = true := by rw [hyn, e4]; rfl
      have hf := Hr.out true w1 (by rw [bookW, if_neg e1, if_neg e2, if_neg e3, if_pos e4]) Hb1.out
      have HF := Lib.hid hf
      clear hf Hr e1 e2 e3 e4 hyn
      go_wp2
      exact HF.out
    have p4 : (y.toList == [108, 111, 116, 115]) = false := by rw [hyn, beq_eq_false_iff_ne]; exact e4
    by_cases e5 : nm = sawW
    · have p5 : (y.toList == [115, 97, 119]) = true := by rw [hyn, e5]; rfl
      have p6 : (y.toList == [115, 104, 97, 112, 101]) = false := by rw [hyn, e5]; rfl
      by_cases h4 : n = 4
      · have i1 : ((n : Int) == 4) = true := by rw [beq_iff_eq]; omega
        by_cases h12 : s.size < 12
        · have i2 : (s.size : Int) < 12 := by omega
          have hf := Hr.out true w1 (by rw [bookW, if_neg e1, if_neg e2, if_neg e3, if_neg e4, if_pos e5, decide_eq_true (by have := Hnw.out; omega), decide_eq_true h12]; rfl) Hb1.out
          have HF := Lib.hid hf
          clear hf Hr e1 e2 e3 e4 e5 hyn h4 h12
          go_wp2
          exact HF.out
        · have i2 : ¬ (s.size : Int) < 12 := by omega
          have i2' : decide ((s.size : Int) < 12) = false := decide_eq_false i2
          have hf := Hr.out false w1 (by rw [bookW, if_neg e1, if_neg e2, if_neg e3, if_neg e4, if_pos e5, decide_eq_false h12, Bool.and_false]) Hb1.out
          have HF := Lib.hid hf
          clear hf Hr e1 e2 e3 e4 e5 hyn h4 h12
          go_wp2
          exact HF.out
      · have i1 : ((n : Int) == 4) = false := by rw [beq_eq_false_iff_ne]; omega
        have hf := Hr.out false w1 (by rw [bookW, if_neg e1, if_neg e2, if_neg e3, if_neg e4, if_pos e5, decide_eq_false (by have := Hnw.out; omega), Bool.false_and]) Hb1.out
        have HF := Lib.hid hf
        clear hf Hr e1 e2 e3 e4 e5 hyn h4
        go_wp2
        exact HF.out
    have p5 : (y.toList == [115, 97, 119]) = false := by rw [hyn, beq_eq_false_iff_ne]; exact e5
    by_cases e6 : nm = shapeW
    · have p6 : (y.toList == [115, 104, 97, 112, 101]) = true := by rw [hyn, e6]; rfl
      have hf := Hr.out true w1 (by rw [bookW, if_neg e1, if_neg e2, if_neg e3, if_neg e4, if_neg e5, decide_eq_true e6]) Hb1.out
      have HF := Lib.hid hf
      clear hf Hr e1 e2 e3 e4 e5 e6 hyn
      go_wp2
      exact HF.out
    · have p6 : (y.toList == [115, 104, 97, 112, 101]) = false := by rw [hyn, beq_eq_false_iff_ne]; exact e6
      have hf := Hr.out false w1 (by rw [bookW, if_neg e1, if_neg e2, if_neg e3, if_neg e4, if_neg e5, decide_eq_false e6]) Hb1.out
      have HF := Lib.hid hf
      clear hf Hr e1 e2 e3 e4 e5 e6 hyn
      go_wp2
      exact HF.out
/-- A line of the stock, whatever it is. -/
theorem bline_any (w : World) (F : Nat → Prop) (h : Nat) (b : Bk) (m : Nat) (hh : HSt w F h b m) (hm90 : m ≤ 90) (hu : Up w F) (s : ByteArray) (hs : s.size < 4294967281) (hbk : bookB s = true) (bg : Nat) (hg : Gl bg w) (hb : bg ≤ w.heap.size) (hF : ∀ j, F j → bg ≤ j) :
    Calls Tryz.prog 7 #[.pointer (some ⟨h, 0, none⟩), .string s] w fun e w' => (∃ t : List UInt8, e = .returned (.string ⟨t.toArray⟩)) ∧ (∃ b', HSt w' F h b' (m + 1)) ∧ Kx F w w' := by
  have fin : ∀ (e : Ending) (w' : World), (∃ t : List UInt8, e = .returned (.string ⟨t.toArray⟩) ∧ LQ w F h (m + 1) (fun _ _ => True) t w') → (∃ t : List UInt8, e = .returned (.string ⟨t.toArray⟩)) ∧ (∃ b', HSt w' F h b' (m + 1)) ∧ Kx F w w' := fun e w' ⟨t, h1, b', _, h2, h3⟩ => ⟨⟨t, h1⟩, ⟨b', h2⟩, h3⟩
  unfold bookB at hbk
  rw [Bool.and_eq_true, decide_eq_true_eq] at hbk
  obtain ⟨hne, hbk⟩ := hbk
  by_cases hlen : 4096 < (fstL s.data.toList).length
  · obtain ⟨q0, hl⟩ := hh.made
    refine (line_long w h q0 hl s hs hlen bg hg hb).mono fun e w' ⟨h1, h2⟩ => ⟨⟨_, h1⟩, ⟨b, (hh.below h2).mono (Nat.le_succ _)⟩, kx_of_below h2⟩
  have hlen : (fstL s.data.toList).length ≤ 4096 := by omega
  cases hsp : spl (fstL s.data.toList) with
  | nil => exact absurd hsp (spl_ne _)
  | cons nm ws =>
    rw [hsp] at hbk
    rw [bookW] at hbk
    by_cases e1 : nm = postW
    · rw [if_pos e1, decide_eq_true_eq] at hbk
      subst e1
      exact (line_post w F h b m hh hm90 hu s hs ws hne hlen bg hg hb hF _ hsp (by omega) (fun _ => trivial) (fun _ => trivial)).mono fin
    rw [if_neg e1] at hbk
    by_cases e2 : nm = revW
    · subst e2
      exact (line_rev w F h b m hh hm90 hu s hs ws hne hlen bg hg hb hF _ hsp (fun _ => trivial) (fun _ _ _ _ => trivial)).mono fin
    rw [if_neg e2] at hbk
    by_cases e3 : nm = balaW
    · subst e3
      exact (line_bal w F h b m hh hm90 hu s hs ws hne hlen bg hg hb hF _ hsp (fun _ => trivial) (fun _ _ _ => trivial)).mono fin
    rw [if_neg e3] at hbk
    by_cases e4 : nm = lotsW
    · subst e4
      exact (line_lots w F h b m hh hm90 hu s hs ws hne hlen bg hg hb hF _ hsp (fun _ => trivial) (fun _ _ _ _ => trivial)).mono fin
    rw [if_neg e4] at hbk
    by_cases e5 : nm = sawW
    · subst e5
      exact (line_saw w F h b m hh hm90 hu s hs ws hne hlen bg hg hb hF _ hsp (fun _ _ => trivial)).mono fin
    rw [if_neg e5, decide_eq_true_eq] at hbk
    subst hbk
    exact (line_shape w F h b m hh hm90 hu s hs ws hne hlen bg hg hb hF _ hsp (fun _ => trivial)).mono fin
end
end
section
section
open Go.RowKit Go.Shelf
theorem nm_plain : ∀ (b : Bool) (l : List UInt8), nmL b l = true → ∀ c ∈ l, c ≠ 10 ∧ c ≠ 32
  | _, [], _, c, hc => by cases hc
  | b, a :: r, h, c, hc => by
    rw [nmL, Bool.and_eq_true, Bool.or_eq_true, Bool.and_eq_true] at h
    rcases List.mem_cons.1 hc with rfl | hc
    · have key : 48 ≤ c.toNat := by
        rcases h.1 with h1 | h1
        · unfold lowB at h1
          rw [Bool.and_eq_true, decide_eq_true_eq] at h1
          omega
        · have h2 := h1.2
          unfold digB at h2
          rw [Bool.and_eq_true, decide_eq_true_eq] at h2
          omega
      constructor
      · intro e
        rw [e] at key
        revert key
        decide
      · intro e
        rw [e] at key
        revert key
        decide
    · exact nm_plain false r h.2 c hc
theorem name_plain {s : ByteArray} (h : nameB s = true) : ∀ c ∈ s.data.toList, c ≠ 10 ∧ c ≠ 32 := by
  unfold nameB at h
  rw [Bool.and_eq_true] at h
  exact nm_plain true _ h.2
theorem mvL_plain {m : Mv} (h : mvOk m = true) : ∀ c ∈ mvL m, c ≠ 10 := by
  unfold mvOk at h
  simp only [Bool.and_eq_true] at h
  obtain ⟨⟨⟨⟨⟨h1, h2⟩, h3⟩, -⟩, -⟩, -⟩ := h
  intro c hc
  unfold mvL at hc
  simp only [List.cons_append, List.mem_cons, List.mem_append] at hc
  rcases hc with rfl | ((hc | rfl | hc) | rfl | hc) | rfl | hc
  · decide
  · exact (name_plain h1 c hc).1
  · decide
  · exact (name_plain h2 c hc).1
  · decide
  · exact (name_plain h3 c hc).1
  · decide
  · exact (itoa_plain m.q c hc).2
theorem lineL_plain {e : List Mv} (h : enOk e = true) : ∀ c ∈ lineL e, c ≠ 10 := by
  unfold enOk at h
  simp only [Bool.and_eq_true, List.all_eq_true] at h
  intro c hc
  unfold lineL at hc
  rcases List.mem_append.1 hc with hc | hc
  · simp only [List.mem_cons, List.not_mem_nil, or_false] at hc
    rcases hc with rfl | rfl | rfl | rfl <;> decide
  · obtain ⟨m, hm, hc⟩ := List.mem_flatMap.1 hc
    exact mvL_plain (h.1.1 m hm) c hc
theorem lines_len : ∀ (E : List (List Mv)), (∀ e ∈ E, enOk e = true) → (linesL (E.map lineL)).length ≤ 10000 * E.length
  | [], _ => by simp [linesL]
  | e :: E, he => by
    have h1 := lines_len E fun x hx => he x (List.mem_cons_of_mem _ hx)
    have hz := mvZ_of (he e List.mem_cons_self)
    have h2 : ∀ (l : List Mv), (∀ m ∈ l, m.f.size ≤ 12 ∧ m.t.size ≤ 12 ∧ m.i.size ≤ 12 ∧ 1 ≤ m.q ∧ m.q ≤ 1000000000) → (l.flatMap mvL).length ≤ 100 * l.length := by
      intro l
      induction l with
      | nil => intro _; simp
      | cons m l ihl =>
        intro hm
        have h3 := ihl fun x hx => hm x (List.mem_cons_of_mem _ hx)
        have h4 := hm m List.mem_cons_self
        have h5 := Lib.itoa_length_le m.q (by omega) (by omega)
        have e1 := ba_size m.f
        have e2 := ba_size m.t
        have e3 := ba_size m.i
        rw [List.flatMap_cons, List.length_append, List.length_cons]
        simp only [mvL, List.length_append, List.length_cons, List.cons_append]
        omega
    have h3 := h2 e hz.2
    have h4 := hz.1
    unfold linesL at h1 ⊢
    rw [List.map_cons, List.flatMap_cons, List.length_append, List.length_cons, List.length_append, List.length_singleton]
    simp only [lineL, List.length_append, List.length_cons, List.length_nil] at h1 ⊢
    omega
set_option maxRecDepth 8000 in
set_option maxHeartbeats 4000000 in
theorem entries_any (w : World) (F : Nat → Prop) (h : Nat) (b : Bk) (m : Nat) (hh : HSt w F h b m) (hm90 : m ≤ 90) (bg : Nat) (hg : Gl bg w) (hb : bg ≤ w.heap.size) :
    Calls Tryz.prog 13 #[.pointer (some ⟨h, 0, none⟩)] w fun e w' => e = .returned (.int .i64 (b.E.length : Int)) ∧ Below w.heap.size w w' := by
  refine calls_cps ?_
  intro R hR
  obtain ⟨a, dk, sh, h1, h2, h3⟩ := hh
  have he : ∀ e ∈ b.E, enOk e = true := fun e he => (h3.ent e he).1
  have HB := Lib.hid (hbook_any w F h a dk _ b sh h1 (by have := h3.few; omega) he bg hg hb)
  obtain ⟨S, hS⟩ : ∃ S : ByteArray, (⟨(linesL (b.E.map lineL)).toArray⟩ : ByteArray) = S := ⟨_, rfl⟩
  have hSL : S.data.toList = linesL (b.E.map lineL) := by rw [← hS]
  have hSz : S.size ≤ 2000000 := by
    rw [ba_size, hSL]
    have := lines_len b.E he
    have := h3.few
    omega
  have hl : lnsL S.data.toList = b.E.map lineL := by
    rw [hSL]
    exact lns_lines _ fun l hl => by
      obtain ⟨e, hm, rfl⟩ := List.mem_map.1 hl
      exact lineL_plain (he e hm)
  have HL := Lib.hid (fun w => rlines_any S w hSz)
  rw [hS] at HB
  rw [hl, List.length_map] at HL
  have Hr := Lib.hid hR.out
  clear hR h1 h2 h3 he hS hSL hl hg
  go_enter Tryz.func13, Tryz.ntmps13
  go_wp2_with fail
  refine HB.out.mono ?_
  rintro e w1 ⟨rfl, hb1⟩
  have HB1 := Lib.hid hb1
  clear hb1
  go_wp2_with fail
  refine (HL.out w1).mono ?_
  rintro e w2 ⟨A, c, rfl, -, hb2⟩
  have hf := Hr.out _ _ ⟨rfl, HB1.out.trans (hb2.mono HB1.out.size)⟩
  have HF := Lib.hid hf
  clear hf hb2 Hr
  go_wp2
  exact HF.out
end
end
end Go.Proofs.YtndcijkgaadpgaaGreatDoor
