/-
  changes, places, refused: what an entry would do to balances; no condition but the sizes that each theorem states. name, entry, places: what an entry is and what it touches; no condition but the sizes that each theorem states. entry: whether moves are an entry; no condition but the sizes that each theorem states. places, HasPrefix, refused: why an entry is refused by balances; no condition but the sizes that each theorem states.
-/
import Derived.Test.YtndcijkgaadpgaaGreatDoorUc
import Derived.Lib.Strings
import Derived.BigQuiet
import Derived.Deep.QuietTactic
namespace Go.Proofs.YtndcijkgaadpgaaGreatDoor
section
section
open Go.RowKit Go.Maps
set_option maxRecDepth 8000 in
/-- The operations of 'm[k] op= v' over a map, for a region that draws their order. -/
theorem BalD.ops {W : World} {b n : Nat} {D : DataW Unit} {f : Pl → Int} {a i : ByteArray} {T : TypeId} (h : BalD W b n D f) (hT : Tryz.prog.underlying T = some (.map 158 3)) (hp : PlZ (a, i)) (hn : n < 1000000000) {x : Int} (hx : i64B x) :
    ∃ (st : Nat) (w1 w2 : World), (Instr.lookup T (.map (some b)) (.agg #[.string a, .string i]) false).run Tryz.prog W.drew = .ok (.int .i64 (f (a, i))) W.drew ∧
      (Instr.mapEntry T (.map (some b)) (.agg #[.string a, .string i])).run Tryz.prog W.drew = .ok (.tuple #[.int .i64 (f (a, i)), .int .i64 st]) w1 ∧
      (Instr.lookup T (.map (some b)) (.agg #[.string a, .string i]) false).run Tryz.prog w1 = .ok (.int .i64 (f (a, i))) w1 ∧
      (Instr.entryStore T (.map (some b)) (.int .i64 st) (.int .i64 x)).run Tryz.prog w1 = .ok () w2 ∧
      Hid (∃ D2, BalD w2 b (n + 1) D2 (updF f (a, i) x)) ∧ Hid (W.grownBy w1 (some b)) ∧ Hid (W.grownBy w2 (some b)) := by
  have h0 : BalD W.drew b n D f := h
  have hnm : n < maxLen := by unfold maxLen; omega
  obtain ⟨st, w1, he, ⟨D1, hD1⟩, ht1, hst⟩ := h0.entry hT hp hnm
  obtain ⟨w2, hs2, hD2, ht2⟩ := hst x hx
  have l0 := h0.look hT hp
  have l1 := hD1.look hT hp
  have g1 : W.grownBy w1 (some b) := let g := ht1.grown; ⟨g.os, g.tape, g.output, g.size, g.block⟩
  have g2 : W.grownBy w2 (some b) := let g := ht2.grown; ⟨g.os, g.tape, g.output, g.size, g.block⟩
  unfold keyV at l0 l1 he
  unfold goInt at he hs2
  dsimp only at l0 l1 he hs2
  refine ⟨st, w1, w2, l0, he, l1, hs2, Lib.hid ⟨_, hD2⟩, Lib.hid g1, Lib.hid g2⟩
/-- A box stays where a map is written. -/
theorem box_map {w w' : World} {b tb : Nat} {C : Array Value} {ty : TypeId} (h : w.heap[tb]? = some (.cells C ty (0, 0))) (hne : tb ≠ b) (hg : w.grownBy w' (some b)) : w'.heap[tb]? = some (.cells C ty (0, 0)) :=
  (hg.block tb (Array.getElem?_eq_some_iff.1 h).1 fun e => hne (by injection e)).trans h
set_option maxRecDepth 8000 in
set_option maxHeartbeats 4000000 in
theorem changes_any (w : World) (A : Option Addr) (n c : Nat) (l : List Mv) (hX : SlE mvE 4 w A n l) (hz : mvZ l) :
    Calls Tryz.prog 379 #[.slice A n c] w fun e w' => ∃ B D, e = .returned (.map (some B)) ∧ BalD w' B 64 D (enA l) ∧ Below w.heap.size w w' := by
  refine calls_cps ?_
  intro R hR
  have Hr := Lib.hid hR.out
  have HX := Lib.hid hX
  have Hz := Lib.hid hz
  have Hn := Lib.hid hX.1
  have hn : n ≤ 32 := by rw [hX.1]; exact hz.1
  obtain ⟨B, hB⟩ : ∃ B, w.heap.size = B := ⟨_, rfl⟩
  have HB0 := Lib.hid hB
  clear hR hX hz hB
  have hmm := @run_makeMap Tryz.prog
  go_enter Tryz.func379, Tryz.ntmps379
  go_wp2_with fail
  rw [HB0.out]
  go_loopw [9] (fun s9 wr => ∃ k : Nat, k ≤ n ∧ s9 = .int .i64 (k : Int) ∧ Hid (∃ D, BalD wr B (2 * k) D (enA (l.take k))) ∧ Hid (Below w.heap.size w wr)) (fun s9 _ => n - (intOf s9).toNat)
  case atStart =>
    refine ⟨0, Nat.zero_le _, rfl, Lib.hid ⟨.map [], ?_, fun p _ => rfl⟩, Lib.hid (below_new w _)⟩
    rw [← HB0.out]
    exact World.ownsMap_made w _ _ _
  case round =>
    obtain ⟨k, hk, rfl, Hd, Hb⟩ := hrel
    by_cases hlt : k < n
    · obtain ⟨b0, o, y, rfl, hb, hy, q0, q1, q2, q3⟩ := (HX.out.below Hb.out).mv_at hlt
      obtain ⟨z1, z2, z3, z4, z5⟩ := Hz.out.2 y (List.mem_of_getElem? hy)
      have i1 : (k : Int) < (n : Int) := by omega
      have Hy := Lib.hid hy
      obtain ⟨D, hD⟩ := Hd.out
      obtain ⟨gf, hgf⟩ : ∃ gf : Pl → Int, enA (l.take k) = gf := ⟨_, rfl⟩
      have hgb : ∀ q, -100000000000 ≤ gf q ∧ gf q ≤ 100000000000 := fun q => by
        have h2 := enA_bd (l := l.take k) (fun m hm => by have := Hz.out.2 m (List.mem_of_mem_take hm); omega) q
        rw [List.length_take] at h2
        rw [← hgf]
        omega
      rw [hgf] at hD
      have HG := Lib.hid hgf
      have p1 : PlZ (y.f, y.i) := ⟨by dsimp only; omega, by dsimp only; omega⟩
      have p2 : PlZ (y.t, y.i) := ⟨by dsimp only; omega, by dsimp only; omega⟩
      have g1 := hgb (y.f, y.i)
      have g2 := hgb (y.t, y.i)
      obtain ⟨W1, hW1⟩ : ∃ W1, wr.alloc (.cells #[.string y.f, .string y.t, .string y.i, .int .i64 y.q] 142) = W1 := ⟨_, rfl⟩
      have hbox : W1.heap[wr.heap.size]? = some (.cells #[.string y.f, .string y.t, .string y.i, .int .i64 y.q] 142 (0, 0)) := by rw [← hW1]; exact heap_alloc_new wr _
      obtain ⟨tb, htb⟩ : ∃ tb, wr.heap.size = tb := ⟨_, rfl⟩
      have hne : tb ≠ B := by rw [← htb]; exact Nat.ne_of_gt hD.lt
      rw [htb] at hbox
      have hD1 : BalD W1 B (2 * k) D gf := hD.keep (by rw [← hW1]; exact heap_alloc_old wr _ hD.lt)
      have HB1 : Hid (Below w.heap.size w W1) := Lib.hid (by rw [← hW1]; exact below_al1' Hb.out _)
      -- the first place
      obtain ⟨st, v1, v2, e1, e2, e3, e4, Hd2, Hg1, Hg2⟩ := hD1.ops plT2 p1 (by omega) (x := gf (y.f, y.i) - y.q) ⟨by omega, by omega⟩
      have hb1 := box_map hbox hne Hg1.out
      have hb2 := box_map hbox hne Hg2.out
      have HBX2 := Lib.hid hb2
      obtain ⟨c0, c1, c2, c3, -⟩ := cells4 hbox
      obtain ⟨d0, d1, d2, d3, -⟩ := cells4 hb1
      obtain ⟨D2, hD2⟩ := Hd2.out
      obtain ⟨v, hv⟩ : ∃ v, gf (y.f, y.i) = v := ⟨_, rfl⟩
      rw [hv] at e1 e2 e3 e4 g1 hD2
      have HV := Lib.hid hv
      obtain ⟨hf1, hf2⟩ := updF_bd hgb (p := (y.f, y.i)) (x := v - y.q) (by omega) (y.t, y.i)
      -- the second place
      obtain ⟨st', v3, v4, a1, a2, a3, a4, Hd4, Hg3, Hg4⟩ := hD2.ops (a := y.t) (i := y.i) plT2 p2 (by omega) (x := updF gf (y.f, y.i) (v - y.q) (y.t, y.i) + y.q) ⟨by omega, by omega⟩
      have hb3 := box_map hb2 hne Hg3.out
      have hb4 := box_map hb2 hne Hg4.out
      obtain ⟨f0, f1, f2, f3, -⟩ := cells4 hb2
      obtain ⟨k0, k1, k2, k3, -⟩ := cells4 hb3
      obtain ⟨u, hu⟩ : ∃ u, updF gf (y.f, y.i) (v - y.q) (y.t, y.i) = u := ⟨_, rfl⟩
      rw [hu] at a1 a2 a3 a4 hf1 hf2
      have HU := Lib.hid hu
      have hwr : IntKind.i64.wrap (v - y.q) = v - y.q := IntWalk.i64_in _ (by omega)
      have hwr2 : IntKind.i64.wrap (u + y.q) = u + y.q := IntWalk.i64_in _ (by omega)
      clear hy hgf hgb hD hbox hne hD1 hb1 hb2 hv hD2 hu hb3 hb4
      go_upto_region 5 with fail
      go_region
      go_upto_region 6 with fail
      go_region
      go_wp2_with fail
      refine ⟨⟨k + 1, hlt, by go_num, Lib.hid ?_, Lib.hid ?_⟩, by simp [intOf] <;> omega⟩
      · obtain ⟨D4, h4⟩ := Hd4.out
        refine ⟨D4, ⟨h4.1.mono (by omega), fun q hq => ?_⟩⟩
        rw [h4.2 q hq]
        congr 1
        rw [enA_take Hy.out, HG.out]
        have hv := HV.out
        have k1 : ∀ r, updF gf (y.f, y.i) (v - y.q) r = if r = (y.f, y.i) then v - y.q else gf r := fun r => rfl
        show (if q = (y.t, y.i) then updF gf (y.f, y.i) (v - y.q) (y.t, y.i) + y.q else updF gf (y.f, y.i) (v - y.q) q) = gf q + ((if (y.t, y.i) = q then y.q else 0) - (if (y.f, y.i) = q then y.q else 0))
        rw [k1, k1]
        by_cases e2 : q = (y.t, y.i)
        · subst e2
          by_cases e1 : (y.t, y.i) = (y.f, y.i)
          · rw [if_pos rfl, if_pos e1, if_pos rfl, if_pos e1.symm, e1]
            omega
          · rw [if_pos rfl, if_neg e1, if_pos rfl, if_neg (fun h => e1 h.symm)]
            omega
        · by_cases e1 : q = (y.f, y.i)
          · subst e1
            rw [if_neg e2, if_pos rfl, if_neg (fun h => e2 h.symm), if_pos rfl]
            omega
          · rw [if_neg e2, if_neg e1, if_neg (fun h => e2 h.symm), if_neg (fun h => e1 h.symm)]
            omega
      · have hBw : ∀ j, (some B : Option Nat) = some j → w.heap.size ≤ j := fun j hj => by
          injection hj with e
          rw [← e, HB0.out]
          exact Nat.le_refl _
        have h2 := HB1.out.grown Hg2.out HB1.out.size hBw
        exact h2.grown Hg4.out h2.size hBw
    · have hkn : k = n := by omega
      subst hkn
      have i1 : ¬ (k : Int) < (k : Int) := by omega
      obtain ⟨D, hD⟩ := Hd.out
      have HD := Lib.hid hD
      clear hD
      go_wp2_with fail
      have hb := HD.out
      rw [List.take_of_length_le (by rw [← Hn.out]; exact Nat.le_refl _)] at hb
      exact Hr.out _ _ ⟨B, D, rfl, ⟨hb.1.mono (by omega), hb.2⟩, Hb.out⟩
end
end
section
section
open Go.RowKit
theorem drop_byte {s : ByteArray} {k : Nat} (h : k < s.size) : s.data.toList.drop k = s[k] :: s.data.toList.drop (k + 1) := by
  obtain ⟨⟨l⟩⟩ := s
  exact List.drop_eq_getElem_cons (l := l) h
theorem drop_all {s : ByteArray} : s.data.toList.drop s.size = [] := List.drop_eq_nil_of_le (by rw [Array.length_toList]; exact Nat.le_refl _)
set_option maxRecDepth 8000 in
set_option maxHeartbeats 4000000 in
theorem name_any (s : ByteArray) (w : World) (hs : s.size ≤ 9223372036854775807) :
    Calls Tryz.prog 126 #[.string s] w fun e w' => e = .returned (.bool (nameB s)) ∧ w = w' := by
  refine calls_cps ?_
  intro R hR
  have HR := Lib.hid (show ∀ v, v = nameB s → R (.returned (.bool v)) w from fun v hv => hR.out _ _ ⟨by rw [hv], rfl⟩)
  clear hR
  by_cases h1 : s.size < 1
  · have hf := HR.out false (by unfold nameB; rw [decide_eq_false (by omega)]; rfl)
    have HF := Lib.hid hf
    have i1 : (s.size : Int) < 1 := by omega
    clear HR hf
    go_enter Tryz.func126, Tryz.ntmps126
    go_wp2
    exact HF.out
  by_cases h2 : 12 < s.size
  · have hf := HR.out false (by unfold nameB; rw [decide_eq_false (show ¬ s.size ≤ 12 by omega), Bool.and_false]; rfl)
    have HF := Lib.hid hf
    have i1 : ¬ (s.size : Int) < 1 := by omega
    have i2 : (12 : Int) < (s.size : Int) := by omega
    clear HR hf
    go_enter Tryz.func126, Tryz.ntmps126
    go_wp2
    exact HF.out
  have hr : ∀ v, v = nmL true s.data.toList → R (.returned (.bool v)) w := fun v hv => HR.out v (by
    unfold nameB
    rw [decide_eq_true (show 1 ≤ s.size by omega), decide_eq_true (show s.size ≤ 12 by omega), hv]
    rfl)
  have HF := Lib.hid hr
  have i1 : ¬ (s.size : Int) < 1 := by omega
  have i2 : ¬ (12 : Int) < (s.size : Int) := by omega
  clear HR hr
  go_enter Tryz.func126, Tryz.ntmps126
  go_wp2_with fail
  go_loopw [15] (fun s15 wr => ∃ k : Nat, k ≤ s.size ∧ s15 = .int .i64 (k : Int) ∧ Hid (nmL true s.data.toList = nmL (decide (k = 0)) (s.data.toList.drop k)) ∧ w = wr) (fun s15 _ => s.size - (intOf s15).toNat)
  case atStart => exact ⟨0, Nat.zero_le _, rfl, Lib.hid rfl, rfl⟩
  case round =>
    obtain ⟨k, hk, rfl, Hn, rfl⟩ := hrel
    by_cases hlt : k < s.size
    · have hd := drop_byte hlt
      have hb : (s[k].toNat : Int) < 256 := by have := s[k].toNat_lt; omega
      have HD := Lib.hid hd
      have i3 : (k : Int) < (s.size : Int) := by omega
      clear hd
      have step : ∀ v, nmL (decide (k = 0)) (s.data.toList.drop k) = v → Hid (nmL true s.data.toList = v) := fun v hv => Lib.hid (Hn.out.trans hv)
      have HS := Lib.hid step
      clear step
      by_cases a1 : 97 ≤ s[k].toNat
      · by_cases a2 : s[k].toNat ≤ 122
        · have j1 : (97 : Int) ≤ (s[k].toNat : Int) := by omega
          have j2 : (s[k].toNat : Int) ≤ 122 := by omega
          have hn := HS.out (nmL false (s.data.toList.drop (k + 1))) (by rw [HD.out, nmL]; unfold lowB; rw [decide_eq_true a1, decide_eq_true a2]; rfl)
          clear HS Hn
          go_wp2_with fail
          refine ⟨⟨k + 1, hlt, by go_num, ?_, by trivial⟩, by simp [intOf] <;> omega⟩
          rw [decide_eq_false (by omega)]
          exact hn
        · have j1 : (97 : Int) ≤ (s[k].toNat : Int) := by omega
          have j2 : ¬ (s[k].toNat : Int) ≤ 122 := by omega
          have j3 : ¬ (s[k].toNat : Int) < 48 := by omega
          have j4 : (57 : Int) < (s[k].toNat : Int) := by omega
          have hn := HS.out false (by rw [HD.out, nmL]; unfold lowB digB; rw [decide_eq_false a2, decide_eq_false (show ¬ s[k].toNat ≤ 57 by omega)]; simp)
          have hf := HF.out false hn.out.symm
          have HF2 := Lib.hid hf
          clear HS Hn hn HF hf
          go_wp2
          all_goals exact HF2.out
      · have j1 : ¬ (97 : Int) ≤ (s[k].toNat : Int) := by omega
        by_cases k0 : k = 0
        · have hn := HS.out false (by rw [HD.out, nmL]; unfold lowB; rw [decide_eq_false a1, decide_eq_true k0]; simp)
          have hf := HF.out false hn.out.symm
          have HF2 := Lib.hid hf
          have j2 : ((k : Int) == 0) = true := by rw [beq_iff_eq]; omega
          clear HS Hn hn HF hf k0
          go_wp2
          all_goals exact HF2.out
        · have j2 : ((k : Int) == 0) = false := by rw [beq_eq_false_iff_ne]; omega
          by_cases b1 : 48 ≤ s[k].toNat ∧ s[k].toNat ≤ 57
          · have j3 : ¬ (s[k].toNat : Int) < 48 := by omega
            have j4 : ¬ (57 : Int) < (s[k].toNat : Int) := by omega
            have hn := HS.out (nmL false (s.data.toList.drop (k + 1))) (by rw [HD.out, nmL]; unfold lowB digB; rw [decide_eq_false a1, decide_eq_false k0, decide_eq_true b1.1, decide_eq_true b1.2]; simp)
            clear HS Hn
            go_wp2_with fail
            refine ⟨⟨k + 1, hlt, by go_num, ?_, by trivial⟩, by simp [intOf] <;> omega⟩
            rw [decide_eq_false (by omega)]
            exact hn
          · have hn := HS.out false (by
              rw [HD.out, nmL]
              unfold lowB digB
              rw [decide_eq_false a1]
              rcases Nat.lt_or_ge s[k].toNat 48 with h | h
              · rw [decide_eq_false (show ¬ 48 ≤ s[k].toNat by omega)]; simp
              · rw [decide_eq_false (show ¬ s[k].toNat ≤ 57 by omega)]; simp)
            have hf := HF.out false hn.out.symm
            have HF2 := Lib.hid hf
            clear HS Hn hn HF hf
            rcases Nat.lt_or_ge s[k].toNat 48 with h | h
            · have j3 : (s[k].toNat : Int) < 48 := by omega
              go_wp2
              all_goals exact HF2.out
            · have j3 : ¬ (s[k].toNat : Int) < 48 := by omega
              have j4 : (57 : Int) < (s[k].toNat : Int) := by omega
              go_wp2
              all_goals exact HF2.out
    · have hkn : k = s.size := by omega
      have i3 : ¬ (k : Int) < (s.size : Int) := by omega
      have hf := HF.out true (by rw [Hn.out, hkn, drop_all]; rfl)
      have HF2 := Lib.hid hf
      clear HF hf Hn hkn
      go_wp2
      exact HF2.out
end
end
section
section
open Go.RowKit
theorem str_inj {a b : ByteArray} (h : a.toList = b.toList) : a = b := by
  rw [Lib.toList_data, Lib.toList_data] at h
  obtain ⟨⟨x⟩⟩ := a
  obtain ⟨⟨y⟩⟩ := b
  dsimp only at h
  rw [h]
theorem enOk_no {l : List Mv} {y : Mv} (h : y ∈ l) (hy : mvOk y = false) : enOk l = false := by
  unfold enOk
  have : l.all mvOk = false := by
    rw [List.all_eq_false]
    exact ⟨y, h, by rw [hy]; decide⟩
  rw [this]
  rfl
/-- The names of the moves are no longer than a slice may be. -/
def mvS (l : List Mv) : Prop := ∀ m ∈ l, m.f.size ≤ 9223372036854775807 ∧ m.t.size ≤ 9223372036854775807 ∧ m.i.size ≤ 9223372036854775807
set_option maxRecDepth 8000 in
set_option maxHeartbeats 8000000 in
theorem entry_any (A : Option Addr) (n c : Nat) (l : List Mv) (w : World) (h : SlE mvE 4 w A n l) (hs : mvS l) (hn : n ≤ 9223372036854775807) :
    Calls Tryz.prog 68 #[.slice A n c] w fun e w' => e = .returned (.bool (enOk l)) ∧ Below w.heap.size w w' := by
  refine calls_cps ?_
  intro R hR
  have Hr := Lib.hid (show ∀ v w', v = enOk l → Below w.heap.size w w' → R (.returned (.bool v)) w' from fun v w' hv hb => hR.out _ _ ⟨by rw [hv], hb⟩)
  have HX := Lib.hid h
  have Hs := Lib.hid hs
  have Hn := Lib.hid h.1
  clear hR h hs
  go_enter Tryz.func68, Tryz.ntmps68
  go_wp2_with fail
  go_loopw [7] (fun s7 wr => ∃ k : Nat, k ≤ n ∧ s7 = .int .i64 (k : Int) ∧ Hid ((l.take k).all mvOk = true) ∧ Hid (Below w.heap.size w wr)) (fun s7 _ => n - (intOf s7).toNat)
  case atStart => exact ⟨0, Nat.zero_le _, rfl, Lib.hid rfl, Lib.hid (Below.refl _ _)⟩
  case round =>
    obtain ⟨k, hk, rfl, Hv, Hb⟩ := hrel
    by_cases hlt : k < n
    · obtain ⟨b0, o, y, rfl, hb, hy, q0, q1, q2, q3⟩ := (HX.out.below Hb.out).mv_at hlt
      have hm := List.mem_of_getElem? hy
      obtain ⟨z1, z2, z3⟩ := Hs.out y hm
      have i1 : (k : Int) < (n : Int) := by omega
      have HB1 := Lib.hid (below_al1' Hb.out (.cells #[.string y.f, .string y.t, .string y.i, .int .i64 y.q] 142))
      have N1 := Lib.hid (name_any y.f (wr.alloc (.cells #[.string y.f, .string y.t, .string y.i, .int .i64 y.q] 142)) z1)
      have N2 := Lib.hid (name_any y.t (wr.alloc (.cells #[.string y.f, .string y.t, .string y.i, .int .i64 y.q] 142)) z2)
      have N3 := Lib.hid (name_any y.i (wr.alloc (.cells #[.string y.f, .string y.t, .string y.i, .int .i64 y.q] 142)) z3)
      have hno : mvOk y = false → Hid (R (.returned (.bool false)) (wr.alloc (.cells #[.string y.f, .string y.t, .string y.i, .int .i64 y.q] 142))) := fun h => Lib.hid (Hr.out false _ (enOk_no hm h).symm HB1.out)
      have hyes : mvOk y = true → Hid ((l.take (k + 1)).all mvOk = true) := fun h => Lib.hid (by rw [List.take_add_one, hy, List.all_append, Hv.out]; simp [h])
      clear hy hm
      cases n1 : nameB y.f
      · rw [n1] at N1
        clear N2 N3
        have hf := hno (by unfold mvOk; rw [n1]; rfl)
        clear hno hyes
        go_wp2_with (first
                    | (go_at_call 126; (with_reducible refine N1.out.mono ?_); rintro e w' ⟨rfl, rfl⟩))
        all_goals exact hf.out
      · rw [n1] at N1
        cases n2 : nameB y.t
        · rw [n2] at N2
          clear N3
          have hf := hno (by unfold mvOk; rw [n1, n2]; rfl)
          clear hno hyes
          go_wp2_with (first
                      | (go_at_call 126; (with_reducible refine N1.out.mono ?_); rintro e w' ⟨rfl, rfl⟩)
                      | (go_at_call 126; (with_reducible refine N2.out.mono ?_); rintro e w' ⟨rfl, rfl⟩))
          all_goals exact hf.out
        · rw [n2] at N2
          cases n3 : nameB y.i
          · rw [n3] at N3
            have hf := hno (by unfold mvOk; rw [n1, n2, n3]; rfl)
            clear hno hyes
            go_wp2_with (first
                        | (go_at_call 126; (with_reducible refine N1.out.mono ?_); rintro e w' ⟨rfl, rfl⟩)
                        | (go_at_call 126; (with_reducible refine N2.out.mono ?_); rintro e w' ⟨rfl, rfl⟩)
                        | (go_at_call 126; (with_reducible refine N3.out.mono ?_); rintro e w' ⟨rfl, rfl⟩))
            all_goals exact hf.out
          · rw [n3] at N3
            by_cases n4 : y.f = y.t
            · have e4 : (y.f.toList == y.t.toList) = true := by rw [beq_iff_eq, n4]
              have hf := hno (by unfold mvOk; rw [n1, n2, n3, decide_eq_true n4]; rfl)
              clear n4
              clear hno hyes
              go_wp2_with (first
                          | (go_at_call 126; (with_reducible refine N1.out.mono ?_); rintro e w' ⟨rfl, rfl⟩)
                          | (go_at_call 126; (with_reducible refine N2.out.mono ?_); rintro e w' ⟨rfl, rfl⟩)
                          | (go_at_call 126; (with_reducible refine N3.out.mono ?_); rintro e w' ⟨rfl, rfl⟩))
              all_goals exact hf.out
            · have e4 : (y.f.toList == y.t.toList) = false := by rw [beq_eq_false_iff_ne]; exact fun h => n4 (str_inj h)
              by_cases n5 : y.q < 1
              · have hf := hno (by unfold mvOk; rw [n1, n2, n3, decide_eq_false n4, decide_eq_false (show ¬ 1 ≤ y.q by omega)]; rfl)
                clear n4
                clear hno hyes
                go_wp2_with (first
                            | (go_at_call 126; (with_reducible refine N1.out.mono ?_); rintro e w' ⟨rfl, rfl⟩)
                            | (go_at_call 126; (with_reducible refine N2.out.mono ?_); rintro e w' ⟨rfl, rfl⟩)
                            | (go_at_call 126; (with_reducible refine N3.out.mono ?_); rintro e w' ⟨rfl, rfl⟩))
                all_goals exact hf.out
              · by_cases n6 : 1000000000 < y.q
                · have hf := hno (by unfold mvOk; rw [n1, n2, n3, decide_eq_false n4, decide_eq_true (show 1 ≤ y.q by omega), decide_eq_false (show ¬ y.q ≤ 1000000000 by omega)]; rfl)
                  clear n4
                  clear hno hyes
                  go_wp2_with (first
                              | (go_at_call 126; (with_reducible refine N1.out.mono ?_); rintro e w' ⟨rfl, rfl⟩)
                              | (go_at_call 126; (with_reducible refine N2.out.mono ?_); rintro e w' ⟨rfl, rfl⟩)
                              | (go_at_call 126; (with_reducible refine N3.out.mono ?_); rintro e w' ⟨rfl, rfl⟩))
                  all_goals exact hf.out
                · have hf := hyes (by unfold mvOk; rw [n1, n2, n3, decide_eq_false n4, decide_eq_true (show 1 ≤ y.q by omega), decide_eq_true (show y.q ≤ 1000000000 by omega)]; rfl)
                  clear hno hyes n4
                  go_wp2_with (first
                              | (go_at_call 126; (with_reducible refine N1.out.mono ?_); rintro e w' ⟨rfl, rfl⟩)
                              | (go_at_call 126; (with_reducible refine N2.out.mono ?_); rintro e w' ⟨rfl, rfl⟩)
                              | (go_at_call 126; (with_reducible refine N3.out.mono ?_); rintro e w' ⟨rfl, rfl⟩))
                  exact ⟨⟨k + 1, hlt, by go_num, hf, HB1⟩, by simp [intOf] <;> omega⟩
    · have hkn : k = n := by omega
      subst hkn
      have i1 : ¬ (k : Int) < (k : Int) := by omega
      have ha : l.all mvOk = true := by
        have := Hv.out
        rwa [List.take_of_length_le (by rw [← Hn.out]; exact Nat.le_refl _)] at this
      have hf : ∀ v, v = (decide (1 ≤ l.length) && decide (l.length ≤ 32)) → R (.returned (.bool v)) wr := fun v hv => Hr.out v wr (by
        rw [hv]
        unfold enOk
        rw [ha, Bool.true_and]) Hb.out
      rw [← Hn.out] at hf
      have HF := Lib.hid hf
      clear hf ha Hr
      by_cases h1 : k < 1
      · have j1 : ¬ (k : Int) ≥ 1 := by omega
        have hf := HF.out false (by rw [decide_eq_false (by omega)]; rfl)
        have HF2 := Lib.hid hf
        clear HF hf
        go_wp2
        exact HF2.out
      · have j1 : (k : Int) ≥ 1 := by omega
        by_cases h2 : k ≤ 32
        · have j2 : (k : Int) ≤ 32 := by omega
          have hf := HF.out true (by rw [decide_eq_true (show 1 ≤ k by omega), decide_eq_true h2]; rfl)
          have HF2 := Lib.hid hf
          clear HF hf
          go_wp2
          exact HF2.out
        · have j2 : ¬ (k : Int) ≤ 32 := by omega
          have hf := HF.out false (by rw [decide_eq_false h2, Bool.and_false])
          have HF2 := Lib.hid hf
          clear HF hf
          go_wp2
          exact HF2.out
end
end
section
section
open Go.RowKit
/-- A place as cells. -/
def plE (p : Pl) : List Value := [.string p.1, .string p.2]
theorem plE_len (p : Pl) : (plE p).length = 2 := rfl
theorem infoPl : (Tryz.prog.info? 158).map (fun i => (i.zero, i.size, i.bytes)) = some (some (.agg #[.string ByteArray.empty, .string ByteArray.empty]), 2, 32) := by kernel_rfl
theorem elemPl : ElemOk Tryz.prog 538 158 2 32 := ElemOk.of (z := .agg #[.string ByteArray.empty, .string ByteArray.empty]) Tryz.underlying538 infoPl rfl (by omega)
set_option maxRecDepth 8000 in
set_option maxHeartbeats 4000000 in
theorem places_any (w : World) (A : Option Addr) (n c : Nat) (l : List Mv) (hX : SlE mvE 4 w A n l) (hn : n ≤ 32) :
    Calls Tryz.prog 380 #[.slice A n c] w fun e w' => ∃ A' m c', e = .returned (.slice A' m c') ∧ SlE plE 2 w' A' m (plcs l) ∧ m = 2 * n ∧ Below w.heap.size w w' := by
  refine calls_cps ?_
  intro R hR
  have Hr := Lib.hid hR.out
  have HX := Lib.hid hX
  have Hn := Lib.hid hX.1
  clear hR hX
  go_enter Tryz.func380, Tryz.ntmps380
  go_wp2_with fail
  go_loopw [3, 8] (fun s3 s8 wr => ∃ (k m c' : Nat) (A' : Option Addr), k ≤ n ∧ s8 = .int .i64 (k : Int) ∧ s3 = .slice A' m c' ∧ Hid (m = 2 * k) ∧ Hid (wr.ownsRow w.heap.size 158 2 (.slice A' m c') m ((plcs (l.take k)).flatMap plE)) ∧ Hid (Below w.heap.size w wr)) (fun _ s8 _ => n - (intOf s8).toNat)
  case atStart => exact ⟨0, 0, 0, none, Nat.zero_le _, rfl, rfl, Lib.hid rfl, Lib.hid (World.ownsRow_nil _ _ _ _), Lib.hid (Below.refl _ _)⟩
  case round =>
    obtain ⟨k, m, c', A', hk, rfl, rfl, Hm, Ho, Hb⟩ := hrel
    by_cases hlt : k < n
    · obtain ⟨b0, o, y, rfl, hb, hy, q0, q1, q2, q3⟩ := (HX.out.below Hb.out).mv_at hlt
      have i1 : (k : Int) < (n : Int) := by omega
      have Hy := Lib.hid hy
      have hm64 : m ≤ 64 := by have := Hm.out; omega
      have HB1 := Lib.hid (below_al1' (below_al1' Hb.out (.cells #[.string y.f, .string y.t, .string y.i, .int .i64 y.q] 142)) (.cells #[.string y.f, .string y.i, .string y.t, .string y.i] 158))
      have HO1 := Lib.hid ((Ho.out.alloc (.cells #[.string y.f, .string y.t, .string y.i, .int .i64 y.q] 142)).alloc (.cells #[.string y.f, .string y.i, .string y.t, .string y.i] 158))
      clear hy
      go_wp2_with (at_builtin; refine wpList_app rfl (.tmp 12) (.tmp 23) _ rfl elemPl w.heap.size _ _ _ rfl HO1.out _ _ _ _ rfl (Sl.newAt (wr.alloc (.cells #[.string y.f, .string y.t, .string y.i, .int .i64 y.q] 142)) #[.string y.f, .string y.i, .string y.t, .string y.i] _ 2 2 rfl (by simp)) (by simp [Value.oneCell']) (by unfold maxLen; omega) (by omega) HB1.out.size ?_; intro A2 c2 w2 ho2 hg2 hl2; have HO2 := Lib.hid ho2; have HG2 := Lib.hid hg2; clear ho2 hg2 hl2)
      refine ⟨⟨k + 1, m + 2, c2, A2, hlt, by go_num, rfl, Lib.hid (by have := Hm.out; omega), Lib.hid ?_, Lib.hid ?_⟩, by simp [intOf] <;> omega⟩
      · have h2 := HO2.out
        rw [List.take_add_one, Hy.out]
        have e : (plcs (l.take k ++ (some y).toList)).flatMap plE = (plcs (l.take k)).flatMap plE ++ [.string y.f, .string y.i, .string y.t, .string y.i] := by
          unfold plcs
          rw [List.flatMap_append, List.flatMap_append]
          rfl
        rw [e]
        exact h2
      · exact below_own HB1.out HO1.out (Nat.le_refl _) HB1.out.size HG2.out
    · have hkn : k = n := by omega
      subst hkn
      have i1 : ¬ (k : Int) < (k : Int) := by omega
      go_wp2_with fail
      have ho := Ho.out
      rw [List.take_of_length_le (by rw [← Hn.out]; exact Nat.le_refl _)] at ho
      refine Hr.out _ _ ⟨A', m, c', rfl, SlE.of_own ho ?_, Hm.out, Hb.out⟩
      have := ho.1
      rw [flat_length plE_len] at this
      omega
theorem plcs_len (l : List Mv) : (plcs l).length = 2 * l.length := by
  unfold plcs
  induction l with
  | nil => rfl
  | cons m l ih => rw [List.flatMap_cons, List.length_append, ih, List.length_cons]; simp; omega
theorem out_take (l : List UInt8) : (l.take 3 == [111, 117, 116]) = [111, 117, 116].isPrefixOf l := by
  rw [Bool.eq_iff_iff, beq_iff_eq, List.isPrefixOf_iff_prefix, List.prefix_iff_eq_take]
  exact eq_comm
set_option maxHeartbeats 2000000 in
theorem hpre_any (s : ByteArray) (w : World) (hs : s.size ≤ 9223372036854775807) :
    Calls Tryz.prog 132 #[.string s, .string ⟨#[111, 117, 116]⟩] w fun e w' => e = .returned (.bool (outB s)) ∧ w = w' := by
  refine calls_cps ?_
  intro R hR
  have HR := Lib.hid (show ∀ v, v = outB s → R (.returned (.bool v)) w from fun v hv => hR.out _ _ ⟨by rw [hv], rfl⟩)
  clear hR
  by_cases h : s.size < 3
  · have i1 : ¬ (s.size : Int) ≥ 3 := by omega
    have hf := HR.out false (Eq.symm (by
      unfold outB
      rw [Bool.eq_false_iff]
      intro hp
      have := (List.isPrefixOf_iff_prefix.1 hp).length_le
      rw [Array.length_toList] at this
      have h2 : s.data.size = s.size := rfl
      simp at this
      omega))
    have HF := Lib.hid hf
    clear HR hf
    go_enter Tryz.func132, Tryz.ntmps132
    go_wp2
    exact HF.out
  · have i1 : (s.size : Int) ≥ 3 := by omega
    go_enter Tryz.func132, Tryz.ntmps132
    go_wp2_with fail
    refine HR.out _ ?_
    unfold outB
    rw [Lib.toList_data, Lib.extract_data, Nat.sub_zero, List.drop_zero]
    exact out_take _
set_option maxHeartbeats 2000000 in
theorem hasp_any (s : ByteArray) (w : World) (hs : s.size ≤ 9223372036854775807) :
    Calls Tryz.prog 381 #[.string s, .string ⟨#[111, 117, 116]⟩] w fun e w' => e = .returned (.bool (outB s)) ∧ w = w' := by
  refine calls_cps ?_
  intro R hR
  have HR := Lib.hid (hR.out (.returned (.bool (outB s))) w ⟨rfl, rfl⟩)
  clear hR
  go_enter Tryz.func381, Tryz.ntmps381
  go_wp2_with (go_at_call 132; (with_reducible refine (hpre_any _ _ hs).mono ?_); rintro e w' ⟨rfl, rfl⟩)
  exact HR.out
/-- The walk of refused, one place more. -/
theorem refW_cons (b : Pl → Int) (l : List Mv) (p : Pl) (r : List Pl) (e : Int) : refW b l (p :: r) e = if mxQ < b p + enA l p ∨ b p + enA l p < -mxQ then 5 else refW b l r (if b p + enA l p < 0 ∧ outB p.1 = false then 10 else e) := by
  conv => lhs; unfold refW
theorem below_dr {b : Nat} {W w : World} (h : Below b W w) (q : Nat) : Below b W (w.drewN q) := ⟨h.os, h.tape, h.output, h.size, h.block⟩
theorem plcs_z {l : List Mv} (hz : mvZ l) : ∀ p ∈ plcs l, PlZ p := by
  intro p hp
  unfold plcs at hp
  obtain ⟨m, hm, hp⟩ := List.mem_flatMap.1 hp
  have := hz.2 m hm
  rcases List.mem_cons.1 hp with rfl | hp
  · exact ⟨by dsimp only; omega, by dsimp only; omega⟩
  · rcases List.mem_cons.1 hp with rfl | hp
    · exact ⟨by dsimp only; omega, by dsimp only; omega⟩
    · cases hp
set_option maxRecDepth 8000 in
set_option maxHeartbeats 8000000 in
theorem refused_any (w : World) (b n0 : Nat) (f : Pl → Int) (A : Option Addr) (n c : Nat) (l : List Mv) (h : BalZ w b n0 f) (hf : BalB f) (hX : SlE mvE 4 w A n l) (hz : mvZ l) :
    Calls Tryz.prog 317 #[.map (some b), .slice A n c] w fun e w' => e = .returned (.int .i64 (refE f l)) ∧ Below w.heap.size w w' := by
  refine calls_cps ?_
  intro R hR
  have Hr := Lib.hid (show ∀ v w', v = refE f l → Below w.heap.size w w' → R (.returned (.int .i64 v)) w' from fun v w' hv hb => hR.out _ _ ⟨by rw [hv], hb⟩)
  have HX := Lib.hid hX
  have HB := Lib.hid h
  have Hf := Lib.hid hf
  have Hz := Lib.hid hz
  have hn : n ≤ 32 := by rw [hX.1]; exact hz.1
  clear hR hX hz hf h
  go_enter Tryz.func317, Tryz.ntmps317
  go_wp2_with fail
  refine (changes_any w A n c l HX.out Hz.out).mono ?_
  rintro e w1 ⟨B, D, rfl, hD, hb1⟩
  have HD := Lib.hid hD
  have HB1 := Lib.hid hb1
  clear hD hb1
  go_wp2_with fail
  refine (places_any w1 A n c l (HX.out.below HB1.out) hn).mono ?_
  rintro e w2 ⟨A2, m2, c2, rfl, hp2, hm2, hb2⟩
  have HP := Lib.hid hp2
  have HM := Lib.hid hm2
  have hm64 : m2 ≤ 64 := by omega
  have HB2 := Lib.hid (HB1.out.trans (hb2.mono HB1.out.size))
  have HD2 := Lib.hid (HD.out.keep (hb2.block B HD.out.lt))
  have HPn := Lib.hid hp2.1
  clear hp2 hm2 hb2
  go_wp2_with fail
  go_loopw [5, 15] (fun s5 s15 wr => ∃ (k : Nat) (ev : Int), k ≤ m2 ∧ s15 = .int .i64 (k : Int) ∧ s5 = .int .i64 ev ∧ Hid (refE f l = refW f l ((plcs l).drop k) ev) ∧ Hid (Below w2.heap.size w2 wr)) (fun _ s15 _ => m2 - (intOf s15).toNat)
  case atStart => exact ⟨0, 0, Nat.zero_le _, rfl, rfl, Lib.hid rfl, Lib.hid (Below.refl _ _)⟩
  case round =>
    obtain ⟨k, ev, hk, rfl, rfl, He, Hb⟩ := hrel
    by_cases hlt : k < m2
    · obtain ⟨b0, o, p, rfl, hb, hy, hc⟩ := (HP.out.below Hb.out).at_ plE_len hlt
      have q0 : wr.cell? ⟨b0, o + k * 2, none⟩ = some (.string p.1) := hc 0 _ rfl
      have q1 : wr.cell? ⟨b0, o + k * 2 + 1, none⟩ = some (.string p.2) := hc 1 _ rfl
      have i1 : (k : Int) < (m2 : Int) := by omega
      have hdr : (plcs l).drop k = p :: (plcs l).drop (k + 1) := by
        obtain ⟨h1, h2⟩ := List.getElem?_eq_some_iff.1 hy
        rw [← h2]
        exact List.drop_eq_getElem_cons h1
      have hpz : PlZ p := plcs_z Hz.out p (List.mem_of_getElem? hy)
      obtain ⟨W1, hW1⟩ : ∃ W1, wr.alloc (.cells #[.string p.1, .string p.2] 158) = W1 := ⟨_, rfl⟩
      have hbox : W1.heap[wr.heap.size]? = some (.cells #[.string p.1, .string p.2] 158 (0, 0)) := by rw [← hW1]; exact heap_alloc_new wr _
      have hB1 : Below w2.heap.size w2 W1 := by rw [← hW1]; exact below_al1' Hb.out _
      have l1 : ∀ q, (Instr.lookup 112 (.map (some b)) (.agg #[.string p.1, .string p.2]) false).run Tryz.prog (W1.drewN q) = .ok (.int .i64 (f p)) (W1.drewN q) := fun q => by
        have hb0 := ((HB.out.keep (HB2.out.block b HB.out.lt)).keep (hB1.block b (Nat.lt_of_lt_of_le HB.out.lt HB2.out.size)))
        obtain ⟨D0, h0, _⟩ := hb0
        have h1 : BalD (W1.drewN q) b n0 D0 f := h0
        exact h1.look plT1 hpz
      have l2 : ∀ q, (Instr.lookup 111 (.map (some B)) (.agg #[.string p.1, .string p.2]) false).run Tryz.prog (W1.drewN q) = .ok (.int .i64 (enA l p)) (W1.drewN q) := fun q => by
        have h1 : BalD (W1.drewN q) B 64 D (enA l) := HD2.out.keep (hB1.block B HD2.out.lt)
        exact h1.look plT2 hpz
      obtain ⟨c0, c1, -⟩ := cells2 hbox
      have g1 := Hf.out p
      have g2 := enA_bd (l := l) (fun m hm => by have := Hz.out.2 m hm; omega) p
      have g3 := Hz.out.1
      have hwr : IntKind.i64.wrap (f p + enA l p) = f p + enA l p := IntWalk.i64_in _ (by omega)
      have hst := He.out
      rw [hdr, refW_cons] at hst
      obtain ⟨x, hx⟩ : ∃ x, f p = x := ⟨_, rfl⟩
      obtain ⟨y, hy'⟩ : ∃ y, enA l p = y := ⟨_, rfl⟩
      rw [hx, hy'] at hst hwr
      rw [hx] at l1 g1
      rw [hy'] at l2 g2
      clear hx hy'
      have HW1 := Lib.hid hB1
      have hend : Below w2.heap.size w2 W1 → True := fun _ => trivial
      have HE : ∀ q, Hid (Below w.heap.size w (W1.drewN q)) := fun q => Lib.hid (below_dr (HB2.out.trans (hB1.mono HB2.out.size)) q)
      have HE2 : ∀ q, Hid (Below w2.heap.size w2 (W1.drewN q)) := fun q => Lib.hid (below_dr hB1 q)
      have HPz : p.1.size ≤ 9223372036854775807 := by have := hpz.1; omega
      have hne : w.heap.size ≤ w.heap.size := Nat.le_refl _
      clear hy hc hdr hbox hB1 g1 g2 g3 hend hne hpz
      by_cases v1 : mxQ < x + y
      · have hf := fun q => Hr.out 5 (W1.drewN q) (by rw [hst, if_pos (.inl v1)]) (HE q).out
        have HF := Lib.hid hf
        unfold mxQ at v1
        clear hst hf He Hr
        go_upto_region 6 with fail
        go_quiet (fail)
        go_wp2
        exact HF.out _
      by_cases v2 : x + y < -mxQ
      · have hf := fun q => Hr.out 5 (W1.drewN q) (by rw [hst, if_pos (.inr v2)]) (HE q).out
        have HF := Lib.hid hf
        unfold mxQ at v1 v2
        clear hst hf He Hr
        go_upto_region 6 with fail
        go_quiet (fail)
        go_wp2
        exact HF.out _
      rw [if_neg (by omega)] at hst
      unfold mxQ at v1 v2
      by_cases v3 : x + y < 0
      · have hpr : ∀ x, Hid (Calls Tryz.prog 381 #[.string p.1, .string ⟨#[111, 117, 116]⟩] (W1.drewN x) fun e w' => e = .returned (.bool (outB p.1)) ∧ W1.drewN x = w') := fun x => Lib.hid (hasp_any p.1 _ HPz)
        cases ho : outB p.1
        · rw [if_pos ⟨v3, ho⟩] at hst
          rw [ho] at hpr
          have HS := Lib.hid hst
          clear hst He Hr ho
          go_upto_region 6 with fail
          go_quiet (fail)
          go_wp2_with (go_at_call 381; (with_reducible refine (hpr _).out.mono ?_); rintro e w' ⟨rfl, rfl⟩)
          exact ⟨⟨k + 1, 10, hlt, by go_num, rfl, HS, HE2 _⟩, by simp [intOf] <;> omega⟩
        · rw [if_neg (fun h => by rw [ho] at h; exact absurd h.2 (by decide))] at hst
          rw [ho] at hpr
          have HS := Lib.hid hst
          clear hst He Hr ho
          go_upto_region 6 with fail
          go_quiet (fail)
          go_wp2_with (go_at_call 381; (with_reducible refine (hpr _).out.mono ?_); rintro e w' ⟨rfl, rfl⟩)
          exact ⟨⟨k + 1, ev, hlt, by go_num, rfl, HS, HE2 _⟩, by simp [intOf] <;> omega⟩
      · rw [if_neg (fun h => v3 h.1)] at hst
        have HS := Lib.hid hst
        clear hst He Hr
        go_upto_region 6 with fail
        go_quiet (fail)
        go_wp2_with fail
        exact ⟨⟨k + 1, ev, hlt, by go_num, rfl, HS, HE2 _⟩, by simp [intOf] <;> omega⟩
    · have hkn : k = m2 := by omega
      subst hkn
      have i1 : ¬ (k : Int) < (k : Int) := by omega
      have hf := Hr.out ev wr (by rw [He.out, List.drop_eq_nil_of_le (by rw [← HPn.out]; exact Nat.le_refl _)]; rfl) (HB2.out.trans (Hb.out.mono HB2.out.size))
      have HF := Lib.hid hf
      clear Hr hf He
      go_wp2
      exact HF.out
end
end
end Go.Proofs.YtndcijkgaadpgaaGreatDoor
