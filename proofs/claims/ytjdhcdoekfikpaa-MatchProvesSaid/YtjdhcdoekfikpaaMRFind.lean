/-
  The contract of the document's find: it is the plain search; condition: the table reads, all rows of one length.
-/
import Derived.Test.YtjdhcdoekfikpaaMFind
namespace Go.Proofs.Ytjdhcdoekfikpaa
open Go.RowKit

/-- The search's state: the row of each column, which columns were seen. -/
structure Gs (W : World) (B m : Nat) (br cr bs cs : Nat) (of : List Int) (seen : List Bool) : Prop where
  row : W.ownsRow B 3 1 (.slice (some ⟨br, 0, none⟩) m cr) m (of.map (Value.int .i64))
  sn : W.ownsRow B 4 1 (.slice (some ⟨bs, 0, none⟩) m cs) m (seen.map Value.bool)
section
variable {W W' : World} {B m : Nat} {br cr bs cs : Nat} {of : List Int} {seen : List Bool}
theorem Gs.ne (h : Gs W B m br cr bs cs of seen) : br ≠ bs := by
  obtain ⟨_, _, c1, h1, _⟩ := row_heap h.row
  obtain ⟨_, _, c2, h2, _⟩ := row_heap h.sn
  exact fun e => by rw [e, h2] at h1; simp at h1
theorem Gs.len (h : Gs W B m br cr bs cs of seen) : of.length = m ∧ seen.length = m := ⟨by have := h.row.1; simpa using this, by have := h.sn.1; simpa using this⟩
theorem Gs.see (h : Gs W B m br cr bs cs of seen) (k : Nat) : Gs (W.setCell ⟨bs, k, none⟩ (.bool true)) B m br cr bs cs of (seen.set k true) ∧ Kx (fun j => j = br ∨ j = bs) W (W.setCell ⟨bs, k, none⟩ (.bool true)) := by
  have n3 := h.ne
  obtain ⟨s1, s2⟩ := h.sn.stored k (.bool true)
  exact ⟨⟨h.row.kept s2 (.inr (by simp [Value.ownBlock]; exact n3)), by rw [map_set']; exact s1⟩, (Kx.refl _ _).grown s2 (fun j hj => .inl (.inr (by injection hj with hj; exact hj.symm)))⟩
theorem Gs.put (h : Gs W B m br cr bs cs of seen) (k : Nat) (r : Int) : Gs (W.setCell ⟨br, k, none⟩ (.int .i64 r)) B m br cr bs cs (of.set k r) seen ∧ Kx (fun j => j = br ∨ j = bs) W (W.setCell ⟨br, k, none⟩ (.int .i64 r)) := by
  have n3 := h.ne
  obtain ⟨s1, s2⟩ := h.row.stored k (.int .i64 r)
  exact ⟨⟨by rw [map_set']; exact s1, h.sn.kept s2 (.inr (by simp [Value.ownBlock]; exact fun e => n3 e.symm))⟩, (Kx.refl _ _).grown s2 (fun j hj => .inl (.inl (by injection hj with hj; exact hj.symm)))⟩
theorem Gs.at_ (h : Gs W B m br cr bs cs of seen) {k : Nat} (hk : k < m) : W.cell? ⟨br, k, none⟩ = some (.int .i64 (of.getD k (-1))) ∧ W.cell? ⟨bs, k, none⟩ = some (.bool (seen.getD k false)) ∧ W.frozen? ⟨br, k, none⟩ = false ∧ W.frozen? ⟨bs, k, none⟩ = false := by
  obtain ⟨l1, l2⟩ := h.len
  refine ⟨?_, ?_, h.row.frozenAt k, h.sn.frozenAt k⟩
  · rw [h.row.cellAt k (by omega), getD_get _ _ _ (by omega)]; simp [show k < of.length by omega]
  · rw [h.sn.cellAt k (by omega), getD_get _ _ _ (by omega)]; simp [show k < seen.length by omega]
theorem Gs.cap (h : Gs W B m br cr bs cs of seen) : m ≤ cr ∧ m ≤ cs ∧ cr ≤ 9223372036854775807 ∧ cs ≤ 9223372036854775807 := by
  obtain ⟨_, _, _, _, a, b⟩ := row_heap h.row
  obtain ⟨_, _, _, _, c, d⟩ := row_heap h.sn
  unfold maxLen at b d
  exact ⟨a, c, by omega, by omega⟩
end
/-- A cost of the table, as the walk asks for it. -/
theorem table_at {w0 W : World} {A : Option Addr} {n m r k : Nat} {T : List (List Int)} (hT : SlR w0 A n T) (hrect : ∀ x ∈ T, x.length = m) (hb : Below w0.heap.size w0 W) (hr : r < n) (hk : k < m) :
    ∃ b o Ai ci bi oi, A = some ⟨b, o, none⟩ ∧ b < w0.heap.size ∧ bi < w0.heap.size ∧ W.cell? ⟨b, o + r, none⟩ = some (.slice (some ⟨bi, oi, none⟩) m ci) ∧ Ai = some (⟨bi, oi, none⟩ : Addr) ∧ W.cell? ⟨bi, oi + k, none⟩ = some (.int .i64 (ct T r k)) := by
  obtain ⟨b, o, x, Ai, ci, hA, hlt, hx, hc, hs⟩ := hT.at_ hr
  have hxl : x.length = m := hrect x (List.mem_of_getElem? hx)
  rw [hxl] at hc hs
  obtain ⟨bi, oi, v, hAi, hbi, hv, hcell⟩ := hs.at1 hk
  subst hAi
  refine ⟨b, o, _, ci, bi, oi, hA, hlt, hbi, (hb.cell (p := ⟨b, o + r, none⟩) hlt).trans hc, rfl, ?_⟩
  rw [hb.cell (p := ⟨bi, oi + k, none⟩) hbi, hcell]
  have e1 : T.getD r [] = x := by rw [List.getD_eq_getElem?_getD, hx]; rfl
  have e2 : x.getD k (-1) = v := by rw [List.getD_eq_getElem?_getD, hv]; rfl
  unfold ct
  rw [e1, e2]
set_option maxHeartbeats 2000000 in
theorem refFind_any (w0 : World) (A : Option Addr) (n c m : Nat) (T : List (List Int)) (hT : SlR w0 A n T) (hrect : ∀ x ∈ T, x.length = m) (hm : m ≤ 1000) (_hn : n ≤ 1000) (br cr bs cs : Nat) (hB1 : w0.heap.size ≤ br) (hB2 : w0.heap.size ≤ bs) :
    ∀ (f row : Nat) (of : List Int) (seen : List Bool) (W : World), unseen seen ≤ f → row < n → Gs W w0.heap.size m br cr bs cs of seen → Below w0.heap.size w0 W → Valid (gT T) m of → RowsOk n of →
    Calls Try.prog 56 #[.slice A n c, .int .i64 (row : Int), .slice (some ⟨br, 0, none⟩) m cr, .slice (some ⟨bs, 0, none⟩) m cs] W fun e W' =>
      e = .returned (.tuple #[.slice (some ⟨br, 0, none⟩) m cr, .slice (some ⟨bs, 0, none⟩) m cs, .bool (findF (gT T) m (f + 1) row of seen).2.2]) ∧
      Gs W' w0.heap.size m br cr bs cs (findF (gT T) m (f + 1) row of seen).1 (findF (gT T) m (f + 1) row of seen).2.1 ∧ Kx (fun j => j = br ∨ j = bs) W W' := by
  intro f
  induction f using Nat.strongRecOn with
  | _ f ih =>
    intro row of seen W hun hrow hF hb hv hr
    refine calls_cps ?_
    intro R hR
    have Ih := Lib.hid ih
    have HF := Lib.hid hF
    have Hv := Lib.hid hv
    have Hr := Lib.hid hr
    have Hrect := Lib.hid hrect
    have HT := Lib.hid hT
    have hlen := hF.len
    have Hlen := Lib.hid hlen
    have hBW : w0.heap.size ≤ W.heap.size := hb.size
    clear ih hF hv hr hlen hrect hT
    go_enter Try.func56, Try.ntmps56
    go_wp2_with fail
    go_loopg [2, 3, 11] m (fun gk s2 s3 s11 wr => ∃ k seen', k + gk = m ∧ s2 = .slice (some ⟨br, 0, none⟩) m cr ∧ s3 = .slice (some ⟨bs, 0, none⟩) m cs ∧ s11 = .int .i64 ((k : Nat) : Int) ∧ Gs wr w0.heap.size m br cr bs cs of seen' ∧ Kx (fun j => j = br ∨ j = bs) W wr ∧ unseen seen' ≤ f ∧
      Hid (findF (gT T) m (f + 1) row of seen = scanF (findF (gT T) m f) (gT T) row ((List.range m).drop k) of seen'))
    case atStart => exact ⟨0, seen, by omega, rfl, rfl, rfl, HF.out, Kx.refl _ _, hun, Lib.hid (find_unfold _ _ _ _ _ _)⟩
    case round =>
      obtain ⟨k, seen', hgk, rfl, rfl, rfl, hF, hK, hun', He⟩ := hrel
      obtain ⟨wi, rfl⟩ : ∃ wi : World, wi = wr := ⟨_, rfl⟩
      by_cases hlt : k < m
      · obtain ⟨c1, c2, c3, c4⟩ := hF.at_ hlt
        have HFi := Lib.hid hF
        have hbi : Below w0.heap.size w0 wi := Kx.low hb hK (by rintro j (rfl | rfl) <;> assumption) hBW
        obtain ⟨b, o, Ai, ci, bi, oi, rfl, hbl, hbil, t1, _, t2⟩ := table_at HT.out Hrect.out hbi hrow hlt
        have n1 : b ≠ bs := by omega
        have n2 : bi ≠ bs := by omega
        have n3 := hF.ne
        clear hF
        have i1 : (k : Int) < (m : Int) := by omega
        have i2 : (row : Int) < (n : Int) := by omega
        have hls : seen'.length = m := HFi.out.len.2
        obtain ⟨y, hy⟩ : ∃ y, ct T row k = y := ⟨_, rfl⟩
        rw [hy] at t2
        have hgy : gT T row k = decide (0 ≤ y) := by unfold gT; rw [hy]
        have Hgy := Lib.hid hgy
        clear hy hgy
        by_cases hy0 : y < 0
        · have HE := Lib.hid (He.out.trans (scan_skip hlt (.inr (by rw [Hgy.out]; simp; omega))))
          clear hls
          go_wp2_with fail
          go_roundg (gk - 1)
          case measure => omega
          case rel => exact ⟨k + 1, seen', by omega, rfl, rfl, by go_num, HFi.out, hK, hun', Lib.hid HE.out⟩
        have hy1 : 0 ≤ y := by omega
        clear hy0
        cases hs : seen'.getD k false with
        | true =>
          rw [hs] at c2
          have HE := Lib.hid (He.out.trans (scan_skip hlt (.inl hs)))
          clear hls hs
          go_wp2_with fail
          go_roundg (gk - 1)
          case measure => omega
          case rel => exact ⟨k + 1, seen', by omega, rfl, rfl, by go_num, HFi.out, hK, hun', Lib.hid HE.out⟩
        | false =>
          rw [hs] at c2
          have Hs := Lib.hid hs
          have Hls := Lib.hid hls
          obtain ⟨x, hx⟩ : ∃ x, of.getD k (-1) = x := ⟨_, rfl⟩
          rw [hx] at c1
          have Hx := Lib.hid hx
          have Hg := Lib.hid (show gT T row k = true by rw [Hgy.out]; simp; omega)
          obtain ⟨f', rfl⟩ : ∃ f', f = f' + 1 := ⟨f - 1, by
            have : ¬ unseen seen' ≤ 0 := fun h => fuel_zero h (by rw [Hls.out]; exact hlt) Hs.out
            omega⟩
          clear hs hls hx
          obtain ⟨hF2, hK2⟩ := HFi.out.see k
          have hK3 : Kx (fun j => j = br ∨ j = bs) W (wi.setCell ⟨bs, k, none⟩ (.bool true)) := hK.trans hK2 (fun _ _ h => h)
          obtain ⟨z1, z2, z3, z4⟩ := hF2.at_ hlt
          rw [Hx.out] at z1
          have hb3 : Below w0.heap.size w0 (wi.setCell ⟨bs, k, none⟩ (.bool true)) := Kx.low hb hK3 (by rintro j (rfl | rfl) <;> assumption) hBW
          have hun3 : unseen (seen'.set k true) ≤ f' := by
            have := unseen_set (seen := seen') (k := k) (by rw [Hls.out]; exact hlt) (by rw [Hs.out]; simp)
            omega
          have HF2 := Lib.hid hF2
          have HK3 := Lib.hid hK3
          have HB3 := Lib.hid hb3
          have Hun3 := Lib.hid hun3
          clear hF2 hK2 hK3 hb3 hun3
          by_cases hx0 : x < 0
          · have he := He.out.trans (scan_free hlt Hs.out Hg.out (by rw [Hx.out]; exact hx0))
            obtain ⟨hF4, hK4⟩ := HF2.out.put k (row : Int)
            have Hfin := Lib.hid (hR.out (.returned (.tuple #[.slice (some ⟨br, 0, none⟩) m cr, .slice (some ⟨bs, 0, none⟩) m cs, .bool true])) _ (by rw [he]; exact ⟨rfl, hF4, HK3.out.trans hK4 (fun _ _ h => h)⟩))
            clear he hF4 hK4
            go_wp2
            go_ret3
            exact Hfin.out
          · obtain ⟨r', rfl⟩ : ∃ r' : Nat, x = r' := ⟨x.toNat, by omega⟩
            have hr' : r' < n := by have := Hr.out k; rw [Hx.out] at this; omega
            have hge : (0 : Int) ≤ (r' : Int) := by omega
            obtain ⟨u, hu⟩ : ∃ u, findF (gT T) m (f' + 1) r' of (seen'.set k true) = u := ⟨_, rfl⟩
            have hux : findF (gT T) m (f' + 1) (of.getD k (-1)).toNat of (seen'.set k true) = u := by rw [Hx.out]; exact hu
            have hP := find_post (gT T) m of HFi.out.len.1 Hv.out (f' + 1) r' (seen'.set k true) (by rw [List.length_set]; exact Hls.out) (by have := Hun3.out; omega)
            rw [hu] at hP
            have HU := Lib.hid hu
            have HUX := Lib.hid hux
            have HP := Lib.hid hP
            clear hu hux hP hx0
            go_wp2_with fail
            refine (Ih.out f' (by omega) r' of (seen'.set k true) _ Hun3.out hr' HF2.out HB3.out Hv.out Hr.out).mono ?_
            rw [HU.out]
            rintro e w4 ⟨rfl, hF4, hK4⟩
            cases hok : u.2.2 with
            | true =>
              have he := He.out.trans (scan_yes hlt Hs.out Hg.out (by rw [Hx.out]; omega) HUX.out hok)
              obtain ⟨z1, z2, z3, z4⟩ := hF4.at_ hlt
              obtain ⟨hF5, hK5⟩ := hF4.put k (row : Int)
              have Hfin := Lib.hid (hR.out (.returned (.tuple #[.slice (some ⟨br, 0, none⟩) m cr, .slice (some ⟨bs, 0, none⟩) m cs, .bool true])) _ (by rw [he]; exact ⟨rfl, hF5, (HK3.out.trans hK4 (fun _ _ h => h)).trans hK5 (fun _ _ h => h)⟩))
              clear he hF4 hF5 hK4 hK5 hok
              go_wp2
              go_ret3
              exact Hfin.out
            | false =>
              have he := He.out.trans (scan_no hlt Hs.out Hg.out (by rw [Hx.out]; omega) HUX.out hok)
              have h1 := (HP.out.no hok).1
              rw [h1] at he hF4
              have HE := Lib.hid he
              have hls4 : unseen u.2.1 ≤ f' := by
                have := unseen_mono (a := seen'.set k true) (b := u.2.1) (by rw [List.length_set, Hls.out, HP.out.l2]) HP.out.mono
                have := Hun3.out
                omega
              have hK5 := HK3.out.trans hK4 (fun _ _ h => h)
              clear he h1 hok hK4
              go_wp2_with fail
              go_roundg (gk - 1)
              case measure => omega
              case rel => exact ⟨k + 1, u.2.1, by omega, rfl, rfl, by go_num, hF4, hK5, by omega, Lib.hid HE.out⟩
      · obtain rfl : m = k := by omega
        have he := He.out
        rw [scan_end] at he
        have Hfin := Lib.hid (hR.out (.returned (.tuple #[.slice (some ⟨br, 0, none⟩) m cr, .slice (some ⟨bs, 0, none⟩) m cs, .bool false])) wi (by rw [he]; exact ⟨rfl, hF, hK⟩))
        clear hF hK he
        go_wp2
        go_ret3
        exact Hfin.out
end Go.Proofs.Ytjdhcdoekfikpaa
