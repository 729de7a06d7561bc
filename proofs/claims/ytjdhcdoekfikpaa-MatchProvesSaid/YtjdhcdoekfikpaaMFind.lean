/-
  The contract of match's find: it is the plain search; condition: which columns a row may have is told by a function that only reads.
-/
import Derived.Test.YtjdhcdoekfikpaaMWBase
import Derived.Shelf.Abstract
import Derived.Deep.LoopGhost
namespace Go.Proofs.Ytjdhcdoekfikpaa
open Go.RowKit

/-- What tells which columns a row may have: a function value that only reads, as long as nothing below block B turns. -/
def MayOk (w0 : World) (B : Nat) (F : FuncId) (caps : Array Value) (n m : Nat) (g : Nat → Nat → Bool) : Prop :=
  ∀ (W : World) (r k : Nat), Below B w0 W → r < n → k < m → Calls Try.prog F (#[.int .i64 (r : Int), .int .i64 (k : Int)] ++ caps) W fun e W' => e = .returned (.bool (g r k)) ∧ Qt W W'
def RowsOk (n : Nat) (of : List Int) : Prop := ∀ k, of.getD k (-1) < (n : Int)
theorem find_unfold (g : Nat → Nat → Bool) (m f row : Nat) (of : List Int) (seen : List Bool) : findF g m (f + 1) row of seen = scanF (findF g m f) g row ((List.range m).drop 0) of seen := by simp [findF]
theorem scan_end (rec : Nat → List Int → List Bool → Sta) (g : Nat → Nat → Bool) (row m : Nat) (of : List Int) (seen : List Bool) : scanF rec g row ((List.range m).drop m) of seen = (of, seen, false) := by
  rw [List.drop_of_length_le (by simp)]; rfl
theorem drop_range_cons {m k : Nat} (h : k < m) : (List.range m).drop k = k :: (List.range m).drop (k + 1) := by
  rw [List.drop_eq_getElem_cons (by simpa using h)]; simp
section
variable {rec : Nat → List Int → List Bool → Sta} {g : Nat → Nat → Bool} {row m k : Nat} {of : List Int} {seen : List Bool}
theorem scan_skip (h : k < m) (hs : seen.getD k false = true ∨ g row k = false) : scanF rec g row ((List.range m).drop k) of seen = scanF rec g row ((List.range m).drop (k + 1)) of seen := by
  rw [drop_range_cons h, scanF, if_pos hs]
theorem scan_free (h : k < m) (hs : seen.getD k false = false) (hg : g row k = true) (hf : of.getD k (-1) < 0) : scanF rec g row ((List.range m).drop k) of seen = (of.set k (row : Int), seen.set k true, true) := by
  rw [drop_range_cons h, scanF, if_neg (by rw [hs, hg]; simp), if_pos hf]
theorem scan_yes (h : k < m) (hs : seen.getD k false = false) (hg : g row k = true) (hf : ¬ of.getD k (-1) < 0) {u : Sta} (hu : rec (of.getD k (-1)).toNat of (seen.set k true) = u) (hok : u.2.2 = true) : scanF rec g row ((List.range m).drop k) of seen = (u.1.set k (row : Int), u.2.1, true) := by
  rw [drop_range_cons h, scanF, if_neg (by rw [hs, hg]; simp), if_neg hf, hu, if_pos hok]
theorem scan_no (h : k < m) (hs : seen.getD k false = false) (hg : g row k = true) (hf : ¬ of.getD k (-1) < 0) {u : Sta} (hu : rec (of.getD k (-1)).toNat of (seen.set k true) = u) (hok : u.2.2 = false) : scanF rec g row ((List.range m).drop k) of seen = scanF rec g row ((List.range m).drop (k + 1)) u.1 u.2.1 := by
  rw [drop_range_cons h, scanF, if_neg (by rw [hs, hg]; simp), if_neg hf, hu, if_neg (by rw [hok]; simp)]
end
theorem qt_kx {S : Nat → Prop} {W W' : World} (h : Qt W W') : Kx S W W' := by
  obtain ⟨q, rfl⟩ := h
  exact ⟨rfl, rfl, rfl, Nat.le_refl _, fun _ _ _ => rfl⟩
theorem below_drewN {B : Nat} {W W' : World} (h : Below B W W') (n : Nat) : Below B W (W'.drewN n) := ⟨h.os, h.tape, h.output, h.size, h.block⟩
theorem fuel_zero {seen : List Bool} {k : Nat} (h : unseen seen ≤ 0) (hk : k < seen.length) (hs : seen.getD k false = false) : False := by
  have := unseen_set (k := k) hk (by rw [hs]; simp)
  omega
set_option maxHeartbeats 2000000 in
theorem find_any (w0 : World) (B bp n m n' : Nat) (F : FuncId) (caps : Array Value) (g : Nat → Nat → Bool) (br cr bs cs : Nat) (hent : Enters Try.prog F) (hmay : MayOk w0 B F caps n m g) (hm : m ≤ 1000) (_hn : n ≤ 1000) (hB1 : B ≤ br) (hB2 : B ≤ bs) :
    ∀ (f row : Nat) (of : List Int) (seen : List Bool) (W : World), unseen seen ≤ f → row < n → Fs W B bp n' m (.func (.func F) #[] caps) br cr bs cs of seen → Below B w0 W → B ≤ W.heap.size → Valid g m of → RowsOk n of →
    Calls Try.prog 67 #[.pointer (some ⟨bp, 0, none⟩), .int .i64 (row : Int)] W fun e W' => e = .returned (.bool (findF g m (f + 1) row of seen).2.2) ∧
      Fs W' B bp n' m (.func (.func F) #[] caps) br cr bs cs (findF g m (f + 1) row of seen).1 (findF g m (f + 1) row of seen).2.1 ∧ Kx (fun j => j = br ∨ j = bs) W W' := by
  intro f
  induction f using Nat.strongRecOn with
  | _ f ih =>
    intro row of seen W hun hrow hF hb hBW hv hr
    refine calls_cps ?_
    intro R hR
    have Ih := Lib.hid ih
    have Hmay := Lib.hid hmay
    have HF := Lib.hid hF
    have Hv := Lib.hid hv
    have Hr := Lib.hid hr
    have hent' : ∀ (args : Array Value) (w : World), (callFunc F args).run Try.prog w = .ok (.enter F args) w := hent
    obtain ⟨q0, q1, q2, q3, q4, q5⟩ := hF.cells
    have hlen := hF.len
    have Hlen := Lib.hid hlen
    clear ih hmay hF hv hr hent hlen
    go_enter Try.func67, Try.ntmps67
    go_wp2_with fail
    go_loopg [5, 11] m (fun gk s5 s11 wr => ∃ k seen', k + gk = m ∧ s11 = .int .i64 ((k : Nat) : Int) ∧ Fs wr B bp n' m (.func (.func F) #[] caps) br cr bs cs of seen' ∧ Kx (fun j => j = br ∨ j = bs) W wr ∧ unseen seen' ≤ f ∧
      Hid (findF g m (f + 1) row of seen = scanF (findF g m f) g row ((List.range m).drop k) of seen'))
    case atStart => exact ⟨0, seen, by omega, rfl, HF.out, Kx.refl _ _, hun, Lib.hid (find_unfold _ _ _ _ _ _)⟩
    case round =>
      clear q0 q1 q2 q3 q4 q5
      obtain ⟨k, seen', hgk, rfl, hF, hK, hun', He⟩ := hrel
      obtain ⟨wi, rfl⟩ : ∃ wi : World, wi = wr := ⟨_, rfl⟩
      by_cases hlt : k < m
      · obtain ⟨q0, q1, q2, q3, q4, q5⟩ := hF.cells
        obtain ⟨c1, c2, c3, c4⟩ := hF.at_ hlt
        have HFi := Lib.hid hF
        have hbi : Below B w0 wi := Kx.low hb hK (by rintro j (rfl | rfl) <;> assumption) hBW
        clear hF
        have i1 : (k : Int) < (m : Int) := by omega
        have hls : seen'.length = m := HFi.out.len.2
        cases hs : seen'.getD k false with
        | true =>
          rw [hs] at c2
          have HE := Lib.hid (He.out.trans (scan_skip hlt (.inl hs)))
          clear hls hs
          go_wp2_with fail
          go_roundg (gk - 1)
          case measure => omega
          case rel => exact ⟨k + 1, seen', by omega, by go_num, HFi.out, hK, hun', Lib.hid HE.out⟩
        | false =>
          rw [hs] at c2
          have Hs := Lib.hid hs
          have Hls := Lib.hid hls
          obtain ⟨x, hx⟩ : ∃ x, of.getD k (-1) = x := ⟨_, rfl⟩
          rw [hx] at c1
          have Hx := Lib.hid hx
          clear hs hls hx
          go_wp2_with fail
          refine (Hmay.out _ row k hbi hrow hlt).mono ?_
          cases hg : g row k with
          | false =>
            have HE := Lib.hid (He.out.trans (scan_skip hlt (.inr hg)))
            clear hg
            rintro e w1 ⟨rfl, q, rfl⟩
            go_wp2_with fail
            go_roundg (gk - 1)
            case measure => omega
            case rel => exact ⟨k + 1, seen', by omega, by go_num, HFi.out.drewN q, hK.drewN q, hun', Lib.hid HE.out⟩
          | true =>
            obtain ⟨f', rfl⟩ : ∃ f', f = f' + 1 := ⟨f - 1, by
              have : ¬ unseen seen' ≤ 0 := fun h => fuel_zero h (by rw [Hls.out]; exact hlt) Hs.out
              omega⟩
            have Hg := Lib.hid hg
            clear hg
            rintro e w1 ⟨rfl, q, rfl⟩
            have hFd := HFi.out.drewN q
            have hKd := hK.drewN q
            have hbd := below_drewN hbi q
            generalize wi.drewN q = wd at *
            obtain ⟨d0, d1, d2, d3, d4, d5⟩ := hFd.cells
            obtain ⟨e1, e2, e3, e4⟩ := hFd.at_ hlt
            rw [Hx.out] at e1
            rw [Hs.out] at e2
            obtain ⟨n1, n2, n3⟩ := hFd.ne
            obtain ⟨hF2, hK2⟩ := hFd.see k
            have hK3 : Kx (fun j => j = br ∨ j = bs) W (wd.setCell ⟨bs, k, none⟩ (.bool true)) := hKd.trans hK2 (fun _ _ h => h)
            obtain ⟨y0, y1, y2, y3, y4, y5⟩ := hF2.cells
            obtain ⟨z1, z2, z3, z4⟩ := hF2.at_ hlt
            rw [Hx.out] at z1
            have hb3 : Below B w0 (wd.setCell ⟨bs, k, none⟩ (.bool true)) := Kx.low hb hK3 (by rintro j (rfl | rfl) <;> assumption) hBW
            have hun3 : unseen (seen'.set k true) ≤ f' := by
              have := unseen_set (seen := seen') (k := k) (by rw [Hls.out]; exact hlt) (by rw [Hs.out]; simp)
              omega
            have HF2 := Lib.hid hF2
            have HK3 := Lib.hid hK3
            have HB3 := Lib.hid hb3
            have Hun3 := Lib.hid hun3
            clear hF2 hK2 hK3 hFd hKd hbd hb3 hun3 q0 q1 q2 q3 q4 q5 c1 c2 c3 c4
            by_cases hx0 : x < 0
            · have he := He.out.trans (scan_free hlt Hs.out Hg.out (by rw [Hx.out]; exact hx0))
              obtain ⟨hF4, hK4⟩ := HF2.out.put k (row : Int)
              have Hfin := Lib.hid (hR.out (.returned (.bool true)) _ (by rw [he]; exact ⟨rfl, hF4, HK3.out.trans hK4 (fun _ _ h => h)⟩))
              clear he hF4 hK4
              go_wp2
              exact Hfin.out
            · obtain ⟨r', rfl⟩ : ∃ r' : Nat, x = r' := ⟨x.toNat, by omega⟩
              have hr' : r' < n := by have := Hr.out k; rw [Hx.out] at this; omega
              have hge : (0 : Int) ≤ (r' : Int) := by omega
              obtain ⟨u, hu⟩ : ∃ u, findF g m (f' + 1) r' of (seen'.set k true) = u := ⟨_, rfl⟩
              have hux : findF g m (f' + 1) (of.getD k (-1)).toNat of (seen'.set k true) = u := by rw [Hx.out]; exact hu
              have hP := find_post g m of HFi.out.len.1 Hv.out (f' + 1) r' (seen'.set k true) (by rw [List.length_set]; exact Hls.out) (by have := Hun3.out; omega)
              rw [hu] at hP
              have HU := Lib.hid hu
              have HUX := Lib.hid hux
              have HP := Lib.hid hP
              clear hu hux hP hx0
              go_wp2_with fail
              refine (Ih.out f' (by omega) r' of (seen'.set k true) _ Hun3.out hr' HF2.out HB3.out (by have := HK3.out.size; omega) Hv.out Hr.out).mono ?_
              rw [HU.out]
              rintro e w4 ⟨rfl, hF4, hK4⟩
              cases hok : u.2.2 with
              | true =>
                have he := He.out.trans (scan_yes hlt Hs.out Hg.out (by rw [Hx.out]; omega) HUX.out hok)
                obtain ⟨y0, y1, y2, y3, y4, y5⟩ := hF4.cells
                obtain ⟨z1, z2, z3, z4⟩ := hF4.at_ hlt
                obtain ⟨hF5, hK5⟩ := hF4.put k (row : Int)
                have Hfin := Lib.hid (hR.out (.returned (.bool true)) _ (by rw [he]; exact ⟨rfl, hF5, (HK3.out.trans hK4 (fun _ _ h => h)).trans hK5 (fun _ _ h => h)⟩))
                clear he hF4 hF5 hK4 hK5 hok
                go_wp2
                exact Hfin.out
              | false =>
                have he := He.out.trans (scan_no hlt Hs.out Hg.out (by rw [Hx.out]; omega) HUX.out hok)
                have h1 := (HP.out.no hok).1
                rw [h1] at he hF4
                have HE := Lib.hid he
                have hls4 : unseen u.2.1 ≤ f' := by
                  have := unseen_mono (a := seen'.set k true) (b := u.2.1) (by rw [List.length_set, Hls.out, HP.out.l2]) HP.out.mono
                  have := Hun3.out
                  omega
                have hK5 := HK3.out.trans hK4 (fun _ _ h => h)
                clear he h1 hok hK4
                go_wp2_with fail
                go_roundg (gk - 1)
                case measure => omega
                case rel => exact ⟨k + 1, u.2.1, by omega, by go_num, hF4, hK5, by omega, Lib.hid HE.out⟩
      · obtain rfl : m = k := by omega
        have he := He.out
        rw [scan_end] at he
        have Hfin := Lib.hid (hR.out (.returned (.bool false)) wi (by rw [he]; exact ⟨rfl, hF, hK⟩))
        clear hF hK he
        go_wp2
        exact Hfin.out
end Go.Proofs.Ytjdhcdoekfikpaa
