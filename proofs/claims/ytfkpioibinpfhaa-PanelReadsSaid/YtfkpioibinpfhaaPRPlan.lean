/-
  The contract of clavecinref08.plan: the plan that the document names; condition: the rectangle lies within the table of a valid panel.
-/
import Derived.Test.YtfkpioibinpfhaaPTable
namespace Go.Proofs.Ytfkpioibinpfhaa
open Go.RowKit

/-- A plan has fewer than twice as many cuts as the rectangle has squares. -/
theorem planL_len (k : Int) (ss : List Shp) (hk : 0 ≤ k) : ∀ (f : Nat) (w h : Int), w.toNat + h.toNat ≤ f → 1 ≤ w → 1 ≤ h → ((planL k ss w h).length : Int) + 1 ≤ 2 * (w * h) := by
  intro f
  induction f with
  | zero => intro w h hf hw hh; omega
  | succ f ih =>
    intro w h hf hw hh
    obtain ⟨⟨⟨c, a⟩, v⟩, hp, hm, hv⟩ := pick_some k ss hk w h hw hh
    rw [planL_eq k ss hk w h hw hh hp]
    have hwh : 1 ≤ w * h := by have := Int.mul_le_mul hw hh (by omega) (by omega); simpa using this
    rcases (mem_ways _ k ss w h hw hh _).1 hm with h1 | ⟨j, s, _, ⟨_, _, h1⟩ | ⟨_, _, _, h1⟩⟩ | ⟨b, hb1, hb2, h1⟩ | ⟨b, hb1, hb2, h1⟩ <;> simp only [Prod.mk.injEq] at h1 <;> obtain ⟨⟨rfl, rfl⟩, rfl⟩ := h1
    · simp; omega
    · simp; omega
    · simp; omega
    · simp only [if_true, List.length_cons, List.length_append]
      have i1 := ih a h (by omega) hb1 hh
      have e1 : w * h = a * h + (w - a) * h := by rw [← Int.add_mul]; congr 1; omega
      have i2 : ((planL k ss (w - a - k) h).length : Int) + 1 ≤ 2 * ((w - a) * h) := by
        by_cases hr : w - a - k < 1
        · rw [planL_lt k ss _ h (.inl hr)]
          have : 1 ≤ (w - a) * h := by have := Int.mul_le_mul (show 1 ≤ w - a by omega) hh (by omega) (by omega); simpa using this
          simp; omega
        · have i3 := ih (w - a - k) h (by omega) (by omega) hh
          have := Int.mul_le_mul_of_nonneg_right (show w - a - k ≤ w - a by omega) (show 0 ≤ h by omega)
          omega
      omega
    · simp only [if_neg (show ¬ (4 : Int) = 3 by omega), if_true, List.length_cons, List.length_append]
      have i1 := ih w a (by omega) hw hb1
      have e1 : w * h = w * a + w * (h - a) := by rw [← Int.mul_add]; congr 1; omega
      have i2 : ((planL k ss w (h - a - k)).length : Int) + 1 ≤ 2 * (w * (h - a)) := by
        by_cases hr : h - a - k < 1
        · rw [planL_lt k ss w _ (.inr hr)]
          have : 1 ≤ w * (h - a) := by have := Int.mul_le_mul hw (show 1 ≤ h - a by omega) (by omega) (by omega); simpa using this
          simp; omega
        · have i3 := ih w (h - a - k) (by omega) hw (by omega)
          have := Int.mul_le_mul_of_nonneg_left (show h - a - k ≤ h - a by omega) (show 0 ≤ w by omega)
          omega
      omega
theorem planL_len64 (k : Int) (ss : List Shp) (hk : 0 ≤ k) (w h : Int) (hw : w ≤ 64) (hh : h ≤ 64) : (planL k ss w h).length ≤ 8192 := by
  by_cases hlt : w < 1 ∨ h < 1
  · rw [planL_lt k ss w h hlt]; simp
  · have h1 := planL_len k ss hk _ w h (Nat.le_refl _) (by omega) (by omega)
    have h2 : w * h ≤ 64 * 64 := Int.mul_le_mul hw hh (by omega) (by omega)
    omega
theorem find_drop_no {α : Type} (p : α → Bool) (l : List α) (i : Nat) (x : α) (hx : l[i]? = some x) (hp : p x = false) : (l.drop i).find? p = (l.drop (i + 1)).find? p := by
  obtain ⟨hi, rfl⟩ := List.getElem?_eq_some_iff.1 hx
  rw [List.drop_eq_getElem_cons hi, List.find?_cons, hp]
theorem find_drop_yes {α : Type} (p : α → Bool) (l : List α) (i : Nat) (x : α) (hx : l[i]? = some x) (hp : p x = true) : (l.drop i).find? p = some x := by
  obtain ⟨hi, rfl⟩ := List.getElem?_eq_some_iff.1 hx
  rw [List.drop_eq_getElem_cons hi, List.find?_cons, hp]
/-- What a plan's slice is: its row is owned from the call's first block on. -/
def PlanRet (w : World) (base : Nat) (v : Value) (l : List (Int × Int)) : Prop := w.ownsRow base 81 2 v l.length (l.flatMap cutE)
/-- One element of a table's row, as the walk asks for it. -/
theorem slr_at {W : World} {A : Option Addr} {n : Nat} {rows : List (List Int)} (h : SlR W A n rows) {i j : Nat} {r : List Int} {v : Int} (hr : rows[i]? = some r) (hv : r[j]? = some v) :
    ∃ b o b2 o2 ci, A = some ⟨b, o, none⟩ ∧ i < n ∧ j < r.length ∧ W.cell? ⟨b, o + i, none⟩ = some (.slice (some ⟨b2, o2, none⟩) r.length ci) ∧ W.cell? ⟨b2, o2 + j, none⟩ = some (.int .i64 v) := by
  have hi : i < rows.length := (List.getElem?_eq_some_iff.1 hr).1
  have hj : j < r.length := (List.getElem?_eq_some_iff.1 hv).1
  obtain ⟨b, o, hA, hb, hc⟩ := h.2 (by rw [h.1]; omega)
  obtain ⟨Ai, ci, h1, h2⟩ := hc i r hr
  obtain ⟨b2, o2, y, hA2, hb2, hy, h3⟩ := h2.at1 hj
  subst hA2
  rw [hv] at hy
  injection hy with hy
  subst hy
  exact ⟨b, o, b2, o2, ci, hA, by rw [h.1]; exact hi, hj, h1, h3⟩

theorem own_below {W W' : World} {b e s n : Nat} {v : Value} {xs : List Value} (h : W.ownsRow b e s v n xs) (hb : Below W.heap.size W W') : W'.ownsRow b e s v n xs :=
  h.kept (row := none) ⟨hb.os, hb.tape, hb.output, hb.size, fun k hk _ => hb.block k hk⟩ (by cases v.ownBlock <;> simp)
theorem below_drewN {B : Nat} {W W' : World} (h : Below B W W') (n : Nat) : Below B W (W'.drewN n) := ⟨h.os, h.tape, h.output, h.size, h.block⟩
theorem own_base {W : World} {b b' e s n : Nat} {v : Value} {xs : List Value} (h : W.ownsRow b e s v n xs) (hb : b' ≤ b) : W.ownsRow b' e s v n xs := by
  refine ⟨h.1, ?_⟩
  rcases h.2 with h0 | ⟨g, c, cur, h1, h2, h3⟩
  · exact .inl h0
  · exact .inr ⟨g, c, cur, h1, Nat.le_trans hb h2, h3⟩
theorem cut_one (l : List (Int × Int)) : ∀ u ∈ l.flatMap cutE, u.oneCell' = true := by
  intro u hu
  obtain ⟨x, _, hx⟩ := List.mem_flatMap.1 hu
  simp only [cutE, List.mem_cons, List.not_mem_nil, or_false] at hx
  rcases hx with rfl | rfl <;> rfl
set_option maxRecDepth 100000 in
set_option maxHeartbeats 4000000 in
theorem refPlan_any (W H : Nat) (hW : W ≤ 64) (hH : H ≤ 64) (k : Int) (ss : List Shp) (hk0 : 0 ≤ k) (hk8 : k ≤ 8) (hss : ss.length ≤ 16) (hok : ∀ s ∈ ss, 1 ≤ s.W ∧ 1 ≤ s.H ∧ 0 ≤ s.V ∧ s.V ≤ 1000000) :
    ∀ (f : Nat) (A : Option Addr) (c : Nat) (x y : Int) (B : Option Addr) (m d : Nat) (w : World), x.toNat + y.toNat ≤ f → SlR w A W (tabV k ss W H) → SlE Shp.enc 4 w B m ss → x ≤ W → y ≤ H → -1000 ≤ x → -1000 ≤ y →
    Calls Try.prog 41 #[.slice A W c, .int .i64 x, .int .i64 y, .int .i64 k, .slice B m d] w fun e w' => ∃ v, e = .returned v ∧ PlanRet w' w.heap.size v (planL k ss x y) ∧ Below w.heap.size w w' := by
  intro f
  induction f with
  | zero =>
    intro A c x y B m d w hf hT hS hxW hyH hx0 hy0
    refine calls_cps ?_
    intro R hR
    have Hfin := Lib.hid (show R (.returned (.slice none 0 0)) w from hR.out _ _ ⟨_, rfl, by rw [planL_lt k ss x y (by omega)]; exact World.ownsRow_nil w _ _ _, Below.refl _ _⟩)
    have hx1 : x < 1 := by omega
    clear hT hS hok
    go_enter Try.func41, Try.ntmps41
    go_wp2
    exact Hfin.out
  | succ f ih =>
    intro A c x y B m d w hf hT hS hxW hyH hx0 hy0
    refine calls_cps ?_
    intro R hR
    by_cases hx1 : x < 1
    · have Hfin := Lib.hid (show R (.returned (.slice none 0 0)) w from hR.out _ _ ⟨_, rfl, by rw [planL_lt k ss x y (by omega)]; exact World.ownsRow_nil w _ _ _, Below.refl _ _⟩)
      clear hT hS hok ih
      go_enter Try.func41, Try.ntmps41
      go_wp2
      exact Hfin.out
    · by_cases hy1 : y < 1
      · have Hfin := Lib.hid (show R (.returned (.slice none 0 0)) w from hR.out _ _ ⟨_, rfl, by rw [planL_lt k ss x y (by omega)]; exact World.ownsRow_nil w _ _ _, Below.refl _ _⟩)
        clear hT hS hok ih
        go_enter Try.func41, Try.ntmps41
        go_wp2
        exact Hfin.out
      · have IH := Lib.hid ih
        clear ih
        obtain ⟨i1, hi1⟩ : ∃ i1 : Nat, x = i1 + 1 := ⟨(x - 1).toNat, by omega⟩
        obtain ⟨j1, hj1⟩ : ∃ j1 : Nat, y = j1 + 1 := ⟨(y - 1).toNat, by omega⟩
        subst hi1 hj1
        have HR1 := Lib.hid (show ∀ r ∈ tabV k ss W H, (j1 : Int) + 1 ≤ r.length ∧ r.length ≤ 64 from fun r hr => by
          simp only [tabV, List.mem_map, List.mem_range] at hr
          obtain ⟨a, _, rfl⟩ := hr
          rw [rowV_len]; omega)
        have HR2 := Lib.hid (tabF_mem (tabV k ss W H) 1000000000000 (by omega) (tabV_small k ss hk0 hok W H hW hH))
        have HR3 := Lib.hid (show ∀ s ∈ ss, 0 ≤ s.V ∧ s.V ≤ 1000000 from fun s hs => (hok s hs).2.2)
        clear hok
        obtain ⟨⟨⟨pc, pa⟩, pv⟩, hp, hpm, hpv⟩ := pick_some k ss hk0 ((i1 : Int) + 1) ((j1 : Int) + 1) (by omega) (by omega)
        have hgrid := ways_tabV k ss hk0 W H ((i1 : Int) + 1) ((j1 : Int) + 1) (by omega) (by omega) (by omega) (by omega)
        have Hgrid := Lib.hid hgrid
        clear hgrid
        have HP := Lib.hid hp
        have HPM := Lib.hid hpm
        have HPV := Lib.hid hpv
        clear hp hpm hpv
        go_enter Try.func41, Try.ntmps41
        go_wp2_with (go_at_call 43; refine (cuts_any _ _ _ (tabV k ss W H) _ _ _ _ _ _ ss _ hT hS (by omega) (by omega) (by omega) (by omega) HR1.out hk0 hk8 hss HR2.out HR3.out (by omega)).mono ?_; rintro e w' ⟨v1, v2, rfl, h2, hbc⟩; rw [Hgrid.out] at h2; obtain ⟨ws, hws⟩ : ∃ ws, ways (val k ss) k ss ((i1 : Int) + 1) ((j1 : Int) + 1) = ws := ⟨_, rfl⟩; rw [hws] at h2; have Hws := Lib.hid hws; clear hws HR1 HR2 HR3 Hgrid; obtain ⟨hL, ho1, ho2⟩ := h2; clear hL; obtain ⟨L, hL⟩ : ∃ L, ws.length = L := ⟨_, rfl⟩; rw [hL] at ho1 ho2; have HL := Lib.hid hL; clear hL; obtain ⟨A2, c2, rfl, _, hc2, ho2⟩ := own_slice ho2; obtain ⟨A1, c1, rfl, _, hc1, ho1⟩ := own_slice ho1; have hL64 : L ≤ 9223372036854775807 := by unfold maxLen at hc2; omega)
        have hT1 := hT.below hbc
        have hS1 := hS.below hbc
        obtain ⟨wq, rfl⟩ : ∃ wq : World, wq = w' := ⟨_, rfl⟩
        have hC1 : SlE cutE 2 wq A1 L (ws.map (·.1)) := SlE.of_own ho1 (by rw [List.length_map, HL.out])
        have hV1 : SlE intE 1 wq A2 L (ws.map (·.2)) := SlE.of_own ho2 (by rw [List.length_map, HL.out])
        clear hT hS ho1 ho2
        go_loopw [13] (fun i wr => ∃ k0 : Nat, k0 ≤ L ∧ i = .int .i64 k0 ∧ Hid (ws.find? (fun x => x.2 == val k ss ((i1 : Int) + 1) ((j1 : Int) + 1)) = (ws.drop k0).find? (fun x => x.2 == val k ss ((i1 : Int) + 1) ((j1 : Int) + 1))) ∧ Below wq.heap.size wq wr) (fun i _ => (L - intOf i).toNat)
        case atStart => exact ⟨0, Nat.zero_le _, rfl, rfl, Below.refl _ _⟩
        case round =>
          obtain ⟨k0, hk0', rfl, HF, hb⟩ := hrel
          have hp := HP.out
          rw [pick, Hws.out, HF.out] at hp
          have hltk : k0 < L := by
            rcases Nat.lt_or_ge k0 L with h | h
            · exact h
            · rw [List.drop_eq_nil_of_le (by rw [HL.out]; exact h)] at hp; cases hp
          obtain ⟨xw, hxw⟩ : ∃ xw, ws[k0]? = some xw := ⟨_, List.getElem?_eq_getElem (by rw [HL.out]; exact hltk)⟩
          obtain ⟨b3, o3, y3, rfl, hb3, hy3, q3⟩ := (hV1.below hb).at1 hltk
          have hxy : y3 = xw.2 := by rw [List.getElem?_map, hxw] at hy3; simpa using hy3.symm
          subst hxy
          obtain ⟨b, o, b2, o2, ci, rfl, hi1W, hj1r, q0, q1⟩ := slr_at (hT1.below hb) (tabV_get k ss W H i1 (by omega)) (rowV_get k ss H i1 j1 (by omega))
          rw [rowV_len] at q0 hj1r
          have hwi : IntKind.i64.wrap (i1 : Int) = i1 := IntWalk.i64_in _ (by omega)
          have hwj : IntKind.i64.wrap (j1 : Int) = j1 := IntWalk.i64_in _ (by omega)
          obtain ⟨vv, hvv⟩ : ∃ vv, val k ss ((i1 : Int) + 1) ((j1 : Int) + 1) = vv := ⟨_, rfl⟩
          rw [hvv] at q1 hp HF
          have Hvv := Lib.hid hvv
          have Hp := Lib.hid hp
          have Hxw := Lib.hid hxw
          clear hvv hp hxw hy3
          by_cases hxv : xw.2 = vv
          · have hne : ((xw.2 : Int) != vv) = false := by simp [hxv]
            have hxe : xw = ((pc, pa), pv) := by
              have h := Hp.out
              rw [find_drop_yes _ ws k0 xw Hxw.out (by simp [hxv])] at h
              injection h
            subst hxe
            obtain ⟨b4, o4, cc, rfl, hb4, hcc, q5, q6⟩ := (hC1.below hb).at2 hltk
            have hcc' : cc = (pc, pa) := by rw [List.getElem?_map, Hxw.out] at hcc; simpa using hcc.symm
            subst hcc'
            clear hcc
            go_wp2_with fail
            go_quiet (fail)
            clear hwi hwj
            go_upto_region 7 with fail
            go_cut [14] (fun s14 wx => ∃ A5 c5, s14 = .slice A5 1 c5 ∧ wx.ownsRow wq.heap.size 81 2 (.slice A5 1 c5) 1 [.int .i64 pc, .int .i64 pa] ∧ Below wq.heap.size wq wx)
            case first =>
              go_wp2_with fail
              go_meet
              refine ⟨_, _, rfl, own_new _ _ _ 2 1 _ rfl (below_drewN hb nq).size (by unfold maxLen; omega), (below_drewN hb nq).alloc (below_drewN hb nq).size _⟩
            case rest =>
              obtain ⟨A5, c5, rfl, ho5, hb5⟩ := hcut
              have HQ := Lib.hid (show ∀ W, Below wq.heap.size wq W → W.cell? ⟨b4, o4 + k0 * 2, none⟩ = some (.int .i64 pc) ∧ W.cell? ⟨b4, o4 + k0 * 2 + 1, none⟩ = some (.int .i64 pa) from fun W h => by
                obtain ⟨b', o', cc, hA', _, hcc, p5, p6⟩ := (hC1.below h).at2 hltk
                simp only [Option.some.injEq, Addr.mk.injEq] at hA'
                obtain ⟨rfl, rfl, _⟩ := hA'
                have hcc' : cc = (pc, pa) := by rw [List.getElem?_map, Hxw.out] at hcc; simpa using hcc.symm
                subst hcc'
                exact ⟨p5, p6⟩)
              have Hfin := Lib.hid (show ∀ (A : Option Addr) (n c : Nat) (xs : List Value) (W : World), n = (planL k ss ((i1 : Int) + 1) ((j1 : Int) + 1)).length → xs = (planL k ss ((i1 : Int) + 1) ((j1 : Int) + 1)).flatMap cutE → W.ownsRow wq.heap.size 81 2 (.slice A n c) n xs → Below wq.heap.size wq W → R (.returned (.slice A n c)) W from
                fun A n c xs W h1 h2 h3 h4 => by
                  subst h1 h2
                  exact hR.out _ _ ⟨_, rfl, own_base h3 hbc.size, hbc.trans (h4.mono hbc.size)⟩)
              have hpl := planL_eq k ss hk0 ((i1 : Int) + 1) ((j1 : Int) + 1) (by omega) (by omega) HP.out
              have hway := (mem_ways _ k ss ((i1 : Int) + 1) ((j1 : Int) + 1) (by omega) (by omega) _).1 HPM.out
              obtain ⟨q5, q6⟩ := HQ.out _ hb5
              clear hR q0 q1 q3 hb hxv hne
              rcases hway with h1 | ⟨jj, s, _, ⟨_, _, h1⟩ | ⟨_, _, _, h1⟩⟩ | ⟨aa, ha1, ha2, h1⟩ | ⟨aa, ha1, ha2, h1⟩ <;> simp only [Prod.mk.injEq] at h1 <;> obtain ⟨⟨rfl, rfl⟩, rfl⟩ := h1
              · have Hpl := Lib.hid hpl
                clear hpl
                go_wp2
                exact Hfin.out _ _ _ _ _ (by rw [Hpl.out]; simp) (by rw [Hpl.out]; simp [cutE]) ho5 hb5
              · have Hpl := Lib.hid hpl
                clear hpl
                go_wp2
                exact Hfin.out _ _ _ _ _ (by rw [Hpl.out]; simp) (by rw [Hpl.out]; simp [cutE]) ho5 hb5
              · have Hpl := Lib.hid hpl
                clear hpl
                go_wp2
                exact Hfin.out _ _ _ _ _ (by rw [Hpl.out]; simp) (by rw [Hpl.out]; simp [cutE]) ho5 hb5
              · rw [if_pos rfl] at hpl
                have Hpl := Lib.hid hpl
                clear hpl
                go_wp2_with fail
                refine (IH.out _ _ pa ((j1 : Int) + 1) _ _ _ _ (by omega) (hT1.below hb5) (hS1.below hb5) (by omega) (by omega) (by omega) (by omega)).mono ?_
                rintro e w1 ⟨v, rfl, hret, hbp⟩
                obtain ⟨A6, c6, rfl, _, _, ho6⟩ := own_slice hret
                have hl6 := planL_len64 k ss hk0 pa ((j1 : Int) + 1) (by omega) (by omega)
                have ho7 := own_below ho5 hbp
                have hb7 := hb5.trans (hbp.mono hb5.size)
                clear hret
                go_wp2_with (at_builtin; refine wpList_app rfl (.tmp 57) (.tmp 67) _ rfl elemCut wq.heap.size _ _ _ rfl ho7 _ _ _ _ rfl (Sl.of_own ho6) (cut_one _) (by unfold maxLen; omega) (by omega) hb7.size ?_; intro A8 c8 w2 ho8 hg8 _; have hb8 := below_own hb7 ho7 (Nat.le_refl _) hb7.size hg8; obtain ⟨r5, r6⟩ := HQ.out _ hb8)
                refine (IH.out _ _ ((i1 : Int) + 1 - pa - k) ((j1 : Int) + 1) _ _ _ _ (by omega) (hT1.below hb8) (hS1.below hb8) (by omega) (by omega) (by omega) (by omega)).mono ?_
                rintro e w3 ⟨v, rfl, hret, hbq⟩
                obtain ⟨A9, c9, rfl, _, _, ho9⟩ := own_slice hret
                have hl9 := planL_len64 k ss hk0 ((i1 : Int) + 1 - pa - k) ((j1 : Int) + 1) (by omega) (by omega)
                have ho10 := own_below ho8 hbq
                have hb10 := hb8.trans (hbq.mono hb8.size)
                clear hret r5 r6
                go_wp2_with (at_builtin; refine wpList_app rfl (.tmp 69) (.tmp 83) _ rfl elemCut wq.heap.size _ _ _ rfl ho10 _ _ _ _ rfl (Sl.of_own ho9) (cut_one _) (by unfold maxLen; omega) (by omega) hb10.size ?_; intro A11 c11 w4 ho11 hg11 _; have hb11 := below_own hb10 ho10 (Nat.le_refl _) hb10.size hg11; obtain ⟨r5, r6⟩ := HQ.out _ hb11)
                refine Hfin.out _ _ _ _ _ ?_ ?_ ho11 hb11
                · rw [Hpl.out]; simp; omega
                · rw [Hpl.out]; simp [cutE]
              · rw [if_neg (show ¬ (4 : Int) = 3 by omega), if_pos rfl] at hpl
                have Hpl := Lib.hid hpl
                clear hpl
                go_wp2_with fail
                refine (IH.out _ _ ((i1 : Int) + 1) pa _ _ _ _ (by omega) (hT1.below hb5) (hS1.below hb5) (by omega) (by omega) (by omega) (by omega)).mono ?_
                rintro e w1 ⟨v, rfl, hret, hbp⟩
                obtain ⟨A6, c6, rfl, _, _, ho6⟩ := own_slice hret
                have hl6 := planL_len64 k ss hk0 ((i1 : Int) + 1) pa (by omega) (by omega)
                have ho7 := own_below ho5 hbp
                have hb7 := hb5.trans (hbp.mono hb5.size)
                clear hret
                go_wp2_with (at_builtin; refine wpList_app rfl (.tmp 91) (.tmp 101) _ rfl elemCut wq.heap.size _ _ _ rfl ho7 _ _ _ _ rfl (Sl.of_own ho6) (cut_one _) (by unfold maxLen; omega) (by omega) hb7.size ?_; intro A8 c8 w2 ho8 hg8 _; have hb8 := below_own hb7 ho7 (Nat.le_refl _) hb7.size hg8; obtain ⟨r5, r6⟩ := HQ.out _ hb8)
                refine (IH.out _ _ ((i1 : Int) + 1) ((j1 : Int) + 1 - pa - k) _ _ _ _ (by omega) (hT1.below hb8) (hS1.below hb8) (by omega) (by omega) (by omega) (by omega)).mono ?_
                rintro e w3 ⟨v, rfl, hret, hbq⟩
                obtain ⟨A9, c9, rfl, _, _, ho9⟩ := own_slice hret
                have hl9 := planL_len64 k ss hk0 ((i1 : Int) + 1) ((j1 : Int) + 1 - pa - k) (by omega) (by omega)
                have ho10 := own_below ho8 hbq
                have hb10 := hb8.trans (hbq.mono hb8.size)
                clear hret r5 r6
                go_wp2_with (at_builtin; refine wpList_app rfl (.tmp 103) (.tmp 117) _ rfl elemCut wq.heap.size _ _ _ rfl ho10 _ _ _ _ rfl (Sl.of_own ho9) (cut_one _) (by unfold maxLen; omega) (by omega) hb10.size ?_; intro A11 c11 w4 ho11 hg11 _; have hb11 := below_own hb10 ho10 (Nat.le_refl _) hb10.size hg11; obtain ⟨r5, r6⟩ := HQ.out _ hb11)
                refine Hfin.out _ _ _ _ _ ?_ ?_ ho11 hb11
                · rw [Hpl.out]; simp; omega
                · rw [Hpl.out]; simp [cutE]
          · have hne : ((xw.2 : Int) != vv) = true := by simp [hxv]
            have HN := Lib.hid (show ws.find? (fun x => x.2 == vv) = (ws.drop (k0 + 1)).find? (fun x => x.2 == vv) from HF.out.trans (find_drop_no _ ws k0 xw Hxw.out (by simp [hxv])))
            clear hxv
            go_wp2_with fail
            go_quiet (fail)
            clear hwi hwj
            go_wp2
            exact ⟨⟨k0 + 1, by omega, by go_num, by rw [Hvv.out]; exact HN, by first | exact below_drewN hb _ | exact hb.drew⟩, by simp [intOf]; omega⟩
end Go.Proofs.Ytfkpioibinpfhaa
