/-
  The contract of the document's Most: how many of some rows can have columns; condition: the table is valid and has the rows.
-/
import Derived.Test.YtjdhcdoekfikpaaMRNear
import Derived.Test.YtjdhcdoekfikpaaStepApp
import Derived.Test.YtjdhcdoekfikpaaMCert
import Derived.Deep.OwnRows
namespace Go.Proofs.Ytjdhcdoekfikpaa
open Go.RowKit

theorem step_app0 {P : Program} {w : World} {ops : Array Oper} {o : Oper} {a : Act} {K : Act → World → Prop} {Q : Exit → Act → World → Prop} {E : Prop} (hgd : o.guard = none) (s x : Operand) (t : TypeId)
    (ho : o.op = .call { callee := .builtin .append, args := #[s, x], argTypes := #[t, t] })
    {e : TypeId} {sz bytes : Nat} (hE : ElemOk P t e sz bytes) (base : Nat)
    (b0 cap : Nat) (hs : a.eval s = .slice (some ⟨b0, 0, none⟩) 0 cap) (hown : w.ownsRow base e sz (.slice (some ⟨b0, 0, none⟩) 0 cap) 0 []) (A : Option Addr) (m c : Nat) (news : List Value) (hx : a.eval x = .slice A m c) (hr : Sl w sz A m news) (h1 : ∀ u ∈ news, u.oneCell' = true)
    (h0 : 0 < m) (h63 : m ≤ maxLen) (hbytes : m * bytes ≤ 140737488355328) (hbase : base ≤ w.heap.size)
    (h : ∀ g c' w', w'.ownsRow base e sz (.slice (some ⟨g, 0, none⟩) m c') m news → w.grownBy w' (some b0) →
      K (a.put o.dst (.slice (some ⟨g, 0, none⟩) m c')) w') : if Region.wanted o (yielded ops a.tmps) = true then Oper.wp P o a w K Q else E := by
  refine step_app hgd s x t ho hE base _ 0 [] hs hown A m c news hx hr h1 (by omega) (by rw [Nat.zero_add]; exact hbytes) hbase ?_
  intro A' c' w' ho' hg' _
  rw [Nat.zero_add, List.nil_append] at ho'
  rw [Nat.zero_add]
  obtain ⟨g, c2, hv, _, _⟩ := ho'.form h0
  simp only [Value.slice.injEq, true_and] at hv
  obtain ⟨rfl, rfl⟩ := hv
  exact h g c' w' ho' hg'
theorem grownBy_of_drew {X W : World} {r : Option Nat} (h : X.drew.grownBy W r) : X.grownBy W r := ⟨h.os, h.tape, h.output, h.size, h.block⟩
theorem made_bool (m : Nat) : madeCells #[Value.bool false] m = ((List.replicate m false).map Value.bool).toArray := by
  apply Array.toList_inj.1
  rw [toList_madeCells_one]
  simp
theorem gsA {w1 : World} {base m g c : Nat} {of : List Int} (ho : w1.ownsRow base 3 1 (.slice (some ⟨g, 0, none⟩) m c) m (of.map (Value.int .i64))) (hm : m ≤ 1000) (hb : base ≤ w1.heap.size) {bs : Nat} (hbs : bs = w1.heap.size) :
    Gs (w1.alloc (.cells (madeCells #[Value.bool false] m) 4)) base m g c bs m of (List.replicate m false) := by
  subst hbs
  exact ⟨ho.kept (World.grownBy_alloc w1 _ none) (.inr (by simp [Value.ownBlock])), own_of_block (by rw [heap_alloc_new, made_bool]) (by simp) hb (by unfold maxLen; omega)⟩
theorem gsB {X w1 : World} {base m g c bs : Nat} {row : Option Nat} {of : List Int} (hx : X.heap[bs]? = some (.cells (madeCells #[Value.bool false] m) 4 (0, 0))) (hg : X.grownBy w1 row) (hne : row ≠ some bs)
    (ho : w1.ownsRow base 3 1 (.slice (some ⟨g, 0, none⟩) m c) m (of.map (Value.int .i64))) (hm : m ≤ 1000) (hb : base ≤ bs) : Gs w1 base m g c bs m of (List.replicate m false) :=
  ⟨ho, own_of_block (by rw [hg.block bs (Array.getElem?_eq_some_iff.1 hx).1 (fun e => hne e.symm), hx, made_bool]) (by simp) hb (by unfold maxLen; omega)⟩
theorem Gs.drew {W : World} {B m br cr bs cs : Nat} {of : List Int} {seen : List Bool} (h : Gs W B m br cr bs cs of seen) : Gs W.drew B m br cr bs cs of seen := ⟨h.row, h.sn⟩
theorem heap_two1 (w : World) (o o' : Obj) : ((w.alloc o).alloc o').heap[w.heap.size]? = some o := ((below_new (w.alloc o) o').block _ (by simp)).trans (heap_alloc_new w o)
theorem heap_two2 (w : World) (o o' : Obj) : ((w.alloc o).alloc o').heap[w.heap.size + 1]? = some o' := by
  have := heap_alloc_new (w.alloc o) o'
  rwa [World.size_alloc] at this
theorem ne_succ1 (n : Nat) : some n ≠ some (n + 1) := by simp
theorem ne_succ2 (n : Nat) : some (n + 1) ≠ some n := by simp
theorem ownBlock_eq {b n c k : Nat} (h : (Value.slice (some ⟨b, 0, none⟩) n c).ownBlock = some k) : b = k := by simpa [Value.ownBlock] using h
theorem own_less {W : World} {b b' e s n : Nat} {v : Value} {xs : List Value} (h : W.ownsRow b e s v n xs) (hb : b' ≤ b) : W.ownsRow b' e s v n xs := by
  refine ⟨h.1, ?_⟩
  rcases h.2 with h | ⟨g, c, cur, h1, h2, h3⟩
  · exact .inl h
  · exact .inr ⟨g, c, cur, h1, Nat.le_trans hb h2, h3⟩
/-- Some cells -1, the others 0. -/
def neg1 (m k : Nat) : List Int := List.replicate k (-1) ++ List.replicate (m - k) 0
theorem neg1_len {m k : Nat} (h : k ≤ m) : (neg1 m k).length = m := by simp [neg1]; omega
theorem neg1_set {m k : Nat} (h : k < m) : (neg1 m k).set k (-1) = neg1 m (k + 1) := by
  unfold neg1
  rw [List.set_append_right _ _ (by simp), List.length_replicate, Nat.sub_self, show m - k = (m - (k + 1)) + 1 by omega, List.replicate_succ, List.set_cons_zero, List.replicate_succ', List.append_assoc]
  rfl
theorem run_mkBool (m : Nat) (hm : m ≤ 1000) (w : World) : (Instr.makeSlice 91 (.int .i64 (m : Int)) (.int .i64 (m : Int))).run Try.prog w = .ok (.slice (some ⟨w.heap.size, 0, none⟩) m m) (w.alloc (.cells (madeCells #[Value.bool false] m) 4)) :=
  run_make_row' 91 4 (.bool false) 1 Try.underlying91 infoBool rfl .i64 .i64 m (by omega) (by omega) w
set_option maxRecDepth 100000 in
set_option maxHeartbeats 4000000 in
theorem refMost_any (A : Option Addr) (n c m : Nat) (T : List (List Int)) (A2 : Option Addr) (L c2 : Nat) (rows : List Nat) (w : World) (hT : SlR w A n T) (hok : TOk T m) (hA : SlE intE 1 w A2 L (rows.map fun (r : Nat) => (r : Int))) (hL : L ≤ 1000) (hrows : ∀ r ∈ rows, r < n) :
    Calls Try.prog 29 #[.slice A n c, .slice A2 L c2] w fun e w' => e = .returned (.int .i64 (kuhn (gT T) m rows : Int)) ∧ Below w.heap.size w w' := by
  refine calls_cps ?_
  intro R hR
  have hn1 : 1 ≤ n := by rw [hT.1]; exact hok.n1
  obtain ⟨b, o, A0, c0, rfl, hh⟩ := hT.head (by omega)
  rw [hok.wid] at hh
  have HT := Lib.hid hT
  have HA := Lib.hid hA
  have Hrows := Lib.hid hrows
  have Hrect := Lib.hid hok.rect
  have Hlen := Lib.hid (show L = rows.length by rw [hA.1, List.length_map])
  have h64 := hok.m64
  have hnm : n ≤ m := by rw [hT.1]; exact hok.nm
  have i0 : 0 < n := by omega
  have g0 : ((n : Int) == 0) = false := by simp; omega
  clear hT hA hrows hok
  go_enter Try.func29, Try.ntmps29
  go_wp2_with (at_make; refine wpList_mkInt rfl (.tmp 18) (.tmp 18) _ rfl 3 Try.underlying26 infoInt8 m m rfl rfl rfl (by omega) ?_; intro w2 hw2 hg2; have hb2 : Below w.heap.size w w2 := (Below.refl _ _).grown hg2 (Nat.le_refl _) (fun k hk => by cases hk); have hc0 : w2.heap[w.heap.size]? = some (.cells ((neg1 m 0).map (Value.int .i64)).toArray 3 (0, 0)) := hw2.trans (by simp [neg1]); clear hw2 hg2)
  go_loopg [6] m (fun gk s6 wr => ∃ k : Nat, k + gk = m ∧ s6 = .int .i64 ((k : Nat) : Int) ∧ wr.heap[w.heap.size]? = some (.cells ((neg1 m k).map (Value.int .i64)).toArray 3 (0, 0)) ∧ Below w.heap.size w wr)
  case atStart => exact ⟨0, by omega, rfl, hc0, hb2⟩
  case round =>
    clear hc0 hb2
    obtain ⟨k, hgk, rfl, hc, hb⟩ := hrel
    obtain ⟨wi, rfl⟩ : ∃ wi : World, wi = wr := ⟨_, rfl⟩
    by_cases hlt : k < m
    · have y0 : wi.cell? ⟨w.heap.size, k, none⟩ = some (.int .i64 ((neg1 m k).getD k 0)) := by
        rw [cell_of_row _ _ _ _ _ (0, 0) hc, getD_get _ _ _ (by rw [neg1_len (by omega)]; exact hlt)]
        simp [neg1_len (show k ≤ m by omega), hlt]
      have y1 : wi.frozen? ⟨w.heap.size, k, none⟩ = false := by simp [World.frozen?, hc]
      have hN : (wi.setCell ⟨w.heap.size, k, none⟩ (.int .i64 (-1))).heap[w.heap.size]? = some (.cells ((neg1 m (k + 1)).map (Value.int .i64)).toArray 3 (0, 0)) := by
        rw [← neg1_set hlt]
        simp [World.setCell, Array.getElem?_modify, hc, List.map_set]
      have HN := Lib.hid hN
      have HB := Lib.hid (hb.setCell (p := ⟨w.heap.size, k, none⟩) (Nat.le_refl _) (.int .i64 (-1)))
      have i1 : (k : Int) < (m : Int) := by omega
      clear hN hc hb
      go_wp2_with fail
      go_roundg (gk - 1)
      case measure => omega
      case rel => exact ⟨k + 1, by omega, by go_num, HN.out, HB.out⟩
    · obtain rfl : m = k := by omega
      have hown : wi.ownsRow w.heap.size 3 1 (.slice (some ⟨w.heap.size, 0, none⟩) m m) m ((List.replicate m (-1 : Int)).map (Value.int .i64)) :=
        own_of_block (by rw [hc]; simp [neg1]) (by simp) (Nat.le_refl _) (by unfold maxLen; omega)
      have HO := Lib.hid hown
      have HB := Lib.hid hb
      clear hown hc hb hlt hgk
      go_wp2_with fail
      go_loopg [5, 7, 8] L (fun gk s5 s7 s8 wr => ∃ (k n0 br cr : Nat) (of : List Int), k + gk = L ∧ n0 ≤ k ∧ s8 = .int .i64 ((k : Nat) : Int) ∧ s7 = .int .i64 ((n0 : Nat) : Int) ∧ s5 = .slice (some ⟨br, 0, none⟩) m cr ∧ wr.ownsRow w.heap.size 3 1 (.slice (some ⟨br, 0, none⟩) m cr) m (of.map (Value.int .i64)) ∧ Below w.heap.size w wr ∧
        Hid (Valid (gT T) m of ∧ RowsOk n of ∧ kuhn (gT T) m rows = (kuhnF (gT T) m (rows.drop k) of n0).2))
      case atStart => exact ⟨0, 0, _, _, _, by omega, Nat.le_refl _, rfl, rfl, rfl, HO.out, HB.out, Lib.hid ⟨valid_start _ m, rowsOk_start n m, rfl⟩⟩
      case round =>
        obtain ⟨k, n0, br, cr, of, hgk, hn0, rfl, rfl, rfl, ho, hb, Hv⟩ := hrel
        obtain ⟨wj, rfl⟩ : ∃ wj : World, wj = wr := ⟨_, rfl⟩
        by_cases hlt : k < L
        · obtain ⟨b2, o2, x, rfl, hbl, hxk, hcell⟩ := (HA.out.below hb).at1 hlt
          have hkr : k < rows.length := by rw [← Hlen.out]; exact hlt
          obtain ⟨r, hr⟩ : ∃ r, rows[k] = r := ⟨_, rfl⟩
          obtain rfl : x = (r : Int) := by
            rw [List.getElem?_map, List.getElem?_eq_getElem hkr] at hxk
            simp at hxk
            rw [← hxk, hr]
          have hrn : r < n := Hrows.out r (by rw [← hr]; exact List.getElem_mem hkr)
          have Hdrop := Lib.hid (show rows.drop k = r :: rows.drop (k + 1) by rw [List.drop_eq_getElem_cons hkr, hr])
          have i1 : (k : Int) < (L : Int) := by omega
          have hol : of.length = m := by have := ho.1; simpa using this
          obtain ⟨u, hu⟩ : ∃ u, findF (gT T) m (m + 1) r of (List.replicate m false) = u := ⟨_, rfl⟩
          have hpost := find_post (gT T) m of hol Hv.out.1 (m + 1) r (List.replicate m false) (by simp) (by rw [unseen_fresh]; omega)
          have hcons := kuhnF_cons (gT T) m r (rows.drop (k + 1)) of n0 u hu
          rw [hu] at hpost
          rw [← Hdrop.out] at hcons
          have HU := Lib.hid hu
          have HPo := Lib.hid hpost
          have HCo := Lib.hid hcons
          have Ho := Lib.hid ho
          have Hb := Lib.hid hb
          have hsz := hb.size
          have hsl : Sl wj 1 (some ⟨br, 0, none⟩) m (of.map (Value.int .i64)) := Sl.of_own ho
          have Hsl := Lib.hid hsl
          have hbrl : br < wj.heap.size := (row_heap ho).2.1
          have hmk := run_mkBool m (by omega)
          have hone : ∀ v ∈ of.map (Value.int .i64), v.oneCell' = true := by intro v hv; obtain ⟨y, _, rfl⟩ := List.mem_map.1 hv; rfl
          have Hone := Lib.hid hone
          clear hu hpost hcons hol ho hb hr hkr hxk hsl hone
          go_wp2_with fail
          go_upto_region 12 with fail
          go_cut [9, 11] (fun s9 s11 wx => ∃ (br' cr' bs cs : Nat) (sn : List Bool), s9 = .slice (some ⟨br', 0, none⟩) m cr' ∧ s11 = .bool u.2.2 ∧ Gs wx w.heap.size m br' cr' bs cs u.1 sn ∧ Below wj.heap.size wj wx)
          case first =>
            have hm1000 : m ≤ 1000 := by omega
            have HO1 := Lib.hid (own_newAt wj #[] 3 1 0 wj.heap.size rfl (Nat.le_refl _) (by unfold maxLen; omega) rfl)
            have HO2 := Lib.hid (HO1.out.kept (World.grownBy_alloc _ (.cells (madeCells #[Value.bool false] m) 4) none) (.inr (by simp [Value.ownBlock])))
            have HO3 := Lib.hid (own_newAt (wj.alloc (.cells (madeCells #[Value.bool false] m) 4)) #[] 3 1 0 wj.heap.size rfl (by simp) (by unfold maxLen; omega) (World.size_alloc _ _).symm)
            have HS1 := Lib.hid (Hsl.out.alloc (.cells #[] 3))
            have HS2 := Lib.hid (HS1.out.alloc (.cells (madeCells #[Value.bool false] m) 4))
            have HS3 := Lib.hid ((Hsl.out.alloc (.cells (madeCells #[Value.bool false] m) 4)).alloc (.cells #[] 3))
            go_region_held3 (fun w' => w'.cell? ⟨b2, o2 + k, none⟩ = some (.int .i64 (r : Int)))
              (first | go_keep | exact (hb4.cell (p := ⟨b2, o2 + k, none⟩) hbl).trans hcell | exact (hb1.cell (p := ⟨b2, o2 + k, none⟩) hbl).trans hcell)
              (first
              | (refine step_app0 rfl (.tmp 41) (.tmp 42) _ (by rfl) elemInt wj.heap.size _ _ (by rfl) (by first | exact HO1.out | exact HO2.out | exact HO3.out) (some ⟨br, 0, none⟩) m cr (of.map (Value.int .i64)) (by rfl) (by first | exact HS1.out | exact HS2.out | exact HS3.out) Hone.out (by omega) (by unfold maxLen; omega) (by omega) (by simp <;> omega) ?_; intro g1 c1 w1 ho1 hg1; have hg1 := grownBy_of_drew hg1; have hb1 : Below wj.heap.size wj w1 := Below.grown (by first | exact below_new _ _ | exact below_two _ _ _) hg1 (by simp <;> omega) (fun k hk => by injection hk; omega); have hg1l := (row_heap ho1).1; have hsz1 := hb1.size; have hsz2 := Nat.le_trans hsz hsz1; have hbw1 := Hb.out.trans (hb1.mono hsz))
              | (go_at_call 56; refine (refFind_any w (some ⟨b, o, none⟩) n c m T HT.out Hrect.out (by omega) (by omega) g1 c1 _ m (Nat.le_trans hsz hg1l) (by first | omega | (simp; omega)) m r of (List.replicate m false) _ (by rw [unseen_fresh]; omega) hrn (by first | exact gsA (own_less ho1 hsz) hm1000 hsz2 rfl | exact (gsA (own_less ho1 hsz) hm1000 hsz2 rfl).drew | exact gsB (heap_two2 wj _ _) hg1 (ne_succ1 _) (own_less ho1 hsz) hm1000 (Nat.le_succ_of_le hsz) | exact gsB (heap_two1 wj _ _) hg1 (ne_succ2 _) (own_less ho1 hsz) hm1000 hsz | exact (gsB (heap_two2 wj _ _) hg1 (ne_succ1 _) (own_less ho1 hsz) hm1000 (Nat.le_succ_of_le hsz)).drew | exact (gsB (heap_two1 wj _ _) hg1 (ne_succ2 _) (own_less ho1 hsz) hm1000 hsz).drew) (by first | exact hbw1 | exact hbw1.drew | exact hbw1.alloc hsz2 _ | exact (hbw1.alloc hsz2 _).drew) Hv.out.1 Hv.out.2.1).mono ?_; rw [HU.out]; rintro e w4 ⟨rfl, hF4, hK4⟩; have hb4 := Kx.low' (by first | exact hb1 | exact hb1.drew | exact hb1.alloc hsz1 _ | exact (hb1.alloc hsz1 _).drew) hK4 (or_ge hg1l (by first | omega | (simp; omega)))))
            all_goals
              go_wp2_with fail
              go_meet
              exact ⟨_, _, _, _, _, rfl, rfl, hF4, hb4⟩
          case rest =>
            obtain ⟨br', cr', bs, cs, sn, hv9, hv11, hG, hbx⟩ := hcut
            subst hv9 hv11
            have hbw := Hb.out.trans (hbx.mono hsz)
            cases hok : u.2.2 with
            | true =>
              obtain ⟨hv1, hv2, _⟩ := HPo.out.yes hok
              have hro := rowsOk_step Hv.out.2.1 hrn hv2
              have hk := HCo.out
              rw [if_pos hok] at hk
              have HV2 := Lib.hid (show Valid (gT T) m u.1 ∧ RowsOk n u.1 ∧ kuhn (gT T) m rows = (kuhnF (gT T) m (rows.drop (k + 1)) u.1 (n0 + 1)).2 from ⟨hv1, hro, by rw [Hv.out.2.2, hk]⟩)
              have HRW := Lib.hid hG.row
              clear hv1 hv2 hro hk hok hG hbx
              go_wp2_with fail
              go_roundg (gk - 1)
              case measure => omega
              case rel => exact ⟨k + 1, n0 + 1, br', cr', u.1, by omega, by omega, by go_num, by go_num, rfl, HRW.out, hbw, HV2⟩
            | false =>
              have hk := HCo.out
              rw [if_neg (by rw [hok]; simp)] at hk
              have HV2 := Lib.hid (show Valid (gT T) m of ∧ RowsOk n of ∧ kuhn (gT T) m rows = (kuhnF (gT T) m (rows.drop (k + 1)) of n0).2 from ⟨Hv.out.1, Hv.out.2.1, by rw [Hv.out.2.2, hk]⟩)
              have HRW := Lib.hid (ownsRow_below Ho.out hbx)
              clear hk hok hG hbx
              go_wp2_with fail
              go_roundg (gk - 1)
              case measure => omega
              case rel => exact ⟨k + 1, n0, br, cr, of, by omega, by omega, by go_num, rfl, rfl, HRW.out, hbw, HV2⟩
        · obtain rfl : L = k := by omega
          have hk := Hv.out.2.2
          rw [List.drop_of_length_le (by rw [← Hlen.out]; exact Nat.le_refl _)] at hk
          have Hfin := Lib.hid (hR.out (.returned (.int .i64 (n0 : Int))) wj ⟨by rw [hk]; rfl, hb⟩)
          clear ho hb hk
          go_wp2
          exact Hfin.out
end Go.Proofs.Ytjdhcdoekfikpaa
