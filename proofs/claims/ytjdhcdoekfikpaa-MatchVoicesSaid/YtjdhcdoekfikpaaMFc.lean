/-
  Contracts of the document's Near and Most and of the solver's words and near; each states its condition.
-/
import Derived.Test.YtjdhcdoekfikpaaMFb
import Derived.Test.YtjdhcdoekfikpaaMPl
import Derived.Test.YtjdhcdoekfikpaaMMem
import Derived.Deep.OwnRows
namespace Go.Proofs.Ytjdhcdoekfikpaa
section
open Go.RowKit

theorem anyP_snoc {g : Nat → Nat → Bool} {rows : List Nat} {k i r : Nat} (h : rows[i]? = some r) : ((rows.take (i + 1)).any fun r => g r k) = ((rows.take i).any (fun r => g r k) || g r k) := by
  obtain ⟨hi, rfl⟩ := List.getElem?_eq_some_iff.1 h
  rw [List.take_succ_eq_append_getElem hi, List.any_append]
  simp
theorem near_snoc (g : Nat → Nat → Bool) (rows : List Nat) (k : Nat) : near g (k + 1) rows = near g k rows + if rows.any (fun r => g r k) = true then 1 else 0 := by
  unfold near nearC
  rw [List.range_succ, List.filter_append, List.length_append]
  cases h : rows.any fun r => g r k <;> simp [h]
theorem near_le (g : Nat → Nat → Bool) (m : Nat) (rows : List Nat) : near g m rows ≤ m := by
  unfold near nearC
  have := List.length_filter_le (fun k => rows.any fun r => g r k) (List.range m)
  simpa using this
set_option maxRecDepth 100000 in
set_option maxHeartbeats 4000000 in
theorem refNear_any (A : Option Addr) (n c m : Nat) (T : List (List Int)) (A2 : Option Addr) (L c2 : Nat) (rows : List Nat) (w : World) (hT : SlR w A n T) (hok : TOk T m) (hA : SlE intE 1 w A2 L (rows.map fun (r : Nat) => (r : Int))) (hL : L ≤ 1000) (hrows : ∀ r ∈ rows, r < n) :
    Calls Try.prog 31 #[.slice A n c, .slice A2 L c2] w fun e w' => e = .returned (.int .i64 (near (gT T) m rows : Int)) ∧ w = w' := by
  refine calls_cps ?_
  intro R hR
  have hn1 : 1 ≤ n := by rw [hT.1]; exact hok.n1
  obtain ⟨b, o, A0, c0, rfl, hh⟩ := hT.head (by omega)
  rw [hok.wid] at hh
  have HT := Lib.hid hT
  have HA := Lib.hid hA
  have Hrows := Lib.hid hrows
  have Hrect := Lib.hid hok.rect
  have Hlen := Lib.hid (show L = rows.length by rw [hA.1, List.length_map])
  have h64 := hok.m64
  have hnm : n ≤ m := by rw [hT.1]; exact hok.nm
  have i0 : 0 < n := by omega
  clear hT hA hrows hok
  go_enter Try.func31, Try.ntmps31
  go_wp2_with fail
  go_loop [5, 6] (fun s5 s6 => ∃ k : Nat, k ≤ m ∧ s5 = .int .i64 (near (gT T) k rows : Int) ∧ s6 = .int .i64 ((k : Nat) : Int)) (fun _ s6 => m - (intOf s6).toNat)
  case atStart => exact ⟨0, by omega, rfl, rfl⟩
  case round =>
    obtain ⟨k, hk, rfl, rfl⟩ := hrel
    by_cases hlt : k < m
    · have i1 : (k : Int) < (m : Int) := by omega
      go_wp2_with fail
      go_loop [7, 8] (fun s7 s8 => ∃ i : Nat, i ≤ L ∧ s7 = .bool ((rows.take i).any fun r => gT T r k) ∧ s8 = .int .i64 ((i : Nat) : Int)) (fun _ s8 => L - (intOf s8).toNat)
      case atStart => exact ⟨0, by omega, rfl, rfl⟩
      case round =>
        obtain ⟨i, hi, rfl, rfl⟩ := hrel
        by_cases hli : i < L
        · have i2 : (i : Int) < (L : Int) := by omega
          obtain ⟨b2, o2, x, rfl, _, hx, q0⟩ := HA.out.at1 hli
          have hir : i < rows.length := by rw [← Hlen.out]; exact hli
          obtain ⟨r, hr⟩ : ∃ r, rows[i]? = some r := ⟨_, List.getElem?_eq_getElem hir⟩
          obtain rfl : x = (r : Int) := by
            rw [List.getElem?_map, hr] at hx
            simpa using hx.symm
          have hrn : r < n := Hrows.out r (List.mem_of_getElem? hr)
          have Hsn := Lib.hid (anyP_snoc (g := gT T) (k := k) hr)
          clear hx hir hr
          cases ht : (rows.take i).any fun r => gT T r k with
          | true =>
            have HQ := Lib.hid (show ((rows.take (i + 1)).any fun r => gT T r k) = true by rw [Hsn.out, ht]; rfl)
            clear ht
            go_wp2_with fail
            exact ⟨⟨i + 1, by omega, by rw [HQ.out], by go_num⟩, by simp [intOf]; omega⟩
          | false =>
            obtain ⟨b', o', Ai, ci, bi, oi, e, _, _, q1, rfl, q2⟩ := table_at HT.out Hrect.out (Below.refl _ _) hrn hlt
            simp only [Option.some.injEq, Addr.mk.injEq, and_true] at e
            obtain ⟨rfl, rfl⟩ := e
            obtain ⟨y, hy⟩ : ∃ y, ct T r k = y := ⟨_, rfl⟩
            rw [hy] at q2
            have HQ := Lib.hid (show ((rows.take (i + 1)).any fun r => gT T r k) = decide (0 ≤ y) by rw [Hsn.out, ht]; unfold gT; rw [hy]; rfl)
            have i3 : (r : Int) < (n : Int) := by omega
            clear ht hy
            go_wp2_with fail
            exact ⟨⟨i + 1, by omega, by rw [HQ.out], by go_num⟩, by simp [intOf]; omega⟩
        · obtain rfl : L = i := by omega
          have Hall := Lib.hid (show rows.take L = rows from List.take_of_length_le (by rw [Hlen.out]; exact Nat.le_refl _))
          have hnl := near_le (gT T) k rows
          have Hsn := Lib.hid (near_snoc (gT T) rows k)
          rw [Hall.out]
          obtain ⟨c1, hc1⟩ : ∃ c1, near (gT T) k rows = c1 := ⟨_, rfl⟩
          rw [hc1] at hnl ⊢
          have Hc1 := Lib.hid hc1
          clear hc1
          cases ht : rows.any fun r => gT T r k with
          | true =>
            have HQ := Lib.hid (show near (gT T) (k + 1) rows = c1 + 1 by rw [Hsn.out, ht, Hc1.out]; rfl)
            clear ht
            go_wp2_with fail
            exact ⟨⟨k + 1, by omega, by rw [HQ.out]; go_num, by go_num⟩, by simp [intOf]; omega⟩
          | false =>
            have HQ := Lib.hid (show near (gT T) (k + 1) rows = c1 by rw [Hsn.out, ht, Hc1.out]; rfl)
            clear ht
            go_wp2_with fail
            exact ⟨⟨k + 1, by omega, by rw [HQ.out], by go_num⟩, by simp [intOf]; omega⟩
    · obtain rfl : m = k := by omega
      have Hf := Lib.hid (hR.out (.returned (.int .i64 (near (gT T) m rows : Int))) w ⟨rfl, rfl⟩)
      go_wp2
      exact Hf.out
end
section
open Go.RowKit

theorem step_app0 {P : Program} {w : World} {ops : Array Oper} {o : Oper} {a : Act} {K : Act → World → Prop} {Q : Exit → Act → World → Prop} {E : Prop} (hgd : o.guard = none) (s x : Operand) (t : TypeId)
    (ho : o.op = .call { callee := .builtin .append, args := #[s, x], argTypes := #[t, t] })
    {e : TypeId} {sz bytes : Nat} (hE : ElemOk P t e sz bytes) (base : Nat)
    (b0 cap : Nat) (hs : a.eval s = .slice (some ⟨b0, 0, none⟩) 0 cap) (hown : w.ownsRow base e sz (.slice (some ⟨b0, 0, none⟩) 0 cap) 0 []) (A : Option Addr) (m c : Nat) (news : List Value) (hx : a.eval x = .slice A m c) (hr : Sl w sz A m news) (h1 : ∀ u ∈ news, u.oneCell' = true)
    (h0 : 0 < m) (h63 : m ≤ maxLen) (hbytes : m * bytes ≤ 140737488355328) (hbase : base ≤ w.heap.size)
    (h : ∀ g c' w', w'.ownsRow base e sz (.slice (some ⟨g, 0, none⟩) m c') m news → w.grownBy w' (some b0) →
      K (a.put o.dst (.slice (some ⟨g, 0, none⟩) m c')) w') : if Region.wanted o (yielded ops a.tmps) = true then Oper.wp P o a w K Q else E := by
  refine step_app hgd s x t ho hE base _ 0 [] hs hown A m c news hx hr h1 (by omega) (by rw [Nat.zero_add]; exact hbytes) hbase ?_
  intro A' c' w' ho' hg' _
  rw [Nat.zero_add, List.nil_append] at ho'
  rw [Nat.zero_add]
  obtain ⟨g, c2, hv, _, _⟩ := ho'.form h0
  simp only [Value.slice.injEq, true_and] at hv
  obtain ⟨rfl, rfl⟩ := hv
  exact h g c' w' ho' hg'
theorem grownBy_of_drew {X W : World} {r : Option Nat} (h : X.drew.grownBy W r) : X.grownBy W r := ⟨h.os, h.tape, h.output, h.size, h.block⟩
theorem made_bool (m : Nat) : madeCells #[Value.bool false] m = ((List.replicate m false).map Value.bool).toArray := by
  apply Array.toList_inj.1
  rw [toList_madeCells_one]
  simp
theorem gsA {w1 : World} {base m g c : Nat} {of : List Int} (ho : w1.ownsRow base 3 1 (.slice (some ⟨g, 0, none⟩) m c) m (of.map (Value.int .i64))) (hm : m ≤ 1000) (hb : base ≤ w1.heap.size) {bs : Nat} (hbs : bs = w1.heap.size) :
    Gs (w1.alloc (.cells (madeCells #[Value.bool false] m) 4)) base m g c bs m of (List.replicate m false) := by
  subst hbs
  exact ⟨ho.kept (World.grownBy_alloc w1 _ none) (.inr (by simp [Value.ownBlock])), own_of_block (by rw [heap_alloc_new, made_bool]) (by simp) hb (by unfold maxLen; omega)⟩
theorem gsB {X w1 : World} {base m g c bs : Nat} {row : Option Nat} {of : List Int} (hx : X.heap[bs]? = some (.cells (madeCells #[Value.bool false] m) 4 (0, 0))) (hg : X.grownBy w1 row) (hne : row ≠ some bs)
    (ho : w1.ownsRow base 3 1 (.slice (some ⟨g, 0, none⟩) m c) m (of.map (Value.int .i64))) (hm : m ≤ 1000) (hb : base ≤ bs) : Gs w1 base m g c bs m of (List.replicate m false) :=
  ⟨ho, own_of_block (by rw [hg.block bs (Array.getElem?_eq_some_iff.1 hx).1 (fun e => hne e.symm), hx, made_bool]) (by simp) hb (by unfold maxLen; omega)⟩
theorem Gs.drew {W : World} {B m br cr bs cs : Nat} {of : List Int} {seen : List Bool} (h : Gs W B m br cr bs cs of seen) : Gs W.drew B m br cr bs cs of seen := ⟨h.row, h.sn⟩
theorem heap_two1 (w : World) (o o' : Obj) : ((w.alloc o).alloc o').heap[w.heap.size]? = some o := ((below_new (w.alloc o) o').block _ (by simp)).trans (heap_alloc_new w o)
theorem heap_two2 (w : World) (o o' : Obj) : ((w.alloc o).alloc o').heap[w.heap.size + 1]? = some o' := by
  have := heap_alloc_new (w.alloc o) o'
  rwa [World.size_alloc] at this
theorem ne_succ1 (n : Nat) : some n ≠ some (n + 1) := by simp
theorem ne_succ2 (n : Nat) : some (n + 1) ≠ some n := by simp
theorem ownBlock_eq {b n c k : Nat} (h : (Value.slice (some ⟨b, 0, none⟩) n c).ownBlock = some k) : b = k := by simpa [Value.ownBlock] using h
theorem own_less {W : World} {b b' e s n : Nat} {v : Value} {xs : List Value} (h : W.ownsRow b e s v n xs) (hb : b' ≤ b) : W.ownsRow b' e s v n xs := by
  refine ⟨h.1, ?_⟩
  rcases h.2 with h | ⟨g, c, cur, h1, h2, h3⟩
  · exact .inl h
  · exact .inr ⟨g, c, cur, h1, Nat.le_trans hb h2, h3⟩
/-- Some cells -1, the others 0. -/
def neg1 (m k : Nat) : List Int := List.replicate k (-1) ++ List.replicate (m - k) 0
theorem neg1_len {m k : Nat} (h : k ≤ m) : (neg1 m k).length = m := by simp [neg1]; omega
theorem neg1_set {m k : Nat} (h : k < m) : (neg1 m k).set k (-1) = neg1 m (k + 1) := by
  unfold neg1
  rw [List.set_append_right _ _ (by simp), List.length_replicate, Nat.sub_self, show m - k = (m - (k + 1)) + 1 by omega, List.replicate_succ, List.set_cons_zero, List.replicate_succ', List.append_assoc]
  rfl
theorem run_mkBool (m : Nat) (hm : m ≤ 1000) (w : World) : (Instr.makeSlice 91 (.int .i64 (m : Int)) (.int .i64 (m : Int))).run Try.prog w = .ok (.slice (some ⟨w.heap.size, 0, none⟩) m m) (w.alloc (.cells (madeCells #[Value.bool false] m) 4)) :=
  run_make_row' 91 4 (.bool false) 1 Try.underlying91 infoBool rfl .i64 .i64 m (by omega) (by omega) w
set_option maxRecDepth 100000 in
set_option maxHeartbeats 4000000 in
theorem refMost_any (A : Option Addr) (n c m : Nat) (T : List (List Int)) (A2 : Option Addr) (L c2 : Nat) (rows : List Nat) (w : World) (hT : SlR w A n T) (hok : TOk T m) (hA : SlE intE 1 w A2 L (rows.map fun (r : Nat) => (r : Int))) (hL : L ≤ 1000) (hrows : ∀ r ∈ rows, r < n) :
    Calls Try.prog 29 #[.slice A n c, .slice A2 L c2] w fun e w' => e = .returned (.int .i64 (kuhn (gT T) m rows : Int)) ∧ Below w.heap.size w w' := by
  refine calls_cps ?_
  intro R hR
  have hn1 : 1 ≤ n := by rw [hT.1]; exact hok.n1
  obtain ⟨b, o, A0, c0, rfl, hh⟩ := hT.head (by omega)
  rw [hok.wid] at hh
  have HT := Lib.hid hT
  have HA := Lib.hid hA
  have Hrows := Lib.hid hrows
  have Hrect := Lib.hid hok.rect
  have Hlen := Lib.hid (show L = rows.length by rw [hA.1, List.length_map])
  have h64 := hok.m64
  have hnm : n ≤ m := by rw [hT.1]; exact hok.nm
  have i0 : 0 < n := by omega
  have g0 : ((n : Int) == 0) = false := by simp; omega
  clear hT hA hrows hok
  go_enter Try.func29, Try.ntmps29
  go_wp2_with (at_make; refine wpList_mkInt rfl (.tmp 18) (.tmp 18) _ rfl 3 Try.underlying26 infoInt8 m m rfl rfl rfl (by omega) ?_; intro w2 hw2 hg2; have hb2 : Below w.heap.size w w2 := (Below.refl _ _).grown hg2 (Nat.le_refl _) (fun k hk => by cases hk); have hc0 : w2.heap[w.heap.size]? = some (.cells ((neg1 m 0).map (Value.int .i64)).toArray 3 (0, 0)) := hw2.trans (by simp [neg1]); clear hw2 hg2)
  go_loopg [6] m (fun gk s6 wr => ∃ k : Nat, k + gk = m ∧ s6 = .int .i64 ((k : Nat) : Int) ∧ wr.heap[w.heap.size]? = some (.cells ((neg1 m k).map (Value.int .i64)).toArray 3 (0, 0)) ∧ Below w.heap.size w wr)
  case atStart => exact ⟨0, by omega, rfl, hc0, hb2⟩
  case round =>
    clear hc0 hb2
    obtain ⟨k, hgk, rfl, hc, hb⟩ := hrel
    obtain ⟨wi, rfl⟩ : ∃ wi : World, wi = wr := ⟨_, rfl⟩
    by_cases hlt : k < m
    · have y0 : wi.cell? ⟨w.heap.size, k, none⟩ = some (.int .i64 ((neg1 m k).getD k 0)) := by
        rw [cell_of_row _ _ _ _ _ (0, 0) hc, getD_get _ _ _ (by rw [neg1_len (by omega)]; exact hlt)]
        simp [neg1_len (show k ≤ m by omega), hlt]
      have y1 : wi.frozen? ⟨w.heap.size, k, none⟩ = false := by simp [World.frozen?, hc]
      have hN : (wi.setCell ⟨w.heap.size, k, none⟩ (.int .i64 (-1))).heap[w.heap.size]? = some (.cells ((neg1 m (k + 1)).map (Value.int .i64)).toArray 3 (0, 0)) := by
        rw [← neg1_set hlt]
        simp [World.setCell, Array.getElem?_modify, hc, List.map_set]
      have HN := Lib.hid hN
      have HB := Lib.hid (hb.setCell (p := ⟨w.heap.size, k, none⟩) (Nat.le_refl _) (.int .i64 (-1)))
      have i1 : (k : Int) < (m : Int) := by omega
      clear hN hc hb
      go_wp2_with fail
      go_roundg (gk - 1)
      case measure => omega
      case rel => exact ⟨k + 1, by omega, by go_num, HN.out, HB.out⟩
    · obtain rfl : m = k := by omega
      have hown : wi.ownsRow w.heap.size 3 1 (.slice (some ⟨w.heap.size, 0, none⟩) m m) m ((List.replicate m (-1 : Int)).map (Value.int .i64)) :=
        own_of_block (by rw [hc]; simp [neg1]) (by simp) (Nat.le_refl _) (by unfold maxLen; omega)
      have HO := Lib.hid hown
      have HB := Lib.hid hb
      clear hown hc hb hlt hgk
      go_wp2_with fail
      go_loopg [5, 7, 8] L (fun gk s5 s7 s8 wr => ∃ (k n0 br cr : Nat) (of : List Int), k + gk = L ∧ n0 ≤ k ∧ s8 = .int .i64 ((k : Nat) : Int) ∧ s7 = .int .i64 ((n0 : Nat) : Int) ∧ s5 = .slice (some ⟨br, 0, none⟩) m cr ∧ wr.ownsRow w.heap.size 3 1 (.slice (some ⟨br, 0, none⟩) m cr) m (of.map (Value.int .i64)) ∧ Below w.heap.size w wr ∧
        Hid (Valid (gT T) m of ∧ RowsOk n of ∧ kuhn (gT T) m rows = (kuhnF (gT T) m (rows.drop k) of n0).2))
      case atStart => exact ⟨0, 0, _, _, _, by omega, Nat.le_refl _, rfl, rfl, rfl, HO.out, HB.out, Lib.hid ⟨valid_start _ m, rowsOk_start n m, rfl⟩⟩
      case round =>
        obtain ⟨k, n0, br, cr, of, hgk, hn0, rfl, rfl, rfl, ho, hb, Hv⟩ := hrel
        obtain ⟨wj, rfl⟩ : ∃ wj : World, wj = wr := ⟨_, rfl⟩
        by_cases hlt : k < L
        · obtain ⟨b2, o2, x, rfl, hbl, hxk, hcell⟩ := (HA.out.below hb).at1 hlt
          have hkr : k < rows.length := by rw [← Hlen.out]; exact hlt
          obtain ⟨r, hr⟩ : ∃ r, rows[k] = r := ⟨_, rfl⟩
          obtain rfl : x = (r : Int) := by
            rw [List.getElem?_map, List.getElem?_eq_getElem hkr] at hxk
            simp at hxk
            rw [← hxk, hr]
          have hrn : r < n := Hrows.out r (by rw [← hr]; exact List.getElem_mem hkr)
          have Hdrop := Lib.hid (show rows.drop k = r :: rows.drop (k + 1) by rw [List.drop_eq_getElem_cons hkr, hr])
          have i1 : (k : Int) < (L : Int) := by omega
          have hol : of.length = m := by have := ho.1; simpa using this
          obtain ⟨u, hu⟩ : ∃ u, findF (gT T) m (m + 1) r of (List.replicate m false) = u := ⟨_, rfl⟩
          have hpost := find_post (gT T) m of hol Hv.out.1 (m + 1) r (List.replicate m false) (by simp) (by rw [unseen_fresh]; omega)
          have hcons := kuhnF_cons (gT T) m r (rows.drop (k + 1)) of n0 u hu
          rw [hu] at hpost
          rw [← Hdrop.out] at hcons
          have HU := Lib.hid hu
          have HPo := Lib.hid hpost
          have HCo := Lib.hid hcons
          have Ho := Lib.hid ho
          have Hb := Lib.hid hb
          have hsz := hb.size
          have hsl : Sl wj 1 (some ⟨br, 0, none⟩) m (of.map (Value.int .i64)) := Sl.of_own ho
          have Hsl := Lib.hid hsl
          have hbrl : br < wj.heap.size := (row_heap ho).2.1
          have hmk := run_mkBool m (by omega)
          have hone : ∀ v ∈ of.map (Value.int .i64), v.oneCell' = true := by intro v hv; obtain ⟨y, _, rfl⟩ := List.mem_map.1 hv; rfl
          have Hone := Lib.hid hone
          clear hu hpost hcons hol ho hb hr hkr hxk hsl hone
          go_wp2_with fail
          go_upto_region 12 with fail
          go_cut [9, 11] (fun s9 s11 wx => ∃ (br' cr' bs cs : Nat) (sn : List Bool), s9 = .slice (some ⟨br', 0, none⟩) m cr' ∧ s11 = .bool u.2.2 ∧ Gs wx w.heap.size m br' cr' bs cs u.1 sn ∧ Below wj.heap.size wj wx)
          case first =>
            have hm1000 : m ≤ 1000 := by omega
            have HO1 := Lib.hid (own_newAt wj #[] 3 1 0 wj.heap.size rfl (Nat.le_refl _) (by unfold maxLen; omega) rfl)
            have HO2 := Lib.hid (HO1.out.kept (World.grownBy_alloc _ (.cells (madeCells #[Value.bool false] m) 4) none) (.inr (by simp [Value.ownBlock])))
            have HO3 := Lib.hid (own_newAt (wj.alloc (.cells (madeCells #[Value.bool false] m) 4)) #[] 3 1 0 wj.heap.size rfl (by simp) (by unfold maxLen; omega) (World.size_alloc _ _).symm)
            have HS1 := Lib.hid (Hsl.out.alloc (.cells #[] 3))
            have HS2 := Lib.hid (HS1.out.alloc (.cells (madeCells #[Value.bool false] m) 4))
            have HS3 := Lib.hid ((Hsl.out.alloc (.cells (madeCells #[Value.bool false] m) 4)).alloc (.cells #[] 3))
            go_region_held3 (fun w' => w'.cell? ⟨b2, o2 + k, none⟩ = some (.int .i64 (r : Int)))
              (first | go_keep | exact (hb4.cell (p := ⟨b2, o2 + k, none⟩) hbl).trans hcell | exact (hb1.cell (p := ⟨b2, o2 + k, none⟩) hbl).trans hcell)
              (first
              | (refine step_app0 rfl (.tmp 41) (.tmp 42) _ (by rfl) elemInt wj.heap.size _ _ (by rfl) (by first | exact HO1.out | exact HO2.out | exact HO3.out) (some ⟨br, 0, none⟩) m cr (of.map (Value.int .i64)) (by rfl) (by first | exact HS1.out | exact HS2.out | exact HS3.out) Hone.out (by omega) (by unfold maxLen; omega) (by omega) (by simp <;> omega) ?_; intro g1 c1 w1 ho1 hg1; have hg1 := grownBy_of_drew hg1; have hb1 : Below wj.heap.size wj w1 := Below.grown (by first | exact below_new _ _ | exact below_two _ _ _) hg1 (by simp <;> omega) (fun k hk => by injection hk; omega); have hg1l := (row_heap ho1).1; have hsz1 := hb1.size; have hsz2 := Nat.le_trans hsz hsz1; have hbw1 := Hb.out.trans (hb1.mono hsz))
              | (go_at_call 56; refine (refFind_any w (some ⟨b, o, none⟩) n c m T HT.out Hrect.out (by omega) (by omega) g1 c1 _ m (Nat.le_trans hsz hg1l) (by first | omega | (simp; omega)) m r of (List.replicate m false) _ (by rw [unseen_fresh]; omega) hrn (by first | exact gsA (own_less ho1 hsz) hm1000 hsz2 rfl | exact (gsA (own_less ho1 hsz) hm1000 hsz2 rfl).drew | exact gsB (heap_two2 wj _ _) hg1 (ne_succ1 _) (own_less ho1 hsz) hm1000 (Nat.le_succ_of_le hsz) | exact gsB (heap_two1 wj _ _) hg1 (ne_succ2 _) (own_less ho1 hsz) hm1000 hsz | exact (gsB (heap_two2 wj _ _) hg1 (ne_succ1 _) (own_less ho1 hsz) hm1000 (Nat.le_succ_of_le hsz)).drew | exact (gsB (heap_two1 wj _ _) hg1 (ne_succ2 _) (own_less ho1 hsz) hm1000 hsz).drew) (by first | exact hbw1 | exact hbw1.drew | exact hbw1.alloc hsz2 _ | exact (hbw1.alloc hsz2 _).drew) Hv.out.1 Hv.out.2.1).mono ?_; rw [HU.out]; rintro e w4 ⟨rfl, hF4, hK4⟩; have hb4 := Kx.low' (by first | exact hb1 | exact hb1.drew | exact hb1.alloc hsz1 _ | exact (hb1.alloc hsz1 _).drew) hK4 (or_ge hg1l (by first | omega | (simp; omega)))))
            all_goals
              go_wp2_with fail
              go_meet
              exact ⟨_, _, _, _, _, rfl, rfl, hF4, hb4⟩
          case rest =>
            obtain ⟨br', cr', bs, cs, sn, hv9, hv11, hG, hbx⟩ := hcut
            subst hv9 hv11
            have hbw := Hb.out.trans (hbx.mono hsz)
            cases hok : u.2.2 with
            | true =>
              obtain ⟨hv1, hv2, _⟩ := HPo.out.yes hok
              have hro := rowsOk_step Hv.out.2.1 hrn hv2
              have hk := HCo.out
              rw [if_pos hok] at hk
              have HV2 := Lib.hid (show Valid (gT T) m u.1 ∧ RowsOk n u.1 ∧ kuhn (gT T) m rows = (kuhnF (gT T) m (rows.drop (k + 1)) u.1 (n0 + 1)).2 from ⟨hv1, hro, by rw [Hv.out.2.2, hk]⟩)
              have HRW := Lib.hid hG.row
              clear hv1 hv2 hro hk hok hG hbx
              go_wp2_with fail
              go_roundg (gk - 1)
              case measure => omega
              case rel => exact ⟨k + 1, n0 + 1, br', cr', u.1, by omega, by omega, by go_num, by go_num, rfl, HRW.out, hbw, HV2⟩
            | false =>
              have hk := HCo.out
              rw [if_neg (by rw [hok]; simp)] at hk
              have HV2 := Lib.hid (show Valid (gT T) m of ∧ RowsOk n of ∧ kuhn (gT T) m rows = (kuhnF (gT T) m (rows.drop (k + 1)) of n0).2 from ⟨Hv.out.1, Hv.out.2.1, by rw [Hv.out.2.2, hk]⟩)
              have HRW := Lib.hid (ownsRow_below Ho.out hbx)
              clear hk hok hG hbx
              go_wp2_with fail
              go_roundg (gk - 1)
              case measure => omega
              case rel => exact ⟨k + 1, n0, br, cr, of, by omega, by omega, by go_num, rfl, rfl, HRW.out, hbw, HV2⟩
        · obtain rfl : L = k := by omega
          have hk := Hv.out.2.2
          rw [List.drop_of_length_le (by rw [← Hlen.out]; exact Nat.le_refl _)] at hk
          have Hfin := Lib.hid (hR.out (.returned (.int .i64 (n0 : Int))) wj ⟨by rw [hk]; rfl, hb⟩)
          clear ho hb hk
          go_wp2
          exact Hfin.out
end
section
open Go.RowKit

/-- A block of ints, known whole. -/
def Blk (W : World) (b : Nat) (l : List Int) : Prop := W.heap[b]? = some (.cells (l.map (Value.int .i64)).toArray 3 (0, 0))
def BlkB (W : World) (b : Nat) (l : List Bool) : Prop := W.heap[b]? = some (.cells (l.map Value.bool).toArray 4 (0, 0))
section
variable {W W' : World} {b b' k : Nat} {l : List Int} {lb : List Bool}
theorem Blk.at_ (h : Blk W b l) (hk : k < l.length) : W.cell? ⟨b, k, none⟩ = some (.int .i64 (l.getD k 0)) ∧ W.frozen? ⟨b, k, none⟩ = false := by
  refine ⟨?_, by simp [World.frozen?, show W.heap[b]? = _ from h]⟩
  rw [cell_of_row _ _ _ _ _ (0, 0) h, getD_get _ _ _ hk]
  simp [hk]
theorem BlkB.at_ (h : BlkB W b lb) (hk : k < lb.length) : W.cell? ⟨b, k, none⟩ = some (.bool (lb.getD k false)) ∧ W.frozen? ⟨b, k, none⟩ = false := by
  refine ⟨?_, by simp [World.frozen?, show W.heap[b]? = _ from h]⟩
  rw [cell_of_row _ _ _ _ _ (0, 0) h, getD_get _ _ _ hk]
  simp [hk]
theorem Blk.lt (h : Blk W b l) : b < W.heap.size := (Array.getElem?_eq_some_iff.1 h).1
theorem BlkB.lt (h : BlkB W b lb) : b < W.heap.size := (Array.getElem?_eq_some_iff.1 h).1
theorem Blk.set (h : Blk W b l) (k : Nat) (x : Int) : Blk (W.setCell ⟨b, k, none⟩ (.int .i64 x)) b (l.set k x) := by
  unfold Blk at *
  simp [World.setCell, Array.getElem?_modify, h, List.map_set]
theorem BlkB.set (h : BlkB W b lb) (k : Nat) (x : Bool) : BlkB (W.setCell ⟨b, k, none⟩ (.bool x)) b (lb.set k x) := by
  unfold BlkB at *
  simp [World.setCell, Array.getElem?_modify, h, List.map_set]
theorem Blk.other (h : Blk W b l) (hne : b ≠ b') (k : Nat) (v : Value) : Blk (W.setCell ⟨b', k, none⟩ v) b l := (Below.heap_setCell W ⟨b', k, none⟩ v b hne).trans h
theorem BlkB.other (h : BlkB W b lb) (hne : b ≠ b') (k : Nat) (v : Value) : BlkB (W.setCell ⟨b', k, none⟩ v) b lb := (Below.heap_setCell W ⟨b', k, none⟩ v b hne).trans h
theorem Blk.kx {S : Nat → Prop} (h : Blk W b l) (hk : Kx S W W') (hs : ¬ S b) : Blk W' b l := (hk.block b h.lt hs).trans h
theorem BlkB.kx {S : Nat → Prop} (h : BlkB W b lb) (hk : Kx S W W') (hs : ¬ S b) : BlkB W' b lb := (hk.block b h.lt hs).trans h
theorem Blk.below (h : Blk W b l) (hb : Below W.heap.size W W') : Blk W' b l := (hb.block b h.lt).trans h
theorem BlkB.below (h : BlkB W b lb) (hb : Below W.heap.size W W') : BlkB W' b lb := (hb.block b h.lt).trans h
theorem Blk.grown {r : Option Nat} (h : Blk W b l) (hg : W.grownBy W' r) (hr : r ≠ some b) : Blk W' b l := (hg.block b h.lt (fun e => hr e.symm)).trans h
theorem BlkB.grown {r : Option Nat} (h : BlkB W b lb) (hg : W.grownBy W' r) (hr : r ≠ some b) : BlkB W' b lb := (hg.block b h.lt (fun e => hr e.symm)).trans h
theorem Blk.ne (h : Blk W b l) (h' : BlkB W b' lb) : b ≠ b' := fun e => by
  subst e
  unfold Blk at h; unfold BlkB at h'
  rw [h] at h'
  simp at h'
theorem Blk.sl (h : Blk W b l) {n : Nat} (hn : n = l.length) : SlE intE 1 W (some ⟨b, 0, none⟩) n l := slE_of_block h hn
end
theorem castL_getD (l : List Nat) (k : Nat) : (castL l).getD k 0 = ((l.getD k 0 : Nat) : Int) := by
  unfold castL
  rw [List.getD_eq_getElem?_getD, List.getElem?_map, List.getD_eq_getElem?_getD]
  cases l[k]? <;> rfl
theorem castL_set (l : List Nat) (k x : Nat) : castL (l.set k x) = (castL l).set k (x : Int) := by simp [castL, List.map_set]
/-- The solver's block: the table, the prices, the row of each column, the way. -/
structure Sv (W : World) (sp : Nat) (A : Option Addr) (n c m bu bv bp bw : Nat) (u v : List Int) (p way : List Nat) : Prop where
  box : W.heap[sp]? = some (.cells #[.slice A n c, .slice (some ⟨bu, 0, none⟩) (n + 1) (n + 1), .slice (some ⟨bv, 0, none⟩) (m + 1) (m + 1), .slice (some ⟨bp, 0, none⟩) (m + 1) (m + 1), .slice (some ⟨bw, 0, none⟩) (m + 1) (m + 1)] 79 (0, 0))
  hu : Blk W bu u
  hv : Blk W bv v
  hp : Blk W bp (castL p)
  hw : Blk W bw (castL way)
  lu : u.length = n + 1
  lv : v.length = m + 1
  lp : p.length = m + 1
  lw : way.length = m + 1
/-- The solver's blocks are apart. -/
structure Ne5 (lo sp bu bv bp bw : Nat) : Prop where
  a1 : bu ≠ bv
  a2 : bu ≠ bp
  a3 : bu ≠ bw
  a4 : bv ≠ bp
  a5 : bv ≠ bw
  a6 : bp ≠ bw
  l0 : lo ≤ sp
  l1 : lo ≤ bu
  l2 : lo ≤ bv
  l3 : lo ≤ bp
  l4 : lo ≤ bw
section
variable {W W' : World} {sp n c m bu bv bp bw : Nat} {A : Option Addr} {u v : List Int} {p way : List Nat}
theorem Sv.cells (h : Sv W sp A n c m bu bv bp bw u v p way) : W.cell? ⟨sp, 0, none⟩ = some (.slice A n c) ∧ W.cell? ⟨sp, 1, none⟩ = some (.slice (some ⟨bu, 0, none⟩) (n + 1) (n + 1)) ∧ W.cell? ⟨sp, 2, none⟩ = some (.slice (some ⟨bv, 0, none⟩) (m + 1) (m + 1)) ∧
    W.cell? ⟨sp, 3, none⟩ = some (.slice (some ⟨bp, 0, none⟩) (m + 1) (m + 1)) ∧ W.cell? ⟨sp, 4, none⟩ = some (.slice (some ⟨bw, 0, none⟩) (m + 1) (m + 1)) :=
  ⟨by rw [cell_of_row _ _ 0 _ _ (0, 0) h.box]; rfl, by rw [cell_of_row _ _ 1 _ _ (0, 0) h.box]; rfl, by rw [cell_of_row _ _ 2 _ _ (0, 0) h.box]; rfl, by rw [cell_of_row _ _ 3 _ _ (0, 0) h.box]; rfl, by rw [cell_of_row _ _ 4 _ _ (0, 0) h.box]; rfl⟩
theorem Sv.ne (h : Sv W sp A n c m bu bv bp bw u v p way) {b : Nat} {l : List Int} (hb : Blk W b l) : sp ≠ b := fun e => by
  subst e
  unfold Blk at hb
  rw [h.box] at hb
  simp at hb
theorem Sv.neB (h : Sv W sp A n c m bu bv bp bw u v p way) {b : Nat} {l : List Bool} (hb : BlkB W b l) : sp ≠ b := fun e => by
  subst e
  unfold BlkB at hb
  rw [h.box] at hb
  simp at hb
theorem Sv.lt (h : Sv W sp A n c m bu bv bp bw u v p way) : sp < W.heap.size := (Array.getElem?_eq_some_iff.1 h.box).1
theorem Sv.drewN (h : Sv W sp A n c m bu bv bp bw u v p way) (q : Nat) : Sv (W.drewN q) sp A n c m bu bv bp bw u v p way := ⟨h.box, h.hu, h.hv, h.hp, h.hw, h.lu, h.lv, h.lp, h.lw⟩
theorem Sv.other (h : Sv W sp A n c m bu bv bp bw u v p way) {b : Nat} (h0 : sp ≠ b) (h1 : bu ≠ b) (h2 : bv ≠ b) (h3 : bp ≠ b) (h4 : bw ≠ b) (k : Nat) (x : Value) : Sv (W.setCell ⟨b, k, none⟩ x) sp A n c m bu bv bp bw u v p way :=
  ⟨(Below.heap_setCell W ⟨b, k, none⟩ x sp h0).trans h.box, h.hu.other h1 k x, h.hv.other h2 k x, h.hp.other h3 k x, h.hw.other h4 k x, h.lu, h.lv, h.lp, h.lw⟩
theorem Sv.below (h : Sv W sp A n c m bu bv bp bw u v p way) (hb : Below W.heap.size W W') : Sv W' sp A n c m bu bv bp bw u v p way :=
  ⟨(hb.block sp h.lt).trans h.box, h.hu.below hb, h.hv.below hb, h.hp.below hb, h.hw.below hb, h.lu, h.lv, h.lp, h.lw⟩
variable {lo : Nat}
theorem Sv.setW (h : Sv W sp A n c m bu bv bp bw u v p way) (hn : Ne5 lo sp bu bv bp bw) (k x : Nat) : Sv (W.setCell ⟨bw, k, none⟩ (.int .i64 (x : Int))) sp A n c m bu bv bp bw u v p (way.set k x) :=
  ⟨(Below.heap_setCell W ⟨bw, k, none⟩ _ sp (h.ne h.hw)).trans h.box, h.hu.other hn.a3 k _, h.hv.other hn.a5 k _, h.hp.other hn.a6 k _, by rw [castL_set]; exact h.hw.set k _, h.lu, h.lv, h.lp, by simpa using h.lw⟩
theorem Sv.setP (h : Sv W sp A n c m bu bv bp bw u v p way) (hn : Ne5 lo sp bu bv bp bw) (k x : Nat) : Sv (W.setCell ⟨bp, k, none⟩ (.int .i64 (x : Int))) sp A n c m bu bv bp bw u v (p.set k x) way :=
  ⟨(Below.heap_setCell W ⟨bp, k, none⟩ _ sp (h.ne h.hp)).trans h.box, h.hu.other hn.a2 k _, h.hv.other hn.a4 k _, by rw [castL_set]; exact h.hp.set k _, h.hw.other (fun e => hn.a6 e.symm) k _, h.lu, h.lv, by simpa using h.lp, h.lw⟩
theorem Sv.setU (h : Sv W sp A n c m bu bv bp bw u v p way) (hn : Ne5 lo sp bu bv bp bw) (k : Nat) (x : Int) : Sv (W.setCell ⟨bu, k, none⟩ (.int .i64 x)) sp A n c m bu bv bp bw (u.set k x) v p way :=
  ⟨(Below.heap_setCell W ⟨bu, k, none⟩ _ sp (h.ne h.hu)).trans h.box, h.hu.set k _, h.hv.other (fun e => hn.a1 e.symm) k _, h.hp.other (fun e => hn.a2 e.symm) k _, h.hw.other (fun e => hn.a3 e.symm) k _, by simpa using h.lu, h.lv, h.lp, h.lw⟩
theorem Sv.setV (h : Sv W sp A n c m bu bv bp bw u v p way) (hn : Ne5 lo sp bu bv bp bw) (k : Nat) (x : Int) : Sv (W.setCell ⟨bv, k, none⟩ (.int .i64 x)) sp A n c m bu bv bp bw u (v.set k x) p way :=
  ⟨(Below.heap_setCell W ⟨bv, k, none⟩ _ sp (h.ne h.hv)).trans h.box, h.hu.other hn.a1 k _, h.hv.set k _, h.hp.other (fun e => hn.a4 e.symm) k _, h.hw.other (fun e => hn.a5 e.symm) k _, h.lu, by simpa using h.lv, h.lp, h.lw⟩
theorem Sv.at_ (h : Sv W sp A n c m bu bv bp bw u v p way) {k : Nat} (hk : k ≤ m) : W.cell? ⟨bv, k, none⟩ = some (.int .i64 (v.getD k 0)) ∧ W.cell? ⟨bp, k, none⟩ = some (.int .i64 ((p.getD k 0 : Nat) : Int)) ∧ W.cell? ⟨bw, k, none⟩ = some (.int .i64 ((way.getD k 0 : Nat) : Int)) ∧
    W.frozen? ⟨bv, k, none⟩ = false ∧ W.frozen? ⟨bp, k, none⟩ = false ∧ W.frozen? ⟨bw, k, none⟩ = false := by
  obtain ⟨a1, a2⟩ := h.hv.at_ (k := k) (by rw [h.lv]; omega)
  obtain ⟨b1, b2⟩ := h.hp.at_ (k := k) (by rw [castL_len, h.lp]; omega)
  obtain ⟨c1, c2⟩ := h.hw.at_ (k := k) (by rw [castL_len, h.lw]; omega)
  rw [castL_getD] at b1 c1
  exact ⟨a1, b1, c1, a2, b2, c2⟩
theorem Sv.atU (h : Sv W sp A n c m bu bv bp bw u v p way) {k : Nat} (hk : k ≤ n) : W.cell? ⟨bu, k, none⟩ = some (.int .i64 (u.getD k 0)) ∧ W.frozen? ⟨bu, k, none⟩ = false := h.hu.at_ (by rw [h.lu]; omega)
end
set_option maxHeartbeats 1000000 in
theorem at_any (w0 : World) (sp n c m : Nat) (A : Option Addr) (T : List (List Int)) (hT : SlR w0 A n T) (hrect : ∀ x ∈ T, x.length = m) (W : World) (hb : Below w0.heap.size w0 W) (hbox : W.cell? ⟨sp, 0, none⟩ = some (.slice A n c)) (x y : Int) (i j : Nat) (hx : x = (i : Int)) (hy : y = (j : Int)) (h1 : 1 ≤ i) (h2 : i ≤ n) (h3 : 1 ≤ j) (h4 : j ≤ m) (hn : n ≤ 1000) (hm : m ≤ 1000) :
    Calls Try.prog 76 #[.pointer (some ⟨sp, 0, none⟩), .int .i64 x, .int .i64 y] W fun e W' => e = .returned (.int .i64 (aF T i j)) ∧ W = W' := by
  refine calls_cps ?_
  intro R hR
  obtain ⟨i0, rfl⟩ : ∃ i0, i = i0 + 1 := ⟨i - 1, by omega⟩
  obtain ⟨j0, rfl⟩ : ∃ j0, j = j0 + 1 := ⟨j - 1, by omega⟩
  obtain rfl : x = (i0 : Int) + 1 := by omega
  obtain rfl : y = (j0 : Int) + 1 := by omega
  obtain ⟨b, o, Ai, ci, bi, oi, rfl, _, _, q1, rfl, q2⟩ := table_at hT hrect hb (r := i0) (k := j0) (by omega) (by omega)
  obtain ⟨z, hz⟩ : ∃ z, ct T i0 j0 = z := ⟨_, rfl⟩
  rw [hz] at q2
  have i1 : (i0 : Int) < (n : Int) := by omega
  have i2 : (j0 : Int) < (m : Int) := by omega
  have haf : aF T (i0 + 1) (j0 + 1) = if z = -1 then 1000000000000 else z := by unfold aF; simp only [Nat.add_sub_cancel]; rw [hz]
  by_cases hz1 : z = -1
  · subst hz1
    rw [if_pos rfl] at haf
    have Hf := Lib.hid (hR.out (.returned (.int .i64 1000000000000)) W ⟨by rw [haf], rfl⟩)
    clear hx hy hR haf hz hT hrect hb
    go_enter Try.func76, Try.ntmps76
    go_wp2
    exact Hf.out
  · rw [if_neg hz1] at haf
    have hz2 : (z != -1) = true := by simpa using hz1
    have Hf := Lib.hid (hR.out (.returned (.int .i64 z)) W ⟨by rw [haf], rfl⟩)
    clear hx hy hR haf hz hT hrect hb hz1
    go_enter Try.func76, Try.ntmps76
    go_wp2
    exact Hf.out
end
section
open Go.RowKit

theorem nearStep_used {d : Nat → Int} {used : List Bool} {fr j : Nat} {s : List Int × List Nat × Nat} (h : used.getD j false = true) : nearStep d used fr j s = s := by rw [nearStep, if_pos h]
theorem nearStep_less {d : Nat → Int} {used : List Bool} {fr j : Nat} {s : List Int × List Nat × Nat} (h : used.getD j false = false) (hd : d j < s.1.getD j 0) :
    nearStep d used fr j s = (s.1.set j (d j), s.2.1.set j fr, if s.2.2 = 0 ∨ d j < (s.1.set j (d j)).getD s.2.2 0 then j else s.2.2) := by rw [nearStep, if_neg (by rw [h]; simp), if_pos hd]
theorem nearStep_more {d : Nat → Int} {used : List Bool} {fr j : Nat} {s : List Int × List Nat × Nat} (h : used.getD j false = false) (hd : ¬ d j < s.1.getD j 0) :
    nearStep d used fr j s = (s.1, s.2.1, if s.2.2 = 0 ∨ s.1.getD j 0 < s.1.getD s.2.2 0 then j else s.2.2) := by rw [nearStep, if_neg (by rw [h]; simp), if_neg hd]
/-- What near keeps. -/
structure Nr (W : World) (sp : Nat) (A : Option Addr) (n c m bu bv bp bw bl bs : Nat) (u v : List Int) (p way : List Nat) (least : List Int) (used : List Bool) : Prop where
  sv : Sv W sp A n c m bu bv bp bw u v p way
  bl : Blk W bl least
  bs : BlkB W bs used
  ll : least.length = m + 1
  ls : used.length = m + 1
structure Ne7 (lo sp bu bv bp bw bl bs : Nat) : Prop where
  n5 : Ne5 lo sp bu bv bp bw
  b1 : bu ≠ bl
  b2 : bv ≠ bl
  b3 : bp ≠ bl
  b4 : bw ≠ bl
  l5 : lo ≤ bl
  l6 : lo ≤ bs
section
variable {W W' : World} {lo sp n c m bu bv bp bw bl bs : Nat} {A : Option Addr} {u v : List Int} {p way : List Nat} {least : List Int} {used : List Bool}
theorem Nr.drewN (h : Nr W sp A n c m bu bv bp bw bl bs u v p way least used) (q : Nat) : Nr (W.drewN q) sp A n c m bu bv bp bw bl bs u v p way least used := ⟨h.sv.drewN q, h.bl, h.bs, h.ll, h.ls⟩
theorem Nr.setL (h : Nr W sp A n c m bu bv bp bw bl bs u v p way least used) (hn : Ne7 lo sp bu bv bp bw bl bs) (k : Nat) (x : Int) : Nr (W.setCell ⟨bl, k, none⟩ (.int .i64 x)) sp A n c m bu bv bp bw bl bs u v p way (least.set k x) used :=
  ⟨h.sv.other (h.sv.ne h.bl) hn.b1 hn.b2 hn.b3 hn.b4 k _, h.bl.set k x, h.bs.other (fun e => h.bl.ne h.bs e.symm) k _, by simpa using h.ll, h.ls⟩
theorem Nr.setS (h : Nr W sp A n c m bu bv bp bw bl bs u v p way least used) (k : Nat) (x : Bool) : Nr (W.setCell ⟨bs, k, none⟩ (.bool x)) sp A n c m bu bv bp bw bl bs u v p way least (used.set k x) :=
  ⟨h.sv.other (h.sv.neB h.bs) (h.sv.hu.ne h.bs) (h.sv.hv.ne h.bs) (h.sv.hp.ne h.bs) (h.sv.hw.ne h.bs) k _, h.bl.other (h.bl.ne h.bs) k _, h.bs.set k x, h.ll, by simpa using h.ls⟩
theorem Nr.setW (h : Nr W sp A n c m bu bv bp bw bl bs u v p way least used) (hn : Ne7 lo sp bu bv bp bw bl bs) (k x : Nat) : Nr (W.setCell ⟨bw, k, none⟩ (.int .i64 (x : Int))) sp A n c m bu bv bp bw bl bs u v p (way.set k x) least used :=
  ⟨h.sv.setW hn.n5 k x, h.bl.other (fun e => hn.b4 e.symm) k _, h.bs.other (fun e => h.sv.hw.ne h.bs e.symm) k _, h.ll, h.ls⟩
theorem Nr.setU (h : Nr W sp A n c m bu bv bp bw bl bs u v p way least used) (hn : Ne7 lo sp bu bv bp bw bl bs) (k : Nat) (x : Int) : Nr (W.setCell ⟨bu, k, none⟩ (.int .i64 x)) sp A n c m bu bv bp bw bl bs (u.set k x) v p way least used :=
  ⟨h.sv.setU hn.n5 k x, h.bl.other (fun e => hn.b1 e.symm) k _, h.bs.other (fun e => h.sv.hu.ne h.bs e.symm) k _, h.ll, h.ls⟩
theorem Nr.setV (h : Nr W sp A n c m bu bv bp bw bl bs u v p way least used) (hn : Ne7 lo sp bu bv bp bw bl bs) (k : Nat) (x : Int) : Nr (W.setCell ⟨bv, k, none⟩ (.int .i64 x)) sp A n c m bu bv bp bw bl bs u (v.set k x) p way least used :=
  ⟨h.sv.setV hn.n5 k x, h.bl.other (fun e => hn.b2 e.symm) k _, h.bs.other (fun e => h.sv.hv.ne h.bs e.symm) k _, h.ll, h.ls⟩
theorem Nr.atL (h : Nr W sp A n c m bu bv bp bw bl bs u v p way least used) {k : Nat} (hk : k ≤ m) : W.cell? ⟨bl, k, none⟩ = some (.int .i64 (least.getD k 0)) ∧ W.cell? ⟨bs, k, none⟩ = some (.bool (used.getD k false)) ∧ W.frozen? ⟨bl, k, none⟩ = false ∧ W.frozen? ⟨bs, k, none⟩ = false := by
  obtain ⟨a1, a2⟩ := h.bl.at_ (k := k) (by rw [h.ll]; omega)
  obtain ⟨b1, b2⟩ := h.bs.at_ (k := k) (by rw [h.ls]; omega)
  exact ⟨a1, b1, a2, b2⟩
end
theorem kx_set {S : Nat → Prop} {W W' : World} {b : Nat} (h : Kx S W W') (hs : S b) (k : Nat) (v : Value) : Kx S W (W'.setCell ⟨b, k, none⟩ v) :=
  ⟨h.os, h.tape, h.output, by have := h.size; simpa [World.setCell] using this, fun j hj hn => (Below.heap_setCell W' ⟨b, k, none⟩ v j (fun e => hn (e ▸ hs))).trans (h.block j hj hn)⟩
theorem at_quiet (w0 : World) (sp n c m : Nat) (A : Option Addr) (T : List (List Int)) (hT : SlR w0 A n T) (hrect : ∀ x ∈ T, x.length = m) (W : World) (hb : Below w0.heap.size w0 W) (hbox : W.cell? ⟨sp, 0, none⟩ = some (.slice A n c)) (x y : Int) (i j : Nat) (hx : x = (i : Int)) (hy : y = (j : Int)) (h1 : 1 ≤ i) (h2 : i ≤ n) (h3 : 1 ≤ j) (h4 : j ≤ m) (hn : n ≤ 1000) (hm : m ≤ 1000) (a : Int) (ha : aF T i j = a) (q : Nat) :
    Calls Try.prog 76 #[.pointer (some ⟨sp, 0, none⟩), .int .i64 x, .int .i64 y] (W.drewN q) fun e W' => e = .returned (.int .i64 a) ∧ ∃ k, W' = W.drewN k :=
  (at_any w0 sp n c m A T hT hrect (W.drewN q) (below_drewN hb q) hbox x y i j hx hy h1 h2 h3 h4 hn hm).mono fun _ _ ⟨h, h'⟩ => ⟨by rw [h, ha], q, h'.symm⟩
set_option maxRecDepth 100000 in
set_option maxHeartbeats 8000000 in
theorem near_any (w0 : World) (sp n c m bu bv bp bw bl bs : Nat) (A : Option Addr) (T : List (List Int)) (hT : SlR w0 A n T) (hok : TOk T m) (hNe : Ne7 w0.heap.size sp bu bv bp bw bl bs)
    (u v : List Int) (p way : List Nat) (least : List Int) (used : List Bool) (W : World) (hb : Below w0.heap.size w0 W) (hN : Nr W sp A n c m bu bv bp bw bl bs u v p way least used)
    (row fr : Nat) (h1 : 1 ≤ row) (h2 : row ≤ n) (hu : ∀ i, -3000000000000000 ≤ u.getD i 0 ∧ u.getD i 0 ≤ 3000000000000000) (hv : ∀ i, -3000000000000000 ≤ v.getD i 0 ∧ v.getD i 0 ≤ 3000000000000000) :
    Calls Try.prog 73 #[.pointer (some ⟨sp, 0, none⟩), .int .i64 (row : Int), .int .i64 (fr : Int), .slice (some ⟨bl, 0, none⟩) (m + 1) (m + 1), .slice (some ⟨bs, 0, none⟩) (m + 1) (m + 1)] W fun e W' =>
      e = .returned (.tuple #[.int .i64 ((nearF (nearD (aF T) u v row) used fr least way m).2.2 : Int), .int .i64 ((nearF (nearD (aF T) u v row) used fr least way m).1.getD (nearF (nearD (aF T) u v row) used fr least way m).2.2 0)]) ∧
      Nr W' sp A n c m bu bv bp bw bl bs u v p (nearF (nearD (aF T) u v row) used fr least way m).2.1 (nearF (nearD (aF T) u v row) used fr least way m).1 used ∧ Kx (fun j => j = bl ∨ j = bw) W W' := by
  refine calls_cps ?_
  intro R hR
  have hm64 := hok.m64
  have hnm : n ≤ m := by rw [hT.1]; exact hok.nm
  have hco := fun j (h3 : 1 ≤ j) (h4 : j ≤ m) => aF_bd hok.costOk row j h1 (by rw [← hT.1]; exact h2) h3 h4
  have hnr := fun k (hk : k ≤ m) => near_ok (nearD (aF T) u v row) used fr least way k (by rw [hN.ll]; omega) (by rw [hN.sv.lw]; omega)
  obtain ⟨d, hd⟩ : ∃ d, nearD (aF T) u v row = d := ⟨_, rfl⟩
  rw [hd] at hR hnr
  have Hd := Lib.hid hd
  have Hnr := Lib.hid hnr
  have Hco := Lib.hid hco
  have Hu := Lib.hid hu
  have Hv := Lib.hid hv
  have HN := Lib.hid hN
  have HT := Lib.hid hT
  have Hrect := Lib.hid hok.rect
  have HNe := Lib.hid hNe
  have Hb := Lib.hid hb
  have i3 : (row : Int) < (n : Int) + 1 := by omega
  clear hd hnr hco hu hv hN hT hok hNe hb
  go_enter Try.func73, Try.ntmps73
  go_wp2_with fail
  go_loopg [12, 13] m (fun gk s12 s13 wr => ∃ (k nx : Nat) (l1 : List Int) (w1 : List Nat), k + gk = m ∧ s13 = .int .i64 (((k : Nat) : Int) + 1) ∧ s12 = .int .i64 ((nx : Nat) : Int) ∧ nx ≤ k ∧ Nr wr sp A n c m bu bv bp bw bl bs u v p w1 l1 used ∧ Kx (fun j => j = bl ∨ j = bw) W wr ∧ Hid (nearF d used fr least way k = (l1, w1, nx)))
  case atStart => exact ⟨0, 0, least, way, by omega, rfl, rfl, Nat.le_refl _, HN.out, Kx.refl _ _, Lib.hid rfl⟩
  case round =>
    obtain ⟨k, nx, l1, w1, hgk, rfl, rfl, hnk, hN, hK, He⟩ := hrel
    obtain ⟨wi, rfl⟩ : ∃ wi : World, wi = wr := ⟨_, rfl⟩
    obtain ⟨q0, q1, q2, q3, q4⟩ := hN.sv.cells
    by_cases hlt : k < m
    · obtain ⟨c1, c2, c3, c4⟩ := hN.atL (k := k + 1) (by omega)
      have i1 : (k : Int) + 1 < (m : Int) + 1 := by omega
      have i2 : (k : Int) + 1 ≤ 9223372036854775807 := by omega
      have t1 : ((k : Int) + 1).toNat = k + 1 := by omega
      have HN1 := Lib.hid hN
      cases hs : used.getD (k + 1) false with
      | true =>
        rw [hs] at c2
        have HE := Lib.hid (show nearF d used fr least way (k + 1) = (l1, w1, nx) by rw [nearF, He.out, nearStep_used hs])
        clear hs hN
        go_wp2_with fail
        go_roundg (gk - 1)
        case measure => omega
        case rel => exact ⟨k + 1, nx, l1, w1, by omega, by go_num, rfl, by omega, HN1.out, hK, HE⟩
      | false =>
        rw [hs] at c2
        obtain ⟨a, ha⟩ : ∃ a, aF T row (k + 1) = a := ⟨_, rfl⟩
        obtain ⟨x, hx⟩ : ∃ x, u.getD row 0 = x := ⟨_, rfl⟩
        obtain ⟨y, hy⟩ : ∃ y, v.getD (k + 1) 0 = y := ⟨_, rfl⟩
        obtain ⟨e1, e2⟩ := hN.sv.atU (k := row) h2
        obtain ⟨f1, f2, f3, f4, f5, f6⟩ := hN.sv.at_ (k := k + 1) (by omega)
        rw [hx] at e1
        rw [hy] at f1
        have hab := Hco.out (k + 1) (by omega) (by omega)
        have hxb := Hu.out row
        have hyb := Hv.out (k + 1)
        rw [ha] at hab
        rw [hx] at hxb
        rw [hy] at hyb
        unfold DEAR at hab
        have hdk : d (k + 1) = a - x - y := by rw [← Hd.out]; unfold nearD; rw [ha, hx, hy]
        have z1 : IntKind.i64.wrap (a - x) = a - x := IntWalk.i64_in _ (by omega)
        have z2 : IntKind.i64.wrap (a - x - y) = a - x - y := IntWalk.i64_in _ (by omega)
        have Ha := Lib.hid ha
        have Hdk := Lib.hid hdk
        have Hs := Lib.hid hs
        have Hbi := Lib.hid (Kx.low Hb.out hK (or_ge HNe.out.l5 HNe.out.n5.l4) Hb.out.size)
        clear ha hdk hs hx hy f2 f3 f4 f5 f6 c1 c3 c4 hN
        go_wp2_with fail
        go_quiet ((go_at_call 76; exact at_quiet w0 sp n c m A T HT.out Hrect.out _ Hbi.out q0 _ _ row (k + 1) rfl (by omega) h1 h2 (by omega) (by omega) (by omega) (by omega) a Ha.out _))
        rename_i nq
        have hNd := HN1.out.drewN nq
        have hKd := hK.drewN nq
        clear q0 q1 q2 q3 q4 e1 e2 f1 c2 hK
        generalize wi.drewN nq = wd at *
        obtain ⟨q0, q1, q2, q3, q4⟩ := hNd.sv.cells
        obtain ⟨c1, c2, c3, c4⟩ := hNd.atL (k := k + 1) (by omega)
        obtain ⟨f1, f2, f3, f4, f5, f6⟩ := hNd.sv.at_ (k := k + 1) (by omega)
        obtain ⟨l, hl⟩ : ∃ l, l1.getD (k + 1) 0 = l := ⟨_, rfl⟩
        rw [hl] at c1
        have hln : l1.length = m + 1 := hNd.ll
        have n1 : bl ≠ bw := fun e => HNe.out.b4 e.symm
        have n2 : sp ≠ bl := hNd.sv.ne hNd.bl
        have n3 : sp ≠ bw := hNd.sv.ne hNd.sv.hw
        have HNd := Lib.hid hNd
        have HKd := Lib.hid hKd
        have Hl := Lib.hid hl
        have Hln := Lib.hid hln
        clear hNd hKd hl f1 f2 f4 f5 c2 c4 hln
        by_cases hdl : a - x - y < l
        · have hNs := (HNd.out.setL HNe.out (k + 1) (a - x - y)).setW HNe.out (k + 1) fr
          have hKs := kx_set (kx_set HKd.out (b := bl) (.inl rfl) (k + 1) (.int .i64 (a - x - y))) (b := bw) (.inr rfl) (k + 1) (.int .i64 (fr : Int))
          have hst := fun r hr => (show nearF d used fr least way (k + 1) = (l1.set (k + 1) (a - x - y), w1.set (k + 1) fr, r) by rw [nearF, He.out, nearStep_less Hs.out (by rw [Hdk.out]; simp only; rw [Hl.out]; exact hdl), Hdk.out]; exact hr)
          have HNs := Lib.hid hNs
          have HKs := Lib.hid hKs
          have Hst := Lib.hid hst
          obtain ⟨g1, g2, g3, g4⟩ := hNs.atL (k := k + 1) (by omega)
          obtain ⟨o1, o2, o3, o4⟩ := hNs.atL (k := nx) (by omega)
          rw [getD_set_eq _ _ _ _ (by rw [Hln.out]; omega)] at g1
          clear hNs hKs hst g2 g3 g4 o2 o3 o4
          obtain ⟨y2, hy2⟩ : ∃ y2, (l1.set (k + 1) (a - x - y)).getD nx 0 = y2 := ⟨_, rfl⟩
          rw [hy2] at o1
          have Hy2 := Lib.hid hy2
          clear hy2
          by_cases hnx : nx = 0
          · have g0 : ((nx : Int) == 0) = true := by simp [hnx]
            have HE := Lib.hid (Hst.out (k + 1) (by rw [if_pos (.inl hnx)]))
            clear hnx
            go_wp2_with fail
            go_quiet (fail)
            go_wp2_with fail
            go_roundg (gk - 1)
            case measure => omega
            case rel => exact ⟨k + 1, k + 1, l1.set (k + 1) (a - x - y), w1.set (k + 1) fr, by omega, by go_num, by go_num, Nat.le_refl _, HNs.out.drewN _, HKs.out.drewN _, HE⟩
          · have g0 : ((nx : Int) == 0) = false := by simp; omega
            have i4 : (nx : Int) < (m : Int) + 1 := by omega
            by_cases hlt2 : a - x - y < y2
            · have HE := Lib.hid (Hst.out (k + 1) (by rw [if_pos (.inr (by simp only; rw [Hy2.out]; exact hlt2))]))
              clear hnx
              go_wp2_with fail
              go_quiet (fail)
              go_wp2_with fail
              go_roundg (gk - 1)
              case measure => omega
              case rel => exact ⟨k + 1, k + 1, l1.set (k + 1) (a - x - y), w1.set (k + 1) fr, by omega, by go_num, by go_num, Nat.le_refl _, HNs.out.drewN _, HKs.out.drewN _, HE⟩
            · have HE := Lib.hid (Hst.out nx (by rw [if_neg (by simp only; rw [Hy2.out]; omega)]))
              have g5 : decide (a - x - y < y2) = false := by simpa using hlt2
              clear hnx
              go_wp2_with fail
              go_quiet (fail)
              go_wp2_with fail
              go_roundg (gk - 1)
              case measure => omega
              case rel => exact ⟨k + 1, nx, l1.set (k + 1) (a - x - y), w1.set (k + 1) fr, by omega, by go_num, rfl, by omega, HNs.out.drewN _, HKs.out.drewN _, HE⟩
        · have hst := fun r hr => (show nearF d used fr least way (k + 1) = (l1, w1, r) by rw [nearF, He.out, nearStep_more Hs.out (by rw [Hdk.out]; simp only; rw [Hl.out]; exact hdl)]; exact hr)
          have Hst := Lib.hid hst
          obtain ⟨o1, o2, o3, o4⟩ := HNd.out.atL (k := nx) (by omega)
          clear hst o2 o3 o4
          obtain ⟨y2, hy2⟩ : ∃ y2, (l1).getD nx 0 = y2 := ⟨_, rfl⟩
          rw [hy2] at o1
          have Hy2 := Lib.hid hy2
          clear hy2
          by_cases hnx : nx = 0
          · have g0 : ((nx : Int) == 0) = true := by simp [hnx]
            have HE := Lib.hid (Hst.out (k + 1) (by rw [if_pos (.inl hnx)]))
            clear hnx
            go_wp2_with fail
            go_quiet (fail)
            go_wp2_with fail
            go_roundg (gk - 1)
            case measure => omega
            case rel => exact ⟨k + 1, k + 1, l1, w1, by omega, by go_num, by go_num, Nat.le_refl _, HNd.out.drewN _, HKd.out.drewN _, HE⟩
          · have g0 : ((nx : Int) == 0) = false := by simp; omega
            have i4 : (nx : Int) < (m : Int) + 1 := by omega
            by_cases hlt2 : l < y2
            · have HE := Lib.hid (Hst.out (k + 1) (by rw [if_pos (.inr (by simp only; rw [Hl.out, Hy2.out]; exact hlt2))]))
              clear hnx
              go_wp2_with fail
              go_quiet (fail)
              go_wp2_with fail
              go_roundg (gk - 1)
              case measure => omega
              case rel => exact ⟨k + 1, k + 1, l1, w1, by omega, by go_num, by go_num, Nat.le_refl _, HNd.out.drewN _, HKd.out.drewN _, HE⟩
            · have HE := Lib.hid (Hst.out nx (by rw [if_neg (by simp only; rw [Hl.out, Hy2.out]; omega)]))
              have g5 : decide (l < y2) = false := by simpa using hlt2
              clear hnx
              go_wp2_with fail
              go_quiet (fail)
              go_wp2_with fail
              go_roundg (gk - 1)
              case measure => omega
              case rel => exact ⟨k + 1, nx, l1, w1, by omega, by go_num, rfl, by omega, HNd.out.drewN _, HKd.out.drewN _, HE⟩
    · obtain rfl : m = k := by omega
      obtain ⟨c1, c2, c3, c4⟩ := hN.atL (k := nx) (by omega)
      have i4 : (nx : Int) < (m : Int) + 1 := by omega
      have Hfin := Lib.hid (show ∀ q, R (.returned (.tuple #[.int .i64 (nx : Int), .int .i64 (l1.getD nx 0)])) (wi.drewN q) from fun q => hR.out _ _ ⟨by rw [He.out], by rw [He.out]; exact hN.drewN q, hK.drewN q⟩)
      clear hN hK c2 c3 c4
      go_wp2_with fail
      go_quiet (fail)
      go_wp2
      exact Hfin.out _
end
section
theorem si_start {a : Nat → Nat → Int} {n m k : Nat} {u v : List Int} {p way : List Nat} (_ha : ∀ i j, 1 ≤ i → i ≤ n → 1 ≤ j → j ≤ m → 0 ≤ a i j ∧ a i j ≤ DEAR) (hnm : n ≤ m) (hk : k < n) (h : MI a n m k u v p way) :
    SI a n m (k + 1) u v (p.set 0 (k + 1)) [] 0 u v (List.replicate (m + 1) BIG) way (List.replicate (m + 1) false) 0 := by
  have hD : DEAR = 1000000000000 := rfl
  have hp := h.pc hk hnm
  have hl := h.lp
  have e1 : ∀ j, 1 ≤ j → (p.set 0 (k + 1)).getD j 0 = p.getD j 0 := fun j hj => getD_set_ne _ _ _ _ _ (by omega)
  have gb : ∀ j, 1 ≤ j → j ≤ m → (List.replicate (m + 1) BIG).getD j 0 = BIG := fun j _ hj => by rw [List.getD_eq_getElem?_getD, List.getElem?_replicate, if_pos (by omega)]; rfl
  refine ⟨h.lu, h.lv, by simp, h.lw, by simp, by omega, by simp, fun j => ⟨fun h => absurd h fresh_false, fun h => by simp at h⟩, by simp, by simp, trivial, .inl ⟨rfl, rfl⟩, by simp, h.feas, fun j h1 h2 h3 => ?_, h.vneg, fun j h1 h2 h3 => ?_, fun h => absurd rfl h, fun _ => gb, Int.le_refl _, by omega, h.u0 _ (by omega), fun i => by omega, fun j => by omega, fun _ _ => rfl⟩
  · rw [e1 j h1] at h3 ⊢; exact h.tm j h1 h2 h3
  · rw [e1 j h1] at h3; exact h.vfree j h1 h2 h3
/-- The bounds of one round's sums. -/
structure RoundOk (m : Nat) (u v : List Int) (p : List Nat) (s : List Int × List Nat × Nat) (used : List Bool) (b : Int) (k : Nat) (t : Shs) : Prop where
  l1 : t.1.length = u.length
  l2 : t.2.1.length = v.length
  l3 : t.2.2.length = s.1.length
  up : used.getD k false = true → t.1.getD (p.getD k 0) 0 = u.getD (p.getD k 0) 0 ∧ t.2.1.getD k 0 = v.getD k 0
  no : used.getD k false = false → t.2.2.getD k 0 = s.1.getD k 0 ∧ -20000000000000000 ≤ s.1.getD k 0 ∧ s.1.getD k 0 ≤ 20000000000000000
theorem round_ok {a : Nat → Nat → Int} {n m r : Nat} {u0 v0 : List Int} {p : List Nat} (hp : PC n m r p) (ha : ∀ i j, 1 ≤ i → i ≤ n → 1 ≤ j → j ≤ m → 0 ≤ a i j ∧ a i j ≤ DEAR)
    (hu0 : ∀ i, -1000000000000000 ≤ u0.getD i 0 ∧ u0.getD i 0 ≤ 1000000000000000) (hv0 : ∀ j, -1000000000000000 ≤ v0.getD j 0 ∧ v0.getD j 0 ≤ 1000000000000000) {ord : List Nat} {col : Nat} {u v least : List Int} {way : List Nat} {used : List Bool} {dl : Int}
    (h : SI a n m r u0 v0 p ord col u v least way used dl) (hpc : p.getD col 0 ≠ 0) {s : List Int × List Nat × Nat} {b : Int} (hs : nearF (nearD a u v (p.getD col 0)) (used.set col true) col least way m = s) (hb : s.1.getD s.2.2 0 = b) :
    -2000000000000 ≤ b ∧ b ≤ 2000000000000 ∧ ∀ k, k ≤ m → RoundOk m u v p s (used.set col true) b k (shiftF b (used.set col true) p (u, v, s.1) k) := by
  have hD : DEAR = 1000000000000 := rfl
  obtain ⟨t, ht⟩ : ∃ t, shiftF (s.1.getD s.2.2 0) (used.set col true) p (u, v, s.1) (m + 1) = t := ⟨_, rfl⟩
  obtain ⟨hne, dl', h'⟩ := search_step hp ha (fun i => by have := (hu0 i).1; omega) (fun i => by have := (hv0 i).1; omega) h hpc hs ht
  rw [hb] at ht
  have cm := h.cm
  have us' : ∀ j, (used.set col true).getD j false = true ↔ j ∈ col :: ord := h'.us
  have op' : ∀ j ∈ col :: ord, p.getD j 0 ≠ 0 := h'.op
  have om' : ∀ j ∈ col :: ord, j ≤ m := h'.om
  have hN := near_ok (nearD a u v (p.getD col 0)) (used.set col true) col least way m (by rw [h.ll]; omega) (by rw [h.lw]; omega)
  rw [hs] at hN
  have inj : ∀ i j, (used.set col true).getD i false = true → (used.set col true).getD j false = true → p.getD i 0 = p.getD j 0 → i = j := fun i j hi hj e =>
    hp.inj i j (om' i ((us' i).1 hi)) (om' j ((us' j).1 hj)) e (op' i ((us' i).1 hi))
  have hsh : ∀ k, k ≤ m + 1 → ShiftP b (used.set col true) p (u, v, s.1) k (shiftF b (used.set col true) p (u, v, s.1) k) := fun k hk =>
    shift_ok b (used.set col true) p (u, v, s.1) k (by simp only; rw [h.lv]; exact hk) (by simp only; rw [hN.l1, h.ll]; exact hk) (fun j hj => by simp only; rw [h.lu]; have := hp.le (j := j) (by omega); have := hp.rn; omega) (fun i j _ _ hi hj e => inj i j hi hj e)
  have hT := hsh (m + 1) (Nat.le_refl _)
  rw [ht] at hT
  have z' : 0 ∈ col :: ord := by
    rcases h.hd with ⟨_, e⟩ | ⟨e, _⟩
    · simp [e]
    · exact List.mem_cons_of_mem _ (h.path.zero e)
  have hbd : -2000000000000 ≤ b ∧ b ≤ 2000000000000 := by
    have h1 := hT.up 0 (by omega) ((us' 0).2 z')
    rw [hp.p0] at h1
    have h2 := h'.dr
    have h3 := h.dr
    have h4 := h'.d0
    have h5 := h'.d1
    have h6 := h.d0
    have h7 := h.d1
    simp only at h1
    omega
  refine ⟨hbd.1, hbd.2, fun k hk => ?_⟩
  have hK := hsh k (by omega)
  refine ⟨hK.l1, hK.l2, hK.l3, fun hu => ⟨?_, hK.keep k (.inl (Nat.le_refl _))⟩, fun hu => ⟨hK.hold k (.inl (Nat.le_refl _)), ?_⟩⟩
  · exact hK.flat _ (fun j hj hju e => by have := inj j k hju hu e; omega)
  · have hkn : k ∉ col :: ord := fun hx => by rw [(us' k).2 hx] at hu; cases hu
    have hk1 : 1 ≤ k := by
      rcases Nat.eq_zero_or_pos k with e | e
      · subst e; exact absurd z' hkn
      · exact e
    have h1 := hT.less k (by omega) hu
    simp only at h1
    obtain ⟨h2, h3, _⟩ := h'.le (by simp) k hk1 hk hkn
    have h4 := op' _ h2
    have h5 := hp.le (om' _ h2)
    have h6 := hp.rn
    have h7 := ha (p.getD (s.2.1.getD k 0) 0) k (by omega) (by omega) hk1 hk
    unfold nearD at h3
    have h8 := h'.du (p.getD (s.2.1.getD k 0) 0)
    have h9 := h'.dv k
    have h10 := hu0 (p.getD (s.2.1.getD k 0) 0)
    have h11 := hv0 k
    have h12 := h'.d0
    have h13 := h'.d1
    omega
end
end Go.Proofs.Ytjdhcdoekfikpaa
