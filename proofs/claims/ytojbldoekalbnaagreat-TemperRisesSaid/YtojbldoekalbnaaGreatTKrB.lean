/-
  Contract of kruskal with the function of Bearings: what is noted down is Kruskal's list; conditions: the links' ends are notes, at most so many links as the sort's contract takes.
-/
import Derived.Test.YtojbldoekalbnaaGreatTBcb
namespace Go.Proofs.YtojbldoekalbnaaGreat
open Go.RowKit
/-- The links join notes. -/
structure Lks (L : List Lk) : Prop where
  ok : LkOk L
  a0 : ∀ l ∈ L, 0 ≤ l.a ∧ l.a < 64
  b0 : ∀ l ∈ L, 0 ≤ l.b ∧ l.b < 64
def zto (k : Nat) : Nat → Nat := fun i => if i < k then i else 0
theorem wp_alloc_zero {P : Program} {w : World} {o : Oper} {a : Act} {K : Act → World → Prop} {Q : Exit → Act → World → Prop} (t : TypeId) (ho : o.op = .alloc t) (z : Value) (hz : (zeroValue t).run P w = .ok z w)
    (h : K (a.put o.dst (.pointer (some ⟨w.heap.size, 0, none⟩))) (w.alloc (.cells z.cells t))) : o.wp P a w K Q := by
  unfold Oper.wp execOp
  simp only [ho, Sem.run_bind, Sem.run_pure, Result.andThen_ok, hz, go_sem]
  exact h
def zs64 : Array Value := Array.replicate 64 (.int .i64 0)
theorem zero92 (w : World) : (zeroValue 128).run Tryz.prog w = .ok (.agg zs64) w := Tryz.zeroValue128 w
theorem zs64_blk {w : World} {g : Nat} (hg : w.heap[g]? = some (.cells zs64 128 (0, 0))) : BlkA w g (zto 0) := by
  unfold BlkA
  rw [hg]
  rfl
theorem wpList_zero64 {w : World} {ops : Array Oper} {rest : List Oper} {o : Oper} {a : Act} {Q : Exit → Act → World → Prop} (hgd : o.guard = none) (ho : o.op = .alloc 128)
    (h : ∀ w', BlkA w' w.heap.size (zto 0) → Below w.heap.size w w' → w'.heap.size = w.heap.size + 1 → wpList Tryz.prog ops Q rest (a.put o.dst (.pointer (some ⟨w.heap.size, 0, none⟩))) w') : wpList Tryz.prog ops Q (o :: rest) a w :=
  wpList_plain hgd fun _ hK => wp_alloc_zero _ ho _ (zero92 w) (hK _ _ (h (w.alloc (.cells zs64 128)) (zs64_blk (heap_alloc_new w _)) (below_new w _) (by simp)))
theorem zto_succ (k : Nat) : upd (zto k) k k = zto (k + 1) := by
  funext i; unfold upd zto
  by_cases h : i = k
  · subst h; simp
  · rw [if_neg h]
    by_cases h2 : i < k
    · rw [if_pos h2, if_pos (by omega)]
    · rw [if_neg h2, if_neg (by omega)]
theorem BlkA.congr {W : World} {g : Nat} {p q : Nat → Nat} (h : BlkA W g p) (e : ∀ i, i < 64 → p i = q i) : BlkA W g q := by
  unfold BlkA at *
  rw [h]
  congr 3
  refine List.map_congr_left fun i hi => ?_
  rw [e i (List.mem_range.1 hi)]
/-- The worlds of a property, as the values of a function. -/
theorem clsP_ex (C : World → Prop) : ∃ (ι : Type) (mk : ι → World), ∀ w', C w' ↔ ∃ n, w' = mk n :=
  ⟨{ w' // C w' }, Subtype.val, fun w' => ⟨fun h => ⟨⟨w', h⟩, rfl⟩, by rintro ⟨n, rfl⟩; exact n.2⟩⟩
theorem idxs_succ (k : Nat) : idxs (k + 1) = idxs k ++ [(k : Int)] := by unfold idxs; rw [List.range_succ, List.map_append]; rfl
theorem idxs_len (k : Nat) : (idxs k).length = k := by unfold idxs; simp
theorem BlkA.kx {S : Nat → Prop} {W W' : World} {g : Nat} {p : Nat → Nat} (h : BlkA W g p) (hk : Kx S W W') (hs : ¬ S g) : BlkA W' g p := (hk.block g h.lt hs).trans h
theorem UF.root {p c h : Nat → Nat} (u : UF p c h) : ∀ (m n : Nat), h n ≤ m → n < 64 → ∃ r, r < 64 ∧ p r = r ∧ c r = c n
  | 0, n, hm, hn => by
    by_cases e : p n = n
    · exact ⟨n, hn, e, rfl⟩
    · have := u.dn n hn e; omega
  | m + 1, n, hm, hn => by
    by_cases e : p n = n
    · exact ⟨n, hn, e, rfl⟩
    · have := u.dn n hn e
      obtain ⟨r, h1, h2, h3⟩ := UF.root u m (p n) (by omega) (u.lt n hn)
      exact ⟨r, h1, h2, h3.trans (u.lab n hn)⟩
theorem Noted.lower {W : World} {b b' bo : Nat} {T : List Int} (h : Noted W b bo T) (hb : b' ≤ b) : Noted W b' bo T := by
  obtain ⟨A, c, h1, h2⟩ := h
  refine ⟨A, c, h1, h2.1, ?_⟩
  rcases h2.2 with h3 | ⟨g, cap, cur, e, h4, r⟩
  · exact .inl h3
  · exact .inr ⟨g, cap, cur, e, Nat.le_trans hb h4, r⟩
theorem Blk.kx {S : Nat → Prop} {W W' : World} {g : Nat} {l : List Int} (h : Blk W g l) (hk : Kx S W W') (hs : ¬ S g) : Blk W' g l := (hk.block g h.lt hs).trans h
theorem idxs_set {k n : Nat} (h : k < n) : (idxs k ++ List.replicate (n - k) 0).set k (k : Int) = idxs (k + 1) ++ List.replicate (n - (k + 1)) 0 := by
  obtain ⟨m, rfl⟩ : ∃ m, n = k + (m + 1) := ⟨n - k - 1, by omega⟩
  rw [show k + (m + 1) - k = m + 1 by omega, show k + (m + 1) - (k + 1) = m by omega, List.replicate_succ, idxs_succ, List.append_assoc]
  have := mid_set (P := []) (S1 := idxs k) (S2 := List.replicate m 0) (x := (0 : Int)) (y := (k : Int))
  simp only [List.nil_append, List.length_nil, Nat.zero_add, idxs_len] at this
  exact this
theorem idxs_get {k n : Nat} (h : k < n) : (idxs k ++ List.replicate (n - k) 0)[k]? = some (0 : Int) := by
  rw [List.getElem?_append_right (by rw [idxs_len]; exact Nat.le_refl _), idxs_len, Nat.sub_self]
  obtain ⟨m, rfl⟩ : ∃ m, n = k + (m + 1) := ⟨n - k - 1, by omega⟩
  rw [show k + (m + 1) - k = m + 1 by omega, List.replicate_succ]; rfl
theorem idxs_mem {n : Nat} {x : Int} : x ∈ idxs n ↔ 0 ≤ x ∧ x < n := by
  unfold idxs
  simp only [List.mem_map, List.mem_range]
  exact ⟨fun ⟨k, h, e⟩ => by subst e; exact ⟨Int.natCast_nonneg k, by simpa using h⟩, fun h => ⟨x.toNat, by omega, by rw [Int.ofNat_eq_natCast]; omega⟩⟩
theorem idxs_stb (L : List Lk) (n : Nat) : Stb L (idxs n) := by
  unfold Stb idxs
  refine List.Pairwise.map Int.ofNat (fun a b h _ => ?_) List.pairwise_lt_range
  simpa using h
def stopB (notes : Int) (T : List Int) (_ : Nat → Nat) : Bool := decide ((T.length : Int) = notes - 1)
set_option maxRecDepth 8000 in
set_option maxHeartbeats 8000000 in
theorem krB_any (notes : Int) (L : List Lk) (hL : Lks L) (hLn : L.length ≤ SB) (A : Option Addr) (n c bo bn : Nat) (w : World) (hS : SlE linkE 3 w A n L) (hne : bn ≠ bo) (hbo : w.heap[bo]? = some (.cells #[.slice none 0 0] 22 (0, 0))) (hA : 0 < n → ∀ a, A = some a → a.block ≠ bo)
    (hbn : w.heap[bn]? = some (.cells #[.int .i64 notes] 3 (0, 0))) (h1 : 1 ≤ notes) (h2 : notes ≤ 64) :
    Calls Tryz.prog 52 #[.slice A n c, .func (.func 53) #[] #[.pointer (some ⟨bo, 0, none⟩), .pointer (some ⟨bn, 0, none⟩)]] w
      fun e w' => e = .returned (.tuple #[]) ∧ Noted w' w.heap.size bo (kruL L (stopB notes)).1 ∧ Kx (fun j => j = bo) w w' := by
  refine calls_cps ?_
  intro R hR
  have HS := Lib.hid hS
  have Hbo := Lib.hid hbo
  have Hbn := Lib.hid hbn
  have HA := Lib.hid hA
  have HL := Lib.hid hL
  clear hS hbo hbn hA hL
  go_enter Tryz.func52, Tryz.ntmps52
  have hbl1 : bo < w.heap.size := (Array.getElem?_eq_some_iff.1 Hbo.out).1
  have hbn1 : bn < w.heap.size := (Array.getElem?_eq_some_iff.1 Hbn.out).1
  have hal := heap_alloc_new w (.cells #[.slice A n c] 56)
  have hbw := below_new w (.cells #[.slice A n c] 56)
  have hsz : (w.alloc (.cells #[.slice A n c] 56)).heap.size = w.heap.size + 1 := by simp
  go_wp2_with fail
  obtain ⟨w1, hw1⟩ : ∃ w1, w.alloc (.cells #[.slice A n c] 56) = w1 := ⟨_, rfl⟩
  obtain ⟨bl, hbl⟩ : ∃ bl, w.heap.size = bl := ⟨_, rfl⟩
  rw [hw1] at hal hbw hsz ⊢
  rw [hbl] at hal hbw hsz hbl1 hbn1 ⊢
  have Hal := Lib.hid hal
  have Hbw := Lib.hid hbw
  clear hw1 hal hbw
  refine wp_scope_straight ?_
  refine wp_seq ?_
  refine wp_region_list ?_
  refine wpList_zero64 (by rfl) (by rfl) ?_
  intro w2 hq hb2 hs2
  rw [hsz] at hq hb2 hs2 ⊢
  have Hal2 := Lib.hid ((hb2.block bl (by omega)).trans Hal.out)
  have Hbw2 := Lib.hid (Hbw.out.trans (hb2.mono (by omega)))
  have Hq := Lib.hid hq
  clear hq hb2 hsz Hal Hbw
  go_wp2_with fail
  go_loopw [5, 12] (fun s5 s12 wr => ∃ k : Nat, s12 = .int .i64 (k : Nat) ∧ k ≤ 64 ∧ Hid (BlkA wr (bl + 1) (zto k)) ∧ Kx (fun j => j = bl + 1) w2 wr) (fun _ i _ => 64 - (intOf i).toNat)
  case atStart => exact ⟨0, rfl, by omega, Hq, Kx.refl _ _⟩
  case round =>
    obtain ⟨k, rfl, hk, HB, hkx⟩ := hrel
    have Hkx := Lib.hid hkx
    clear hkx
    by_cases hlt : k < 64
    · have hlt' : (k : Int) < 64 := by omega
      have hk0 : (0 : Int) ≤ (k : Int) := by omega
      have g0 := HB.out.cell hlt
      have f0 := HB.out.frozen
      have Hs := Lib.hid (show BlkA (wr.setCell ⟨bl + 1, k, none⟩ (.int .i64 (k : Nat))) (bl + 1) (zto (k + 1)) from by rw [← zto_succ]; exact HB.out.set k k)
      have Hk2 := Lib.hid (kx_setg Hkx.out k (.int .i64 (k : Nat)))
      go_wp2_with fail
      refine ⟨⟨k + 1, by go_num, by omega, Hs, Hk2.out⟩, by simp [intOf] <;> omega⟩
    · obtain rfl : k = 64 := by omega
      have HB0 := Lib.hid (HB.out.congr (q := id) (fun i hi => by unfold zto; rw [if_pos hi]; rfl))
      clear HB
      have hn19 : n ≤ 19 := by rw [HS.out.1]; exact hLn
      have c0 := (cells1 ((Hkx.out.block bl (by omega) (by omega)).trans Hal2.out)).1
      have hmk := run_mkInt n (by omega)
      have hszr : bl + 2 ≤ wr.heap.size := by have := Hkx.out.size; omega
      have hnew := heap_alloc_new wr (.cells (madeCells #[Value.int .i64 0] n) 3)
      have hbnew := below_new wr (.cells (madeCells #[Value.int .i64 0] n) 3)
      go_wp2_with fail
      clear hmk c0
      obtain ⟨ob, hob⟩ : ∃ ob, wr.heap.size = ob := ⟨_, rfl⟩
      obtain ⟨w4, hw4⟩ : ∃ w4, wr.alloc (.cells (madeCells #[Value.int .i64 0] n) 3) = w4 := ⟨_, rfl⟩
      rw [hw4] at hnew hbnew ⊢
      rw [hob] at hnew hszr ⊢
      have Hb4 := Lib.hid (show Blk w4 ob (idxs 0 ++ List.replicate (n - 0) 0) from Blk.made hnew)
      have HB4 := Lib.hid (show BlkA w4 (bl + 1) id from (hbnew.block _ (by omega)).trans HB0.out)
      have Hkx4 := Lib.hid (show Kx (fun j => j = bl + 1) w2 w4 from Hkx.out.below hbnew)
      clear hnew hbnew hw4 Hkx HB0 hob hk
      go_loopw [7, 24] (fun s7 s24 W => ∃ k : Nat, s24 = .int .i64 (k : Nat) ∧ k ≤ n ∧ Hid (Blk W ob (idxs k ++ List.replicate (n - k) 0)) ∧ Kx (fun j => j = ob) w4 W) (fun _ i _ => n - (intOf i).toNat)
      case atStart => exact ⟨0, rfl, by omega, Hb4, Kx.refl _ _⟩
      case round =>
        obtain ⟨k, rfl, hk, HB, hkx⟩ := hrel
        have Hkx := Lib.hid hkx
        clear hkx
        by_cases hlt : k < n
        · have hlt' : (k : Int) < (n : Int) := by omega
          have hk0 : (0 : Int) ≤ (k : Int) := by omega
          have g0 := HB.out.cell (idxs_get hlt)
          have f0 := HB.out.frozen
          have Hs := Lib.hid (show Blk (wr.setCell ⟨ob, k, none⟩ (.int .i64 (k : Nat))) ob (idxs (k + 1) ++ List.replicate (n - (k + 1)) 0) from by rw [← idxs_set hlt]; exact HB.out.set k (k : Int))
          have Hk2 := Lib.hid (kx_setg Hkx.out k (.int .i64 (k : Nat)))
          go_wp2_with fail
          refine ⟨⟨k + 1, by go_num, by omega, Hs, Hk2.out⟩, by simp [intOf] <;> omega⟩
        · obtain rfl : k = n := by omega
          have HO := Lib.hid (show Blk wr ob (idxs k) from by have := HB.out; rwa [Nat.sub_self, List.replicate_zero, List.append_nil] at this)
          clear HB
          have Hkw := Lib.hid (show Kx (fun j => bl ≤ j) w wr from (((Kx.refl _ w).below (by rw [hbl]; exact Hbw2.out) : Kx (fun j => bl ≤ j) w w2).trans Hkx4.out (fun j _ hj => by omega)).trans Hkx.out (fun j hj hj2 => by omega))
          have Hbox := Lib.hid (show wr.heap[bl]? = some (.cells #[.slice A k c] 56 (0, 0)) from (Hkx.out.block bl (by have := Hkx4.out.size; omega) (by omega)).trans ((Hkx4.out.block bl (by omega) (by omega)).trans Hal2.out))
          have HBA := Lib.hid (HB4.out.kx Hkx.out (by omega))
          have HS5 := Lib.hid (slE_kxL HS.out Hkw.out (fun hn a ha => by
            obtain ⟨b', o', e', hb', _⟩ := HS.out.2.2 hn
            rw [ha] at e'; injection e' with e'; subst e'; show ¬ bl ≤ b'; omega))
          have hAlt : 0 < k → ∀ a, A = some a → a.block < bl := fun hn a ha => by
            obtain ⟨b', o', e', hb', _⟩ := HS.out.2.2 hn
            rw [ha] at e'; injection e' with e'; subst e'; show b' < bl; omega
          have HAlt := Lib.hid hAlt
          clear hAlt
          have HSo := Lib.hid (sort_any L A k c bl ob k k (idxs k) wr ⟨HL.out.ok, Hbox.out, by omega, HS5.out, fun hn a ha => by have := HAlt.out hn a ha; omega⟩ HO.out (idxs_len k).symm (by unfold SB; omega) (Nat.le_refl _) (fun x hx => idxs_mem.1 hx) (idxs_stb L k))
          have Hbo5 := Lib.hid ((Hkw.out.block bo (by omega) (by omega)).trans Hbo.out)
          have Hbn5 := Lib.hid ((Hkw.out.block bn (by omega) (by omega)).trans Hbn.out)
          have Hbl := Lib.hid hbl
          clear hbl Hbo Hbn Hal2 Hbw2 Hq Hb4 HB4
          go_wp2_with (go_at_call 84; refine HSo.out.mono ?_; rintro e w6 ⟨rfl, r, hr1, hr2, hr3, hr4⟩; have Hr := Lib.hid (And.intro hr1 hr2); have HO6 := Lib.hid hr3; have Hk6 := Lib.hid hr4; clear hr1 hr2 hr3 hr4)
          have Hlk := Lib.hid (show k = L.length from HS.out.1)
          have hr : r = srt L (idxs L.length) := ris_uniq (by rw [← Hlk.out]; exact Hr.out.2.trans (srt_perm L _).symm) Hr.out.1 (srt_ris (idxs_nodup _))
          have Hlr := Lib.hid (show r.length = k by rw [Hr.out.2.length_eq, idxs_len])
          have Hrm := Lib.hid (show ∀ x ∈ r, 0 ≤ x ∧ x < k from fun x hx => idxs_mem.1 (Hr.out.2.subset hx))
          have Hrs := Lib.hid hr
          clear hr
          have hob5 : ob < wr.heap.size := HO.out.lt
          have HB6 := Lib.hid (HBA.out.kx Hk6.out (by omega))
          have Hbox6 := Lib.hid ((Hk6.out.block bl (by omega) (by omega)).trans Hbox.out)
          have Hbo6 := Lib.hid ((Hk6.out.block bo (by omega) (by omega)).trans Hbo5.out)
          have Hbn6 := Lib.hid ((Hk6.out.block bn (by omega) (by omega)).trans Hbn5.out)
          have HS6 := Lib.hid (slE_kxL HS5.out Hk6.out (fun hn a ha => by have := HAlt.out hn a ha; omega))
          have Hfin := Lib.hid (show ∀ W T, Noted W w6.heap.size bo T → T = (kruL L (stopB notes)).1 → Kx (fun j => j = bo ∨ j = bl + 1) w6 W → R (.returned (.tuple #[])) W from fun W T hn hT hkx => hR.out _ _ ⟨rfl, by
            rw [← hT]; exact hn.lower (by have := Hkw.out.size; have := Hk6.out.size; omega), ((Hkw.out.mono (T := fun j => j = bo ∨ bl ≤ j) (fun j hj => .inr hj)).trans (Hk6.out.mono (T := fun j => j = bo ∨ bl ≤ j) (fun j hj => .inr (by omega))) (fun j _ hj => hj)).trans hkx (fun j _ hj => by omega) |> fun h => ⟨h.os, h.tape, h.output, h.size, fun j hj hn => h.block j hj (by rw [Hbl.out] at hj; omega)⟩⟩)
          obtain ⟨base, hbase⟩ : ∃ base, w6.heap.size = base := ⟨_, rfl⟩
          have hsz6 : ob < base := by have := Hk6.out.size; omega
          rw [hbase] at Hfin
          have Hst := Lib.hid (show BlkA w6 (bl + 1) id ∧ UF id id id ∧ krun L (stopB notes) (r.drop 0) id [] = kruL L (stopB notes) ∧ Noted w6 base bo [] ∧ ([] : List Int).length ≤ 0 from ⟨HB6.out, UF.start, by rw [List.drop_zero, Hrs.out]; rfl, Noted.nil Hbo6.out, Nat.le_refl _⟩)
          have Hbase := Lib.hid hbase
          have hle1 : bl + 1 < base := by omega
          have hle2 : bl + 1 < ob := by omega
          clear hbase hR Hr Hrs HO HB6 Hbo6 HBA Hbox Hbo5 Hbn5 HS5 HS Hk6 Hkw Hkx Hkx4 HSo hszr hob5 Hbl hs2
          go_step3
          go_wp2_with fail
          go_loopw [9, 10, 11, 37] (fun s9 s10 s11 s37 W => ∃ (i : Nat) (p cc h : Nat → Nat) (T : List Int), s37 = .int .i64 (i : Nat) ∧ i ≤ k ∧ Hid (BlkA W (bl + 1) p ∧ UF p cc h ∧ krun L (stopB notes) (r.drop i) cc T = kruL L (stopB notes) ∧ Noted W base bo T ∧ T.length ≤ i) ∧ Kx (fun j => j = bo ∨ j = bl + 1) w6 W) (fun _ _ _ i _ => k - (intOf i).toNat)
          case atStart => exact ⟨0, id, id, id, [], rfl, Nat.zero_le _, Hst, Kx.refl _ _⟩
          case round =>
            obtain ⟨i, p, cc, h, T, rfl, hik, HI, hkx⟩ := hrel
            have Hkx := Lib.hid hkx
            clear hkx Hst
            by_cases hlt : i < k
            · obtain ⟨x, hx⟩ : ∃ x, r[i]? = some x := ⟨r[i]'(by rw [Hlr.out]; exact hlt), List.getElem?_eq_getElem _⟩
              have hxm := Hrm.out x (List.mem_of_getElem? hx)
              obtain ⟨m, rfl⟩ : ∃ m : Nat, x = m := ⟨x.toNat, by omega⟩
              have hmk : m < k := by omega
              have hdr : r.drop i = (m : Int) :: r.drop (i + 1) := by
                rw [List.drop_eq_getElem_cons (by rw [Hlr.out]; exact hlt)]
                congr 1
                rw [List.getElem?_eq_getElem (by rw [Hlr.out]; exact hlt)] at hx
                exact Option.some.inj hx
              obtain ⟨b, o, l, rfl, hbk, hlm, -, -, -⟩ := HS6.out.at3 hmk
              have hla := HL.out.a0 l (List.mem_of_getElem? hlm)
              have hlb := HL.out.b0 l (List.mem_of_getElem? hlm)
              have hblt := HAlt.out (by omega) _ rfl
              simp only at hblt
              obtain ⟨na, hna⟩ : ∃ na : Nat, l.a = na := ⟨l.a.toNat, by omega⟩
              obtain ⟨nb, hnb⟩ : ∃ nb : Nat, l.b = nb := ⟨l.b.toNat, by omega⟩
              obtain ⟨ra, ha1, ha2, ha3⟩ := HI.out.2.1.root (h na) na (Nat.le_refl _) (by omega)
              obtain ⟨rb, hb1, hb2, hb3⟩ := HI.out.2.1.root (h nb) nb (Nat.le_refl _) (by omega)
              obtain ⟨wo, rfl⟩ : ∃ wo : World, wo = wr := ⟨_, rfl⟩
              obtain ⟨ι, mk, hmk2⟩ := clsP_ex (fun W' => Kx (fun j => j = bl + 1) wo W' ∧ ∃ p', BlkA W' (bl + 1) p' ∧ UF p' cc h ∧ Rts p p')
              have hC0 : Kx (fun j => j = bl + 1) wo wo ∧ ∃ p', BlkA wo (bl + 1) p' ∧ UF p' cc h ∧ Rts p p' := ⟨Kx.refl _ _, p, HI.out.1, HI.out.2.1, Rts.refl p⟩
              have hd : ∃ x, { wo with drawn := wo.drawn + 1 } = mk x := (hmk2 _).1 ⟨(Kx.refl _ wo).drewN 1, p, HI.out.1, HI.out.2.1, Rts.refl p⟩
              have hnei : Nonempty ι := let ⟨y, _⟩ := hd; ⟨y⟩
              have hmy := fun y => (hmk2 (mk y)).2 ⟨y, rfl⟩
              have hcall : ∀ (v rv : Nat), v < 64 → rv < 64 → p rv = rv → cc rv = cc v → ∀ y, Calls Tryz.prog 86 #[.pointer (some ⟨bl + 1, 0, none⟩), .int .i64 (v : Nat)] (mk y) fun e w'' => e = .returned (.int .i64 (rv : Nat)) ∧ ∃ z, w'' = mk z := by
                intro v rv hv hrv h2 h3 y
                obtain ⟨hk0, p', hB, hU, hR⟩ := hmy y
                refine (root_any (bl + 1) p' cc h v hv (mk y) hB hU).mono ?_
                rintro e w'' ⟨r', p'', rfl, k1, k2, k3, k4, k5, k6, k7⟩
                have e1 : r' = rv := hU.one r' rv k1 hrv k2 ((hR rv hrv).1 h2) (k3.trans h3.symm)
                exact ⟨by rw [e1], (hmk2 _).1 ⟨hk0.trans k7 (fun _ _ h => h), p'', k4, k5, hR.trans k6⟩⟩
              have HCa := Lib.hid (hcall na ra (by omega) ha1 ha2 ha3)
              have HCb := Lib.hid (hcall nb rb (by omega) hb1 hb2 hb3)
              have Hky := Lib.hid (fun y => Hkx.out.trans ((hmy y).1.mono (T := fun j => j = bo ∨ j = bl + 1) (fun j hj => .inr hj)) (fun _ _ h => h))
              have g0 := fun y => (cells1 (((Hky.out y).block bl (by rw [Hbase.out]; omega) (by omega)).trans Hbox6.out)).1
              have hsy := fun y => slE_kxL HS6.out (Hky.out y) (fun _ a ha => by injection ha with ha; subst ha; show ¬ (b = bo ∨ b = bl + 1); have := HA.out (by omega) _ rfl; simp only at this; omega)
              have hl3 : ∀ y, (mk y).cell? ⟨b, o + m * 3, none⟩ = some (.int .i64 na) ∧ (mk y).cell? ⟨b, o + m * 3 + 1, none⟩ = some (.int .i64 nb) := fun y => by
                obtain ⟨b', o', l', e', _, hl', q0, q1, _⟩ := (hsy y).at3 hmk
                simp only [Option.some.injEq, Addr.mk.injEq, and_true] at e'
                obtain ⟨rfl, rfl⟩ := e'
                rw [hlm] at hl'; injection hl' with hl'; subst hl'
                exact ⟨by rw [q0, hna], by rw [q1, hnb]⟩
              have g1 := fun y => (hl3 y).1
              have g2 := fun y => (hl3 y).2
              have c0 : wo.cell? ⟨ob, i, none⟩ = some (.int .i64 (m : Nat)) := (HO6.out.kx Hkx.out (by omega)).cell hx
              have hmk0 : (0 : Int) ≤ (m : Int) := by omega
              have hmkk : (m : Int) < (k : Int) := by omega
              have hi0 : (0 : Int) ≤ (i : Int) := by omega
              have hik2 : (i : Int) < (k : Int) := by omega
              have Hmy := Lib.hid hmy
              have Hdr := Lib.hid hdr
              have Hlm := Lib.hid hlm
              have Hna := Lib.hid (show l.a.toNat = na by omega)
              have Hnb := Lib.hid (show l.b.toNat = nb by omega)
              have Hra := Lib.hid (And.intro ha2 ha3)
              have Hrb := Lib.hid (And.intro hb2 hb3)
              clear hx hdr hlm hmk2 hC0 hmy hcall hsy hl3 ha2 ha3 hb2 hb3 hna hnb hla hlb hxm hlt
              go_wp2_with fail
              refine wp_region_cls (C := fun w' => ∃ x, w' = mk x) (by kernel_rfl) (by kernel_rfl) hd ?_
              repeat (go_big_quiet_step ((go_at_call 86; first | with_reducible exact HCa.out _ | with_reducible exact HCb.out _)))
              refine wpQuiet_nil ?_
              intro _ hw'
              obtain ⟨y, rfl⟩ := hw'
              obtain ⟨hk7, p', hB7, hU7, hR7⟩ := Hmy.out y
              have hkx7 := Hky.out y
              obtain ⟨W7, hW7⟩ : ∃ W7, mk y = W7 := ⟨_, rfl⟩
              rw [hW7] at hk7 hB7 hkx7 ⊢
              have hn7 := HI.out.2.2.2.1.kx hk7 (by omega) (fun j hj e => by omega)
              have Hn7 := Lib.hid hn7
              have HB7 := Lib.hid hB7
              have HU7 := Lib.hid hU7
              have HR7 := Lib.hid hR7
              have Hkx7 := Lib.hid hkx7
              have hTk := HI.out.2.2.2.2
              have hlen9 : ((T.length + 1 : Nat) : Int) = ((T ++ [(m : Int)]).length : Int) := by rw [List.length_append]; rfl
              have Hlen9 := Lib.hid hlen9
              clear hW7 hk7 hB7 hkx7 hn7 hU7 hR7 Hmy Hky HCa HCb hd hnei g0 g1 g2 c0 hlen9
              by_cases hrr : ra = rb
              · have hrd : (ra : Int) = (rb : Int) := by omega
                have Hrr := Lib.hid hrr
                clear hrr
                go_wp2_with fail
                refine ⟨⟨i + 1, p', cc, h, T, by go_num, by omega, Lib.hid ⟨HB7.out, HU7.out, ?_, Hn7.out, by omega⟩, Hkx7.out⟩, by simp [intOf] <;> omega⟩
                rw [← HI.out.2.2.1, Hdr.out, krun_skip (l := l) (by rw [Int.toNat_natCast]; exact Hlm.out) (by rw [Hna.out, Hnb.out, ← Hra.out.2, ← Hrb.out.2, Hrr.out])]
              · have hrd : ¬ (ra : Int) = (rb : Int) := by omega
                have hun := HU7.out.union ha1 hb1 ((HR7.out ra ha1).1 Hra.out.1) ((HR7.out rb hb1).1 Hrb.out.1) hrr
                have Hun := Lib.hid hun
                have ha0 : (0 : Int) ≤ (ra : Int) := by omega
                have ha64 : (ra : Int) < 64 := by omega
                have g7 := HB7.out.cell ha1
                have f7 := HB7.out.frozen
                have hk8 : Kx (fun j => j = bl + 1) W7 (W7.setCell ⟨bl + 1, ra, none⟩ (.int .i64 (rb : Nat))) := kx_setb _ _ _ _
                have HB8 := Lib.hid (HB7.out.set ra rb)
                have Hn8 := Lib.hid (Hn7.out.kx hk8 (by omega) (fun j hj e => by omega))
                have Hkx8 := Lib.hid (Hkx7.out.trans (hk8.mono (T := fun j => j = bo ∨ j = bl + 1) (fun j hj => .inr hj)) (fun _ _ h => h))
                have hbn8 := (Hkx8.out.block bn (by rw [Hbase.out]; omega) (by omega)).trans Hbn6.out
                have hcb := bcb_any base bo bn (.pointer (some ⟨bl + 1, 0, none⟩)) m notes T _ Hn8.out (by omega) (by omega) hne (by rw [← Hbase.out]; exact Hkx8.out.size) hbn8 (by omega) h1 h2
                have Hc1 := Lib.hid (show cc l.a.toNat ≠ cc l.b.toNat from by rw [Hna.out, Hnb.out, ← Hra.out.2, ← Hrb.out.2]; exact hun.1)
                have Hcc := Lib.hid (show relab cc (cc ra) (cc rb) = relab cc (cc l.a.toNat) (cc l.b.toNat) from by rw [Hna.out, Hnb.out, ← Hra.out.2, ← Hrb.out.2])
                have Hl2 := Lib.hid (show L[(m : Int).toNat]? = some l from by rw [Int.toNat_natCast]; exact Hlm.out)
                have Hcb := Lib.hid hcb
                clear hun hk8 hbn8 hrr hcb
                cases hst : stopB notes (T ++ [(m : Int)]) (relab cc (cc l.a.toNat) (cc l.b.toNat))
                · have hdc : decide (((T.length + 1 : Nat) : Int) = notes - 1) = false := by rw [Hlen9.out]; exact hst
                  rw [hdc] at Hcb
                  have Hkr := Lib.hid (krun_go (r := r.drop (i + 1)) Hl2.out Hc1.out hst)
                  clear hst hdc
                  go_wp2_with (go_at_call 53; refine Hcb.out.mono ?_; rintro e w9 ⟨rfl, h91, h92⟩; have Hn9 := Lib.hid h91; have Hk9 := Lib.hid h92; clear h91 h92)
                  obtain ⟨-, h', hU'⟩ := Hun.out
                  refine ⟨⟨i + 1, upd p' ra rb, relab cc (cc ra) (cc rb), h', T ++ [(m : Int)], by go_num, by omega, Lib.hid ⟨HB8.out.kx Hk9.out (by omega), hU', ?_, Hn9.out, by rw [List.length_append]; simp; omega⟩, ?_⟩, by simp [intOf] <;> omega⟩
                  · rw [← HI.out.2.2.1, Hdr.out, Hkr.out, Hcc.out]
                  · exact ⟨Hk9.out.os.trans Hkx8.out.os, Hk9.out.tape.trans Hkx8.out.tape, Hk9.out.output.trans Hkx8.out.output, Nat.le_trans Hkx8.out.size Hk9.out.size, fun j hj hn => (Hk9.out.block j (Nat.lt_of_lt_of_le hj Hkx8.out.size) (by rw [Hbase.out] at hj; omega)).trans (Hkx8.out.block j hj hn)⟩
                · have hdc : decide (((T.length + 1 : Nat) : Int) = notes - 1) = true := by rw [Hlen9.out]; exact hst
                  rw [hdc] at Hcb
                  have Hkr := Lib.hid (krun_stop (r := r.drop (i + 1)) Hl2.out Hc1.out hst)
                  clear hst hdc
                  go_wp2_with (go_at_call 53; refine Hcb.out.mono ?_; rintro e w9 ⟨rfl, h91, h92⟩; have Hn9 := Lib.hid h91; have Hk9 := Lib.hid h92; clear h91 h92)
                  have Hf := Lib.hid (Hfin.out w9 (T ++ [(m : Int)]) Hn9.out (by rw [← HI.out.2.2.1, Hdr.out, Hkr.out]) ⟨Hk9.out.os.trans Hkx8.out.os, Hk9.out.tape.trans Hkx8.out.tape, Hk9.out.output.trans Hkx8.out.output, Nat.le_trans Hkx8.out.size Hk9.out.size, fun j hj hn => (Hk9.out.block j (Nat.lt_of_lt_of_le hj Hkx8.out.size) (by rw [Hbase.out] at hj; omega)).trans (Hkx8.out.block j hj hn)⟩)
                  clear Hfin
                  rw [Exit.noGoto_normal]
                  go_end0
                  exact Hf.out
            · obtain rfl : i = k := by omega
              have Hf := Lib.hid (Hfin.out _ T HI.out.2.2.2.1 (by rw [← HI.out.2.2.1, List.drop_eq_nil_of_le (by rw [Hlr.out]; exact Nat.le_refl _)]; rfl) Hkx.out)
              clear Hfin HI Hkx
              go_wp2_with fail
              rw [Exit.noGoto_normal]
              go_end0
              exact Hf.out
end Go.Proofs.YtojbldoekalbnaaGreat
