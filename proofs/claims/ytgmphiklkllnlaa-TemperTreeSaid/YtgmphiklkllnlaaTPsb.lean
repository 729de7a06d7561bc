/-
  Passage, its plain law and contracts, the law of Passages, the tree's ways and the law's path as a function; each states its condition.
-/
import Derived.Test.YtgmphiklkllnlaaTSb
import Derived.Test.YtgmphiklkllnlaaTSc
import Derived.Test.YtgmphiklkllnlaaTLBe
namespace Go.Proofs.Ytgmphiklkllnlaa
section
section
open Go.RowKit
def stopP (f t : Nat) (_ : List Int) (c : Nat → Nat) : Bool := decide (c f = c t)
def Wst (W : World) (b : Nat) (v : Int) : Prop := W.heap[b]? = some (.cells #[.int .i64 v] 3 (0, 0))
theorem Wst.kx {S : Nat → Prop} {W W' : World} {b : Nat} {v : Int} (h : Wst W b v) (hk : Kx S W W') (hs : ¬ S b) : Wst W' b v := (hk.block b (Array.getElem?_eq_some_iff.1 h).1 hs).trans h
theorem Wst.cell {W : World} {b : Nat} {v : Int} (h : Wst W b v) : W.cell? ⟨b, 0, none⟩ = some (.int .i64 v) ∧ (∀ j, W.frozen? ⟨b, j, none⟩ = false) := cells1 h
theorem Wst.set {W : World} {b : Nat} {v : Int} (h : Wst W b v) (u : Int) : Wst (W.setCell ⟨b, 0, none⟩ (.int .i64 u)) b u := by
  have h' : W.heap[b]? = some _ := h
  unfold Wst
  simp only [World.setCell, Array.getElem?_modify, h']
  simp
/-- What Passage's function leans on. -/
structure Pbx (W : World) (L : List Lk) (A : Option Addr) (n c bf bt bk bs f t : Nat) : Prop where
  ok : LkOk L
  f : Wst W bf f
  t : Wst W bt t
  k : W.heap[bk]? = some (.cells #[.slice A n c] 34 (0, 0))
  sl : SlE linkE 3 W A n L
  nf : bf ≠ bs
  nt : bt ≠ bs
  nk : bk ≠ bs
  nA : 0 < n → ∀ a, A = some a → a.block ≠ bs
theorem Pbx.kx {S : Nat → Prop} {W W' : World} {L : List Lk} {A : Option Addr} {n c bf bt bk bs f t : Nat} (h : Pbx W L A n c bf bt bk bs f t) (hk : Kx S W W') (hs : ∀ j, S j → j = bs) : Pbx W' L A n c bf bt bk bs f t :=
  ⟨h.ok, h.f.kx hk (fun k => h.nf (hs _ k)), h.t.kx hk (fun k => h.nt (hs _ k)), (hk.block bk (Array.getElem?_eq_some_iff.1 h.k).1 (fun k => h.nk (hs _ k))).trans h.k, slE_kxL h.sl hk (fun h0 a ha k => h.nA h0 a ha (hs _ k)), h.nf, h.nt, h.nk, h.nA⟩
set_option maxRecDepth 8000 in
set_option maxHeartbeats 8000000 in
theorem pcb_any (L : List Lk) (A : Option Addr) (n c bf bt bk bo bs i f t : Nat) (p cc h : Nat → Nat) (w : World) (hP : Pbx w L A n c bf bt bk bs f t) (hO : Wst w bo (-1)) (hos : bo ≠ bs) (hB : BlkA w bs p) (hU : UF p cc h) (hf : f < 64) (ht : t < 64) (hi : i < n) :
    Calls Try.prog 58 #[.int .i64 (i : Nat), .pointer (some ⟨bs, 0, none⟩), .pointer (some ⟨bf, 0, none⟩), .pointer (some ⟨bt, 0, none⟩), .pointer (some ⟨bk, 0, none⟩), .pointer (some ⟨bo, 0, none⟩)] w
      fun e w' => e = .returned (.bool (decide (cc f = cc t))) ∧ Wst w' bo (if cc f = cc t then lkW L (i : Nat) else -1) ∧ (∃ p', BlkA w' bs p' ∧ UF p' cc h) ∧ Kx (fun j => j = bo ∨ j = bs) w w' := by
  refine calls_cps ?_
  intro R hR
  obtain ⟨rf, hf1, hf2, hf3⟩ := hU.root (h f) f (Nat.le_refl _) hf
  obtain ⟨rt, ht1, ht2, ht3⟩ := hU.root (h t) t (Nat.le_refl _) ht
  obtain ⟨ι, mk, hmk2⟩ := clsP_ex (fun W' => Kx (fun j => j = bs) w W' ∧ ∃ p', BlkA W' bs p' ∧ UF p' cc h ∧ Rts p p')
  have hd : ∃ x, { w with drawn := w.drawn + 1 } = mk x := (hmk2 _).1 ⟨(Kx.refl _ w).drewN 1, p, hB, hU, Rts.refl p⟩
  have hnei : Nonempty ι := let ⟨y, _⟩ := hd; ⟨y⟩
  have hmy := fun y => (hmk2 (mk y)).2 ⟨y, rfl⟩
  have hcall : ∀ (v rv : Nat), v < 64 → rv < 64 → p rv = rv → cc rv = cc v → ∀ y, Calls Try.prog 59 #[.pointer (some ⟨bs, 0, none⟩), .int .i64 (v : Nat)] (mk y) fun e w'' => e = .returned (.int .i64 (rv : Nat)) ∧ ∃ z, w'' = mk z := by
    intro v rv hv hrv h2 h3 y
    obtain ⟨hk0, p', hB, hU, hR⟩ := hmy y
    refine (root_any bs p' cc h v hv (mk y) hB hU).mono ?_
    rintro e w'' ⟨r', p'', rfl, k1, k2, k3, k4, k5, k6, k7⟩
    have e1 : r' = rv := hU.one r' rv k1 hrv k2 ((hR rv hrv).1 h2) (k3.trans h3.symm)
    exact ⟨by rw [e1], (hmk2 _).1 ⟨hk0.trans k7 (fun _ _ h => h), p'', k4, k5, hR.trans k6⟩⟩
  have HCf := Lib.hid (hcall f rf hf hf1 hf2 hf3)
  have HCt := Lib.hid (hcall t rt ht ht1 ht2 ht3)
  have HPy := Lib.hid (fun y => hP.kx (hmy y).1 (fun j hj => hj))
  have HOy := Lib.hid (fun y => hO.kx (hmy y).1 hos)
  have g1 := fun y => (HPy.out y).f.cell.1
  have g2 := fun y => (HPy.out y).t.cell.1
  have Hmy := Lib.hid hmy
  have Hrr := Lib.hid (show rf = rt ↔ cc f = cc t from ⟨fun e => by rw [← hf3, ← ht3, e], fun e => hU.one rf rt hf1 ht1 hf2 ht2 (by rw [hf3, ht3, e])⟩)
  clear hP hO hB hU hcall hmy hf2 hf3 ht2 ht3
  go_enter Try.func58, Try.ntmps58
  go_upto_region 1 with fail
  refine wp_region_cls (C := fun w' => ∃ x, w' = mk x) (by kernel_rfl) (by kernel_rfl) hd ?_
  repeat (go_big_quiet_step ((go_at_call 59; first | with_reducible exact HCf.out _ | with_reducible exact HCt.out _)))
  refine wpQuiet_nil ?_
  intro _ hw'
  obtain ⟨y, rfl⟩ := hw'
  obtain ⟨hk7, p', hB7, hU7, -⟩ := Hmy.out y
  have hP7 := HPy.out y
  have hO7 := HOy.out y
  obtain ⟨W7, hW7⟩ : ∃ W7, mk y = W7 := ⟨_, rfl⟩
  rw [hW7] at hk7 hB7 hP7 hO7 ⊢
  have HB7 := Lib.hid hB7
  have HU7 := Lib.hid hU7
  have Hk7 := Lib.hid hk7
  clear hW7 Hmy HPy HOy g1 g2 HCf HCt hd hnei hB7 hU7 hk7
  obtain ⟨o0, of⟩ := hO7.cell
  by_cases hrr : rf = rt
  · have hcc := Hrr.out.1 hrr
    subst hrr
    obtain ⟨b, o, l, rfl, hbl, hs, p0, p1, p2⟩ := hP7.sl.at3 hi
    have k0 := (cells1 hP7.k).1
    have hw := hP7.ok l (List.mem_of_getElem? hs)
    have hlw : lkW L (i : Nat) = l.w := by unfold lkW; rw [Int.toNat_natCast, hs]
    have i0 : (0 : Int) ≤ (i : Int) := by omega
    have i1 : (i : Int) < (n : Int) := by omega
    have hset := hO7.set l.w
    obtain ⟨o1, -⟩ := hset.cell
    have hk8 : Kx (fun j => j = bo) W7 (W7.setCell ⟨bo, 0, none⟩ (.int .i64 l.w)) := kx_setb _ _ _ _
    have Hf := Lib.hid (hR.out (.returned (.bool true)) (W7.setCell ⟨bo, 0, none⟩ (.int .i64 l.w)) ⟨by rw [decide_eq_true hcc], by rw [if_pos hcc, hlw]; exact hset, ⟨p', HB7.out.kx hk8 (by omega), HU7.out⟩, (Hk7.out.mono (T := fun j => j = bo ∨ j = bs) (fun j hj => .inr hj)).trans (hk8.mono (T := fun j => j = bo ∨ j = bs) (fun j hj => .inl hj)) (fun _ _ h => h)⟩)
    obtain ⟨wl, hwl⟩ : ∃ wl, l.w = wl := ⟨_, rfl⟩
    obtain ⟨hw1, hw2⟩ := hw
    rw [hwl] at hw1 hw2 Hf o1 p2
    clear hR hset hk8 hlw hs hcc hwl
    go_wp2_with fail
    exact Hf.out
  · have hcc : ¬ cc f = cc t := fun e => hrr (Hrr.out.2 e)
    have hri : ¬ (rf : Int) = (rt : Int) := by omega
    have Hf := Lib.hid (hR.out (.returned (.bool false)) W7 ⟨by rw [decide_eq_false hcc], by rw [if_neg hcc]; exact hO7, ⟨p', HB7.out, HU7.out⟩, Hk7.out.mono (T := fun j => j = bo ∨ j = bs) (fun j hj => .inr hj)⟩)
    clear hR hcc hrr
    go_wp2_with fail
    exact Hf.out
end
section
open Go.RowKit
/-- What is noted: the weight of the link at which the two notes are connected, or -1. -/
def PasR (L : List Lk) (f t : Nat) (v : Int) : Prop :=
  (v = -1 ∧ (kruL L (stopP f t)).2 f ≠ (kruL L (stopP f t)).2 t) ∨ ∃ T i, (kruL L (stopP f t)).1 = T ++ [i] ∧ (kruL L (stopP f t)).2 f = (kruL L (stopP f t)).2 t ∧ v = lkW L i
set_option maxRecDepth 8000 in
set_option maxHeartbeats 8000000 in
theorem krP_any (L : List Lk) (hL : Lks L) (hLn : L.length ≤ 512) (A : Option Addr) (n c bo bf bt bk f t : Nat) (w : World) (hS : SlE linkE 3 w A n L) (hbo : Wst w bo (-1)) (hA : 0 < n → ∀ a, A = some a → a.block ≠ bo)
    (hP : ∀ W, Kx (fun j => j = bo ∨ w.heap.size ≤ j) w W → Pbx W L A n c bf bt bk (w.heap.size + 1) f t) (hf : f < 64) (ht : t < 64) (hft : f ≠ t) :
    Calls Try.prog 53 #[.slice A n c, .func (.func 58) #[] #[.pointer (some ⟨bf, 0, none⟩), .pointer (some ⟨bt, 0, none⟩), .pointer (some ⟨bk, 0, none⟩), .pointer (some ⟨bo, 0, none⟩)]] w
      fun e w' => e = .returned (.tuple #[]) ∧ (∃ v, Wst w' bo v ∧ PasR L f t v) ∧ Kx (fun j => j = bo) w w' := by
  refine calls_cps ?_
  intro R hR
  have HS := Lib.hid hS
  have Hbo := Lib.hid hbo
  have HP := Lib.hid hP
  have HA := Lib.hid hA
  have HL := Lib.hid hL
  clear hS hbo hP hA hL
  go_enter Try.func53, Try.ntmps53
  have hbl1 : bo < w.heap.size := (Array.getElem?_eq_some_iff.1 Hbo.out).1
  have hal := heap_alloc_new w (.cells #[.slice A n c] 34)
  have hbw := below_new w (.cells #[.slice A n c] 34)
  have hsz : (w.alloc (.cells #[.slice A n c] 34)).heap.size = w.heap.size + 1 := by simp
  go_wp2_with fail
  obtain ⟨w1, hw1⟩ : ∃ w1, w.alloc (.cells #[.slice A n c] 34) = w1 := ⟨_, rfl⟩
  obtain ⟨bl, hbl⟩ : ∃ bl, w.heap.size = bl := ⟨_, rfl⟩
  rw [hw1] at hal hbw hsz ⊢
  rw [hbl] at hal hbw hsz hbl1 HP ⊢
  have Hal := Lib.hid hal
  have Hbw := Lib.hid hbw
  clear hw1 hal hbw
  refine wp_scope_straight ?_
  refine wp_seq ?_
  refine wp_region_list ?_
  refine wpList_zero64 (by rfl) (by rfl) ?_
  intro w2 hq hb2 hs2
  rw [hsz] at hq hb2 hs2 ⊢
  have Hal2 := Lib.hid ((hb2.block bl (by omega)).trans Hal.out)
  have Hbw2 := Lib.hid (Hbw.out.trans (hb2.mono (by omega)))
  have Hq := Lib.hid hq
  clear hq hb2 hsz Hal Hbw
  go_wp2_with fail
  go_loopw [5, 12] (fun s5 s12 wr => ∃ k : Nat, s12 = .int .i64 (k : Nat) ∧ k ≤ 64 ∧ Hid (BlkA wr (bl + 1) (zto k)) ∧ Kx (fun j => j = bl + 1) w2 wr) (fun _ i _ => 64 - (intOf i).toNat)
  case atStart => exact ⟨0, rfl, by omega, Hq, Kx.refl _ _⟩
  case round =>
    obtain ⟨k, rfl, hk, HB, hkx⟩ := hrel
    have Hkx := Lib.hid hkx
    clear hkx
    by_cases hlt : k < 64
    · have hlt' : (k : Int) < 64 := by omega
      have hk0 : (0 : Int) ≤ (k : Int) := by omega
      have g0 := HB.out.cell hlt
      have f0 := HB.out.frozen
      have Hs := Lib.hid (show BlkA (wr.setCell ⟨bl + 1, k, none⟩ (.int .i64 (k : Nat))) (bl + 1) (zto (k + 1)) from by rw [← zto_succ]; exact HB.out.set k k)
      have Hk2 := Lib.hid (kx_setg Hkx.out k (.int .i64 (k : Nat)))
      go_wp2_with fail
      refine ⟨⟨k + 1, by go_num, by omega, Hs, Hk2.out⟩, by simp [intOf] <;> omega⟩
    · obtain rfl : k = 64 := by omega
      have HB0 := Lib.hid (HB.out.congr (q := id) (fun i hi => by unfold zto; rw [if_pos hi]; rfl))
      clear HB
      have hn19 : n ≤ 512 := by rw [HS.out.1]; exact hLn
      have c0 := (cells1 ((Hkx.out.block bl (by omega) (by omega)).trans Hal2.out)).1
      have hmk := run_mkInt n (by omega)
      have hszr : bl + 2 ≤ wr.heap.size := by have := Hkx.out.size; omega
      have hnew := heap_alloc_new wr (.cells (madeCells #[Value.int .i64 0] n) 3)
      have hbnew := below_new wr (.cells (madeCells #[Value.int .i64 0] n) 3)
      go_wp2_with fail
      clear hmk c0
      obtain ⟨ob, hob⟩ : ∃ ob, wr.heap.size = ob := ⟨_, rfl⟩
      obtain ⟨w4, hw4⟩ : ∃ w4, wr.alloc (.cells (madeCells #[Value.int .i64 0] n) 3) = w4 := ⟨_, rfl⟩
      rw [hw4] at hnew hbnew ⊢
      rw [hob] at hnew hszr ⊢
      have Hb4 := Lib.hid (show Blk w4 ob (idxs 0 ++ List.replicate (n - 0) 0) from Blk.made hnew)
      have HB4 := Lib.hid (show BlkA w4 (bl + 1) id from (hbnew.block _ (by omega)).trans HB0.out)
      have Hkx4 := Lib.hid (show Kx (fun j => j = bl + 1) w2 w4 from Hkx.out.below hbnew)
      clear hnew hbnew hw4 Hkx HB0 hob hk
      go_loopw [7, 24] (fun s7 s24 W => ∃ k : Nat, s24 = .int .i64 (k : Nat) ∧ k ≤ n ∧ Hid (Blk W ob (idxs k ++ List.replicate (n - k) 0)) ∧ Kx (fun j => j = ob) w4 W) (fun _ i _ => n - (intOf i).toNat)
      case atStart => exact ⟨0, rfl, by omega, Hb4, Kx.refl _ _⟩
      case round =>
        obtain ⟨k, rfl, hk, HB, hkx⟩ := hrel
        have Hkx := Lib.hid hkx
        clear hkx
        by_cases hlt : k < n
        · have hlt' : (k : Int) < (n : Int) := by omega
          have hk0 : (0 : Int) ≤ (k : Int) := by omega
          have g0 := HB.out.cell (idxs_get hlt)
          have f0 := HB.out.frozen
          have Hs := Lib.hid (show Blk (wr.setCell ⟨ob, k, none⟩ (.int .i64 (k : Nat))) ob (idxs (k + 1) ++ List.replicate (n - (k + 1)) 0) from by rw [← idxs_set hlt]; exact HB.out.set k (k : Int))
          have Hk2 := Lib.hid (kx_setg Hkx.out k (.int .i64 (k : Nat)))
          go_wp2_with fail
          refine ⟨⟨k + 1, by go_num, by omega, Hs, Hk2.out⟩, by simp [intOf] <;> omega⟩
        · obtain rfl : k = n := by omega
          have HO := Lib.hid (show Blk wr ob (idxs k) from by have := HB.out; rwa [Nat.sub_self, List.replicate_zero, List.append_nil] at this)
          clear HB
          have Hkw := Lib.hid (show Kx (fun j => bl ≤ j) w wr from (((Kx.refl _ w).below (by rw [hbl]; exact Hbw2.out) : Kx (fun j => bl ≤ j) w w2).trans Hkx4.out (fun j _ hj => by omega)).trans Hkx.out (fun j hj hj2 => by omega))
          have Hbox := Lib.hid (show wr.heap[bl]? = some (.cells #[.slice A k c] 34 (0, 0)) from (Hkx.out.block bl (by have := Hkx4.out.size; omega) (by omega)).trans ((Hkx4.out.block bl (by omega) (by omega)).trans Hal2.out))
          have HBA := Lib.hid (HB4.out.kx Hkx.out (by omega))
          have HS5 := Lib.hid (slE_kxL HS.out Hkw.out (fun hn a ha => by
            obtain ⟨b', o', e', hb', _⟩ := HS.out.2.2 hn
            rw [ha] at e'; injection e' with e'; subst e'; show ¬ bl ≤ b'; omega))
          have hAlt : 0 < k → ∀ a, A = some a → a.block < bl := fun hn a ha => by
            obtain ⟨b', o', e', hb', _⟩ := HS.out.2.2 hn
            rw [ha] at e'; injection e' with e'; subst e'; show b' < bl; omega
          have HAlt := Lib.hid hAlt
          clear hAlt
          have HSo := Lib.hid (sort2_any L A k c bl ob k k (idxs k) wr ⟨HL.out.ok, Hbox.out, by omega, HS5.out, fun hn a ha => by have := HAlt.out hn a ha; omega⟩ HO.out (idxs_len k).symm (by omega) (Nat.le_refl _) (fun x hx => idxs_mem.1 hx) (idxs_stb L k))
          have Hbo5 := Lib.hid ((Hkw.out.block bo (by omega) (by omega)).trans Hbo.out)
          have Hbl := Lib.hid hbl
          clear hbl Hbo Hal2 Hbw2 Hq Hb4 HB4
          go_wp2_with (go_at_call 70; refine HSo.out.mono ?_; rintro e w6 ⟨rfl, r, hr1, hr2, hr3, hr4⟩; have Hr := Lib.hid (And.intro hr1 hr2); have HO6 := Lib.hid hr3; have Hk6 := Lib.hid hr4; clear hr1 hr2 hr3 hr4)
          have Hlk := Lib.hid (show k = L.length from HS.out.1)
          have hr : r = srt L (idxs L.length) := ris_uniq (by rw [← Hlk.out]; exact Hr.out.2.trans (srt_perm L _).symm) Hr.out.1 (srt_ris (idxs_nodup _))
          have Hlr := Lib.hid (show r.length = k by rw [Hr.out.2.length_eq, idxs_len])
          have Hrm := Lib.hid (show ∀ x ∈ r, 0 ≤ x ∧ x < k from fun x hx => idxs_mem.1 (Hr.out.2.subset hx))
          have Hrs := Lib.hid hr
          clear hr
          have hob5 : ob < wr.heap.size := HO.out.lt
          have HB6 := Lib.hid (HBA.out.kx Hk6.out (by omega))
          have Hbox6 := Lib.hid ((Hk6.out.block bl (by omega) (by omega)).trans Hbox.out)
          have Hbo6 := Lib.hid ((Hk6.out.block bo (by omega) (by omega)).trans Hbo5.out)
          have HS6 := Lib.hid (slE_kxL HS5.out Hk6.out (fun hn a ha => by have := HAlt.out hn a ha; omega))
          have Hall := Lib.hid (show ∀ W, Kx (fun j => j = bo ∨ j = bl + 1) w6 W → Kx (fun j => j = bo ∨ bl ≤ j) w W from fun W hkx => ((Hkw.out.mono (T := fun j => j = bo ∨ bl ≤ j) (fun j hj => .inr hj)).trans (Hk6.out.mono (T := fun j => j = bo ∨ bl ≤ j) (fun j hj => .inr (by omega))) (fun j _ hj => hj)).trans hkx (fun j _ hj => by omega))
          have Hfin := Lib.hid (show ∀ W v, Wst W bo v → PasR L f t v → Kx (fun j => j = bo ∨ j = bl + 1) w6 W → R (.returned (.tuple #[])) W from fun W v hn hT hkx => hR.out _ _ ⟨rfl, ⟨v, hn, hT⟩, Hall.out W hkx |> fun h => ⟨h.os, h.tape, h.output, h.size, fun j hj hn => h.block j hj (by rw [Hbl.out] at hj; omega)⟩⟩)
          obtain ⟨base, hbase⟩ : ∃ base, w6.heap.size = base := ⟨_, rfl⟩
          have hsz6 : ob < base := by have := Hk6.out.size; omega
          have Hst := Lib.hid (show BlkA w6 (bl + 1) id ∧ UF id id id ∧ krun L (stopP f t) (r.drop 0) id [] = kruL L (stopP f t) ∧ (Wst w6 bo (-1) ∧ id f ≠ id t) ∧ ([] : List Int).length ≤ 0 from ⟨HB6.out, UF.start, by rw [List.drop_zero, Hrs.out]; rfl, ⟨Hbo6.out, hft⟩, Nat.le_refl _⟩)
          have Hbase := Lib.hid hbase
          have hle1 : bl + 1 < base := by omega
          have hle2 : bl + 1 < ob := by omega
          clear hbase hR Hr Hrs HO HB6 Hbo6 HBA Hbox Hbo5 HS5 HS Hk6 Hkw Hkx Hkx4 HSo hszr hob5 Hbl hs2
          go_step3
          go_wp2_with fail
          go_loopw [9, 10, 11, 37] (fun s9 s10 s11 s37 W => ∃ (i : Nat) (p cc h : Nat → Nat) (T : List Int), s37 = .int .i64 (i : Nat) ∧ i ≤ k ∧ Hid (BlkA W (bl + 1) p ∧ UF p cc h ∧ krun L (stopP f t) (r.drop i) cc T = kruL L (stopP f t) ∧ (Wst W bo (-1) ∧ cc f ≠ cc t) ∧ T.length ≤ i) ∧ Kx (fun j => j = bo ∨ j = bl + 1) w6 W) (fun _ _ _ i _ => k - (intOf i).toNat)
          case atStart => exact ⟨0, id, id, id, [], rfl, Nat.zero_le _, Hst, Kx.refl _ _⟩
          case round =>
            obtain ⟨i, p, cc, h, T, rfl, hik, HI, hkx⟩ := hrel
            have Hkx := Lib.hid hkx
            clear hkx Hst
            by_cases hlt : i < k
            · obtain ⟨x, hx⟩ : ∃ x, r[i]? = some x := ⟨r[i]'(by rw [Hlr.out]; exact hlt), List.getElem?_eq_getElem _⟩
              have hxm := Hrm.out x (List.mem_of_getElem? hx)
              obtain ⟨m, rfl⟩ : ∃ m : Nat, x = m := ⟨x.toNat, by omega⟩
              have hmk : m < k := by omega
              have hdr : r.drop i = (m : Int) :: r.drop (i + 1) := by
                rw [List.drop_eq_getElem_cons (by rw [Hlr.out]; exact hlt)]
                congr 1
                rw [List.getElem?_eq_getElem (by rw [Hlr.out]; exact hlt)] at hx
                exact Option.some.inj hx
              obtain ⟨b, o, l, rfl, hbk, hlm, -, -, -⟩ := HS6.out.at3 hmk
              have hla := HL.out.a0 l (List.mem_of_getElem? hlm)
              have hlb := HL.out.b0 l (List.mem_of_getElem? hlm)
              have hblt := HAlt.out (by omega) _ rfl
              simp only at hblt
              obtain ⟨na, hna⟩ : ∃ na : Nat, l.a = na := ⟨l.a.toNat, by omega⟩
              obtain ⟨nb, hnb⟩ : ∃ nb : Nat, l.b = nb := ⟨l.b.toNat, by omega⟩
              obtain ⟨ra, ha1, ha2, ha3⟩ := HI.out.2.1.root (h na) na (Nat.le_refl _) (by omega)
              obtain ⟨rb, hb1, hb2, hb3⟩ := HI.out.2.1.root (h nb) nb (Nat.le_refl _) (by omega)
              obtain ⟨wo, rfl⟩ : ∃ wo : World, wo = wr := ⟨_, rfl⟩
              obtain ⟨ι, mk, hmk2⟩ := clsP_ex (fun W' => Kx (fun j => j = bl + 1) wo W' ∧ ∃ p', BlkA W' (bl + 1) p' ∧ UF p' cc h ∧ Rts p p')
              have hC0 : Kx (fun j => j = bl + 1) wo wo ∧ ∃ p', BlkA wo (bl + 1) p' ∧ UF p' cc h ∧ Rts p p' := ⟨Kx.refl _ _, p, HI.out.1, HI.out.2.1, Rts.refl p⟩
              have hd : ∃ x, { wo with drawn := wo.drawn + 1 } = mk x := (hmk2 _).1 ⟨(Kx.refl _ wo).drewN 1, p, HI.out.1, HI.out.2.1, Rts.refl p⟩
              have hnei : Nonempty ι := let ⟨y, _⟩ := hd; ⟨y⟩
              have hmy := fun y => (hmk2 (mk y)).2 ⟨y, rfl⟩
              have hcall : ∀ (v rv : Nat), v < 64 → rv < 64 → p rv = rv → cc rv = cc v → ∀ y, Calls Try.prog 59 #[.pointer (some ⟨bl + 1, 0, none⟩), .int .i64 (v : Nat)] (mk y) fun e w'' => e = .returned (.int .i64 (rv : Nat)) ∧ ∃ z, w'' = mk z := by
                intro v rv hv hrv h2 h3 y
                obtain ⟨hk0, p', hB, hU, hR⟩ := hmy y
                refine (root_any (bl + 1) p' cc h v hv (mk y) hB hU).mono ?_
                rintro e w'' ⟨r', p'', rfl, k1, k2, k3, k4, k5, k6, k7⟩
                have e1 : r' = rv := hU.one r' rv k1 hrv k2 ((hR rv hrv).1 h2) (k3.trans h3.symm)
                exact ⟨by rw [e1], (hmk2 _).1 ⟨hk0.trans k7 (fun _ _ h => h), p'', k4, k5, hR.trans k6⟩⟩
              have HCa := Lib.hid (hcall na ra (by omega) ha1 ha2 ha3)
              have HCb := Lib.hid (hcall nb rb (by omega) hb1 hb2 hb3)
              have Hky := Lib.hid (fun y => Hkx.out.trans ((hmy y).1.mono (T := fun j => j = bo ∨ j = bl + 1) (fun j hj => .inr hj)) (fun _ _ h => h))
              have g0 := fun y => (cells1 (((Hky.out y).block bl (by rw [Hbase.out]; omega) (by omega)).trans Hbox6.out)).1
              have hsy := fun y => slE_kxL HS6.out (Hky.out y) (fun _ a ha => by injection ha with ha; subst ha; show ¬ (b = bo ∨ b = bl + 1); have := HA.out (by omega) _ rfl; simp only at this; omega)
              have hl3 : ∀ y, (mk y).cell? ⟨b, o + m * 3, none⟩ = some (.int .i64 na) ∧ (mk y).cell? ⟨b, o + m * 3 + 1, none⟩ = some (.int .i64 nb) := fun y => by
                obtain ⟨b', o', l', e', _, hl', q0, q1, _⟩ := (hsy y).at3 hmk
                simp only [Option.some.injEq, Addr.mk.injEq, and_true] at e'
                obtain ⟨rfl, rfl⟩ := e'
                rw [hlm] at hl'; injection hl' with hl'; subst hl'
                exact ⟨by rw [q0, hna], by rw [q1, hnb]⟩
              have g1 := fun y => (hl3 y).1
              have g2 := fun y => (hl3 y).2
              have c0 : wo.cell? ⟨ob, i, none⟩ = some (.int .i64 (m : Nat)) := (HO6.out.kx Hkx.out (by omega)).cell hx
              have hmk0 : (0 : Int) ≤ (m : Int) := by omega
              have hmkk : (m : Int) < (k : Int) := by omega
              have hi0 : (0 : Int) ≤ (i : Int) := by omega
              have hik2 : (i : Int) < (k : Int) := by omega
              have Hmy := Lib.hid hmy
              have Hdr := Lib.hid hdr
              have Hlm := Lib.hid hlm
              have Hna := Lib.hid (show l.a.toNat = na by omega)
              have Hnb := Lib.hid (show l.b.toNat = nb by omega)
              have Hra := Lib.hid (And.intro ha2 ha3)
              have Hrb := Lib.hid (And.intro hb2 hb3)
              clear hx hdr hlm hmk2 hC0 hmy hcall hsy hl3 ha2 ha3 hb2 hb3 hna hnb hla hlb hxm hlt
              go_wp2_with fail
              refine wp_region_cls (C := fun w' => ∃ x, w' = mk x) (by kernel_rfl) (by kernel_rfl) hd ?_
              repeat (go_big_quiet_step ((go_at_call 59; first | with_reducible exact HCa.out _ | with_reducible exact HCb.out _)))
              refine wpQuiet_nil ?_
              intro _ hw'
              obtain ⟨y, rfl⟩ := hw'
              obtain ⟨hk7, p', hB7, hU7, hR7⟩ := Hmy.out y
              have hkx7 := Hky.out y
              obtain ⟨W7, hW7⟩ : ∃ W7, mk y = W7 := ⟨_, rfl⟩
              rw [hW7] at hk7 hB7 hkx7 ⊢
              have hn7 : Wst W7 bo (-1) ∧ cc f ≠ cc t := ⟨HI.out.2.2.2.1.1.kx hk7 (by omega), HI.out.2.2.2.1.2⟩
              have Hn7 := Lib.hid hn7
              have HB7 := Lib.hid hB7
              have HU7 := Lib.hid hU7
              have HR7 := Lib.hid hR7
              have Hkx7 := Lib.hid hkx7
              have hTk := HI.out.2.2.2.2
              have hlen9 : ((T.length + 1 : Nat) : Int) = ((T ++ [(m : Int)]).length : Int) := by rw [List.length_append]; rfl
              have Hlen9 := Lib.hid hlen9
              clear hW7 hk7 hB7 hkx7 hn7 hU7 hR7 Hmy Hky HCa HCb hd hnei g0 g1 g2 c0 hlen9
              by_cases hrr : ra = rb
              · have hrd : (ra : Int) = (rb : Int) := by omega
                have Hrr := Lib.hid hrr
                clear hrr
                go_wp2_with fail
                refine ⟨⟨i + 1, p', cc, h, T, by go_num, by omega, Lib.hid ⟨HB7.out, HU7.out, ?_, Hn7.out, by omega⟩, Hkx7.out⟩, by simp [intOf] <;> omega⟩
                rw [← HI.out.2.2.1, Hdr.out, krun_skip (l := l) (by rw [Int.toNat_natCast]; exact Hlm.out) (by rw [Hna.out, Hnb.out, ← Hra.out.2, ← Hrb.out.2, Hrr.out])]
              · have hrd : ¬ (ra : Int) = (rb : Int) := by omega
                have hun := HU7.out.union ha1 hb1 ((HR7.out ra ha1).1 Hra.out.1) ((HR7.out rb hb1).1 Hrb.out.1) hrr
                have Hun := Lib.hid hun
                have ha0 : (0 : Int) ≤ (ra : Int) := by omega
                have ha64 : (ra : Int) < 64 := by omega
                have g7 := HB7.out.cell ha1
                have f7 := HB7.out.frozen
                have hk8 : Kx (fun j => j = bl + 1) W7 (W7.setCell ⟨bl + 1, ra, none⟩ (.int .i64 (rb : Nat))) := kx_setb _ _ _ _
                have HB8 := Lib.hid (HB7.out.set ra rb)
                have Hn8 := Lib.hid (Hn7.out.1.kx hk8 (by omega))
                have Hkx8 := Lib.hid (Hkx7.out.trans (hk8.mono (T := fun j => j = bo ∨ j = bl + 1) (fun j hj => .inr hj)) (fun _ _ h => h))
                obtain ⟨-, h8, hU8⟩ := Hun.out
                have hcb := pcb_any L _ _ _ bf bt bk bo (bl + 1) m f t (upd p' ra rb) (relab cc (cc ra) (cc rb)) h8 _ (HP.out _ (Hall.out _ Hkx8.out)) Hn8.out (by omega) HB8.out hU8 hf ht hmk
                have Hc1 := Lib.hid (show cc l.a.toNat ≠ cc l.b.toNat from by rw [Hna.out, Hnb.out, ← Hra.out.2, ← Hrb.out.2]; exact hun.1)
                have Hcc := Lib.hid (show relab cc (cc ra) (cc rb) = relab cc (cc l.a.toNat) (cc l.b.toNat) from by rw [Hna.out, Hnb.out, ← Hra.out.2, ← Hrb.out.2])
                have Hl2 := Lib.hid (show L[(m : Int).toNat]? = some l from by rw [Int.toNat_natCast]; exact Hlm.out)
                have Hcb := Lib.hid hcb
                clear hun hk8 hrr hcb hU8
                rw [Hcc.out] at Hcb
                cases hst : stopP f t (T ++ [(m : Int)]) (relab cc (cc l.a.toNat) (cc l.b.toNat))
                · have hdc : ¬ relab cc (cc l.a.toNat) (cc l.b.toNat) f = relab cc (cc l.a.toNat) (cc l.b.toNat) t := of_decide_eq_false hst
                  rw [decide_eq_false hdc, if_neg hdc] at Hcb
                  have Hdc := Lib.hid hdc
                  have Hkr := Lib.hid (krun_go (r := r.drop (i + 1)) Hl2.out Hc1.out hst)
                  clear hst hdc
                  go_wp2_with (go_at_call 58; refine Hcb.out.mono ?_; rintro e w9 ⟨rfl, h91, h93, h92⟩; have Hn9 := Lib.hid h91; have Hk9 := Lib.hid h92; have Hu9 := Lib.hid h93; clear h91 h92 h93)
                  obtain ⟨p9, hB9, hU9⟩ := Hu9.out
                  refine ⟨⟨i + 1, p9, relab cc (cc l.a.toNat) (cc l.b.toNat), h8, T ++ [(m : Int)], by go_num, by omega, Lib.hid ⟨hB9, hU9, ?_, ⟨Hn9.out, Hdc.out⟩, by rw [List.length_append]; simp; omega⟩, ?_⟩, by simp [intOf] <;> omega⟩
                  · rw [← HI.out.2.2.1, Hdr.out, Hkr.out]
                  · exact (Hkx8.out.trans Hk9.out (fun _ _ h => h))
                · have hdc : relab cc (cc l.a.toNat) (cc l.b.toNat) f = relab cc (cc l.a.toNat) (cc l.b.toNat) t := of_decide_eq_true hst
                  rw [decide_eq_true hdc, if_pos hdc] at Hcb
                  have Hdc := Lib.hid hdc
                  have Hkr := Lib.hid (krun_stop (r := r.drop (i + 1)) Hl2.out Hc1.out hst)
                  clear hst hdc
                  go_wp2_with (go_at_call 58; refine Hcb.out.mono ?_; rintro e w9 ⟨rfl, h91, h93, h92⟩; have Hn9 := Lib.hid h91; have Hk9 := Lib.hid h92; have Hu9 := Lib.hid h93; clear h91 h92 h93)
                  have Hf := Lib.hid (Hfin.out w9 _ Hn9.out (.inr ⟨T, (m : Int), by rw [← HI.out.2.2.1, Hdr.out, Hkr.out], by rw [← HI.out.2.2.1, Hdr.out, Hkr.out]; exact Hdc.out, rfl⟩) (Hkx8.out.trans Hk9.out (fun _ _ h => h)))
                  clear Hfin
                  rw [Exit.noGoto_normal]
                  go_end0
                  exact Hf.out
            · obtain rfl : i = k := by omega
              have Hf := Lib.hid (Hfin.out _ (-1) HI.out.2.2.2.1.1 (.inl ⟨rfl, by rw [← HI.out.2.2.1, List.drop_eq_nil_of_le (by rw [Hlr.out]; exact Nat.le_refl _)]; exact HI.out.2.2.2.1.2⟩) Hkx.out)
              clear Hfin HI Hkx
              go_wp2_with fail
              rw [Exit.noGoto_normal]
              go_end0
              exact Hf.out
end
section
/-- The least weight by which two notes are connected, or -1. -/
def SpcV (L : List Lk) (f t : Nat) (b : Int) : Prop :=
  (b = -1 ∧ ∀ l ∈ L, ¬ Conn L l.w f t) ∨ (0 ≤ b ∧ Conn L b f t ∧ (∃ l ∈ L, b = l.w) ∧ ∀ l ∈ L, Conn L l.w f t → b ≤ l.w)
theorem SpcV.uniq {L : List Lk} {f t : Nat} {b d : Int} (h : SpcV L f t b) (k : SpcV L f t d) : b = d := by
  rcases h with ⟨h1, h2⟩ | ⟨h1, h2, ⟨l, hl, h3⟩, h4⟩ <;> rcases k with ⟨k1, k2⟩ | ⟨k1, k2, ⟨m, hm, k3⟩, k4⟩
  · rw [h1, k1]
  · exact absurd (by rw [← k3]; exact k2) (h2 m hm)
  · exact absurd (by rw [← h3]; exact h2) (k2 l hl)
  · have e1 := h4 m hm (by rw [← k3]; exact k2)
    have e2 := k4 l hl (by rw [← h3]; exact h2)
    omega
theorem run_pas {L : List Lk} {f t : Nat} : ∀ {rest D T : List Int} {c : Nat → Nat}, Lab L D T c → (∀ x ∈ rest, ∃ l, L[x.toNat]? = some l) → c f ≠ c t →
    ((krun L (stopP f t) rest c T).2 f ≠ (krun L (stopP f t) rest c T).2 t ∧ Lab L (D ++ rest) (krun L (stopP f t) rest c T).1 (krun L (stopP f t) rest c T).2) ∨
    ∃ T1 i D1 rest1 c1, (krun L (stopP f t) rest c T).1 = T1 ++ [i] ∧ (krun L (stopP f t) rest c T).2 f = (krun L (stopP f t) rest c T).2 t ∧ Lab L D1 T1 c1 ∧ c1 f ≠ c1 t ∧ D ++ rest = D1 ++ i :: rest1 ∧ Lab L (D1 ++ [i]) (T1 ++ [i]) (krun L (stopP f t) rest c T).2
  | [], D, T, c, hL, _, hne => .inl ⟨hne, by rw [List.append_nil]; exact hL⟩
  | i :: r, D, T, c, hL, hm, hne => by
    obtain ⟨l, hl⟩ := hm i (by simp)
    have hm2 : ∀ x ∈ r, ∃ l, L[x.toNat]? = some l := fun x hx => hm x (by simp [hx])
    by_cases he : c l.a.toNat = c l.b.toNat
    · rw [krun_skip hl he]
      have ih := run_pas (rest := r) (hL.skip hl he) hm2 hne
      rw [List.append_assoc] at ih
      exact ih
    · cases hs : stopP f t (T ++ [i]) (relab c (c l.a.toNat) (c l.b.toNat))
      · rw [krun_go hl he hs]
        have ih := run_pas (rest := r) (hL.take hl) hm2 (of_decide_eq_false hs)
        rw [List.append_assoc] at ih
        exact ih
      · rw [krun_stop hl he hs]
        exact .inr ⟨T, i, D, r, c, rfl, of_decide_eq_true hs, hL, hne, rfl, hL.take hl⟩
theorem pas_spc {L : List Lk} {f t : Nat} {v : Int} (hok : LkOk L) (hft : f ≠ t) (h : PasR L f t v) : SpcV L f t v := by
  have hp := srt_perm L (idxs L.length)
  have hm : ∀ x ∈ srt L (idxs L.length), ∃ l, L[x.toNat]? = some l := fun x hx => by
    have := idxs_mem.1 (hp.subset hx)
    exact ⟨_, List.getElem?_eq_getElem (by omega)⟩
  have hin : ∀ l ∈ L, ∃ j : Nat, (j : Int) ∈ srt L (idxs L.length) ∧ L[((j : Nat) : Int).toNat]? = some l := fun l hl => by
    obtain ⟨j, hj, e⟩ := List.getElem_of_mem hl
    exact ⟨j, hp.symm.subset (idxs_mem.2 ⟨by omega, by omega⟩), by rw [Int.toNat_natCast, List.getElem?_eq_getElem hj, e]⟩
  have hrun := run_pas (f := f) (t := t) (rest := srt L (idxs L.length)) (Lab.start L) hm hft
  rw [List.nil_append] at hrun
  unfold PasR kruL at h
  rcases hrun with ⟨r1, r2⟩ | ⟨T1, i, D1, rest1, c1, r1, r2, r3, r4, r5, r6⟩
  · rcases h with ⟨h1, _⟩ | ⟨_, _, _, h2, _⟩
    · refine .inl ⟨h1, fun l hl hc => r1 ?_⟩
      have := hc (fun z => decide ((krun L (stopP f t) (srt L (idxs L.length)) id []).2 z = (krun L (stopP f t) (srt L (idxs L.length)) id []).2 f)) (fun l' hl' _ => by
        obtain ⟨j, hj, e⟩ := hin l' hl'
        have := r2.keep _ hj l' e
        show decide (_ = _) = decide (_ = _)
        rw [this])
      have h2 : decide ((krun L (stopP f t) (srt L (idxs L.length)) id []).2 f = (krun L (stopP f t) (srt L (idxs L.length)) id []).2 f) = decide ((krun L (stopP f t) (srt L (idxs L.length)) id []).2 t = (krun L (stopP f t) (srt L (idxs L.length)) id []).2 f) := this
      rw [decide_eq_true rfl] at h2
      exact (of_decide_eq_true h2.symm).symm
    · exact absurd h2 r1
  · rcases h with ⟨_, h2⟩ | ⟨T2, i2, h1, _, h3⟩
    · exact absurd r2 h2
    · have e : T2 ++ [i2] = T1 ++ [i] := h1.symm.trans r1
      obtain ⟨-, e2⟩ := List.append_inj' e rfl
      simp only [List.cons.injEq, and_true] at e2
      subst e2
      have hris : Ris L (D1 ++ i2 :: rest1) := by rw [← r5]; exact srt_ris (idxs_nodup _)
      obtain ⟨li, hli⟩ := hm i2 (by rw [r5]; simp)
      have hvi : v = li.w := by rw [h3]; unfold lkW; rw [hli]
      have hlem := List.mem_of_getElem? hli
      refine .inr ⟨by rw [hvi]; exact (hok li hlem).1, ?_, ⟨li, hlem, hvi⟩, fun l hl hc => ?_⟩
      · have hci := r6.conn f t r2
        intro s hs
        refine hci s fun j hj l hl => hs l (List.mem_of_getElem? hl) ?_
        have hjl : lkW L j = l.w := by unfold lkW; rw [hl]
        rcases List.mem_append.1 (r6.sub j hj) with k | k
        · have := (List.pairwise_append.1 hris).2.2 j k i2 (by simp)
          unfold klt at this
          rw [hjl, ← h3] at this
          omega
        · simp only [List.mem_singleton] at k
          subst k
          rw [h3, hjl]; exact Int.le_refl _
      · by_cases hlt : v ≤ l.w
        · exact hlt
        · exfalso
          have := hc (fun z => decide (c1 z = c1 f)) (fun l' hl' hw => by
            obtain ⟨j, hj, e⟩ := hin l' hl'
            have hjl : lkW L (j : Int) = l'.w := by unfold lkW; rw [e]
            have hjk : klt L (j : Int) i2 := by left; rw [hjl, ← h3]; omega
            rw [r5] at hj
            have hjD : (j : Int) ∈ D1 := by
              rcases List.mem_append.1 hj with k | k
              · exact k
              · rcases List.mem_cons.1 k with k | k
                · rw [k] at hjk; exact absurd hjk klt_irrefl
                · exact absurd hjk (klt_asymm ((List.pairwise_cons.1 (List.pairwise_append.1 hris).2.1).1 _ k))
            have := r3.keep _ hjD l' e
            show decide (_ = _) = decide (_ = _)
            rw [this])
          have h2 : decide (c1 f = c1 f) = decide (c1 t = c1 f) := this
          rw [decide_eq_true rfl] at h2
          exact r4 (of_decide_eq_true h2.symm).symm
/-- The search for the least weight, as far as it has come. -/
def SpcI (L : List Lk) (f t k : Nat) (b : Int) : Prop :=
  (b = -1 ∧ ∀ l ∈ L.take k, ¬ Conn L l.w f t) ∨ (0 ≤ b ∧ Conn L b f t ∧ (∃ l ∈ L, b = l.w) ∧ ∀ l ∈ L.take k, Conn L l.w f t → b ≤ l.w)
theorem SpcI.start (L : List Lk) (f t : Nat) : SpcI L f t 0 (-1) := .inl ⟨rfl, by simp⟩
theorem mem_take1 {L : List Lk} {k : Nat} {l x : Lk} (hl : L[k]? = some l) (h : x ∈ L.take (k + 1)) : x ∈ L.take k ∨ x = l := by
  obtain ⟨hk, rfl⟩ := List.getElem?_eq_some_iff.1 hl
  rw [List.take_succ_eq_append_getElem hk] at h
  rcases List.mem_append.1 h with h | h
  · exact .inl h
  · exact .inr (by simpa using h)
theorem SpcI.take {L : List Lk} {f t k : Nat} {b : Int} {l : Lk} (h : SpcI L f t k b) (hok : LkOk L) (hl : L[k]? = some l) (hc : Conn L l.w f t) (hw : b < 0 ∨ l.w < b) : SpcI L f t (k + 1) l.w := by
  have hm := List.mem_of_getElem? hl
  refine .inr ⟨(hok l hm).1, hc, ⟨l, hm, rfl⟩, fun x hx hcx => ?_⟩
  rcases mem_take1 hl hx with hx | rfl
  · rcases h with ⟨_, h2⟩ | ⟨h1, _, _, h4⟩
    · exact absurd hcx (h2 x hx)
    · have := h4 x hx hcx; omega
  · exact Int.le_refl _
theorem SpcI.keep {L : List Lk} {f t k : Nat} {b : Int} {l : Lk} (h : SpcI L f t k b) (hl : L[k]? = some l) (hw : ¬ ((b < 0 ∨ l.w < b) ∧ Conn L l.w f t)) : SpcI L f t (k + 1) b := by
  rcases h with ⟨h1, h2⟩ | ⟨h1, h2, h3, h4⟩
  · refine .inl ⟨h1, fun x hx hcx => ?_⟩
    rcases mem_take1 hl hx with hx | rfl
    · exact h2 x hx hcx
    · exact hw ⟨.inl (by omega), hcx⟩
  · refine .inr ⟨h1, h2, h3, fun x hx hcx => ?_⟩
    rcases mem_take1 hl hx with hx | rfl
    · exact h4 x hx hcx
    · by_cases e : x.w < b
      · exact absurd ⟨.inr e, hcx⟩ hw
      · omega
theorem SpcI.fin {L : List Lk} {f t : Nat} {b : Int} (h : SpcI L f t L.length b) : SpcV L f t b := by
  unfold SpcI at h
  rw [List.take_length] at h
  exact h
end
section
open Go.RowKit
set_option maxRecDepth 8000 in
set_option maxHeartbeats 8000000 in
theorem refPas_any (N f t : Nat) (A : Option Addr) (n c : Nat) (L : List Lk) (w : World) (hS : SlE linkE 3 w A n L) (hp : Pln (N : Nat) L) (hf : f < N) (ht : t < N) (hft : f ≠ t) :
    Calls Try.prog 30 #[.int .i64 (N : Nat), .slice A n c, .int .i64 (f : Nat), .int .i64 (t : Nat)] w
      fun e w' => (∃ b, SpcV L f t b ∧ e = .returned (if b < 0 then .tuple #[.int .i64 0, .int .i64 6] else .tuple #[.int .i64 b, .int .i64 0])) ∧ Below w.heap.size w w' := by
  refine calls_cps ?_
  intro R hR
  have hn512 : n ≤ 512 := by rw [hS.1]; exact hp.len
  have hN2 : N ≤ 64 := by have := hp.hi; omega
  have hpl := refPlan_any (N : Nat) A n c L w hS (by omega)
  rw [(planB_iff _ _).2 hp] at hpl
  have Hpl := Lib.hid hpl
  have HS := Lib.hid hS
  have Hp := Lib.hid hp
  have HLv := Lib.hid (show LkV N L from fun l hl => by have := hp.lk l hl; omega)
  have HR := Lib.hid (show ∀ b W, SpcV L f t b → Below w.heap.size w W → R (.returned (if b < 0 then .tuple #[.int .i64 0, .int .i64 6] else .tuple #[.int .i64 b, .int .i64 0])) W from fun b W h1 h2 => hR.out _ W ⟨⟨b, h1, rfl⟩, h2⟩)
  have e1 : inB (f : Nat) 0 ((N : Int) - 1) = true := inB_iff.2 ⟨by omega, by omega⟩
  have e2 : inB (t : Nat) 0 ((N : Int) - 1) = true := inB_iff.2 ⟨by omega, by omega⟩
  have e3 : ((f : Int) == (t : Int)) = false := by simp; omega
  have e4 : ¬ (f : Int) = (t : Int) := by omega
  have t0 : (0 : Int) ≤ (t : Int) := by omega
  have t1 : (t : Int) < (N : Int) := by omega
  clear hS hp hpl hR
  go_enter Try.func30, Try.ntmps30
  go_wp2_with (first
    | (go_at_call 27; refine Hpl.out.mono ?_; rintro e w2 ⟨rfl, rfl⟩)
    | (go_at_call 45; refine (in_any _ _ _ _).mono ?_; rintro e w' ⟨rfl, rfl⟩; (try rw [e1]); (try rw [e2])))
  go_loopg [10, 11, 12] n (fun gk s10 s11 _ wr => ∃ (i : Nat) (b : Int), s11 = .int .i64 (i : Nat) ∧ s10 = .int .i64 b ∧ i + gk = n ∧ -1 ≤ b ∧ b ≤ 1000000 ∧ Hid (SpcI L f t i b) ∧ Below w.heap.size w wr)
  case atStart => exact ⟨0, -1, rfl, rfl, by omega, by omega, by omega, Lib.hid (SpcI.start _ _ _), Below.refl _ _⟩
  case round =>
    obtain ⟨i, b, rfl, rfl, hik, hb1, hb2, HI, hbw⟩ := hrel
    obtain ⟨wo, rfl⟩ : ∃ wo : World, wo = wr := ⟨_, rfl⟩
    have HB := Lib.hid hbw
    have hzo := hbw.size
    by_cases hlt : i < n
    · have i1 : (i : Int) < (n : Int) := by omega
      have hso := HS.out.below hbw
      obtain ⟨bb, oo, l, rfl, hbl, hs, p0, p1, p2⟩ := hso.at3 hlt
      have hlw := Hp.out.lk l (List.mem_of_getElem? hs)
      obtain ⟨hw1, hw2⟩ := hlw.2.2
      have Hre := Lib.hid (reach_any N f (some ⟨bb, oo, none⟩) n c L l.w wo hso (by omega) HLv.out hN2 hf)
      obtain ⟨mv, hmv⟩ : ∃ mv, reachF L l.w N f t = mv := ⟨_, rfl⟩
      have Hmv := Lib.hid (show mv = true ↔ Conn L l.w f t from by rw [← hmv, reach_iff HLv.out.lkN hf])
      have Hmv2 := Lib.hid hmv
      have Hs := Lib.hid hs
      obtain ⟨wl, hwl⟩ : ∃ wl, l.w = wl := ⟨_, rfl⟩
      have Hwl := Lib.hid hwl
      rw [hwl] at p2 hw1 hw2 Hre
      clear hbw hlw hs hmv hwl p0 p1 hso
      by_cases hc : b < 0 ∨ wl < b
      · cases mv
        · have HI2 := Lib.hid (HI.out.keep Hs.out (fun h => by have := Hmv.out.2 h.2; cases this))
          by_cases hb0 : b < 0
          all_goals
            first | have j1 : wl < b := hc.resolve_left hb0 | skip
            go_wp2_with (go_at_call 56; refine Hre.out.mono ?_; rintro e w6 ⟨g3, rfl, hg3, hF3, hb6⟩; have g0 := hF3.cell ht; rw [← Hwl.out, Hmv2.out] at g0; have HB6 := Lib.hid (HB.out.trans (hb6.mono hzo)); clear hF3 hb6)
            go_roundg (gk - 1)
            case measure => omega
            case rel => exact ⟨i + 1, b, by go_num, rfl, by omega, hb1, hb2, HI2, HB6.out⟩
        · have HI2 := Lib.hid (HI.out.take (fun l hl => (Hp.out.lk l hl).2.2) Hs.out (Hmv.out.1 rfl) (by rw [Hwl.out]; exact hc))
          rw [Hwl.out] at HI2
          by_cases hb0 : b < 0
          all_goals
            first | have j1 : wl < b := hc.resolve_left hb0 | skip
            go_wp2_with (go_at_call 56; refine Hre.out.mono ?_; rintro e w6 ⟨g3, rfl, hg3, hF3, hb6⟩; have g0 := hF3.cell ht; rw [← Hwl.out, Hmv2.out] at g0; have HB6 := Lib.hid (HB.out.trans (hb6.mono hzo)); clear hF3 hb6)
            go_roundg (gk - 1)
            case measure => omega
            case rel => exact ⟨i + 1, wl, by go_num, rfl, by omega, by omega, hw2, HI2, HB6.out⟩
      · have HI2 := Lib.hid (HI.out.keep Hs.out (fun h => hc (by rw [← Hwl.out]; exact h.1)))
        have j0 : ¬ b < 0 := fun h => hc (.inl h)
        have j1 : ¬ wl < b := fun h => hc (.inr h)
        go_wp2_with fail
        go_roundg (gk - 1)
        case measure => omega
        case rel => exact ⟨i + 1, b, by go_num, rfl, by omega, hb1, hb2, HI2, HB.out⟩
    · obtain rfl : i = n := by omega
      have hsp : SpcV L f t b := by have := HI.out; rw [HS.out.1] at this; exact this.fin
      have Hf := Lib.hid (HR.out b wo hsp HB.out)
      clear HR hsp HI hbw
      by_cases hb0 : b < 0
      · rw [if_pos hb0] at Hf
        go_wp2_with fail
        exact Hf.out
      · rw [if_neg hb0] at Hf
        go_wp2_with fail
        exact Hf.out
end
section
open Go.RowKit
def pasB (notes f t : Int) (L : List Lk) : Bool := planB notes L && (inB f 0 (notes - 1) && inB t 0 (notes - 1))
/-- What both answer. -/
def pasV (v : Int) : Value := if v < 0 then .tuple #[.int .i64 0, .int .i64 6] else .tuple #[.int .i64 v, .int .i64 0]
set_option maxRecDepth 8000 in
set_option maxHeartbeats 4000000 in
theorem refPas_bad (notes f t : Int) (A : Option Addr) (n c : Nat) (L : List Lk) (w : World) (hS : SlE linkE 3 w A n L) (hn : n ≤ 9223372036854775807) (hp : pasB notes f t L = false) :
    Calls Try.prog 30 #[.int .i64 notes, .slice A n c, .int .i64 f, .int .i64 t] w fun e w' => e = .returned (.tuple #[.int .i64 0, .int .i64 1]) ∧ Below w.heap.size w w' := by
  refine calls_cps ?_
  intro R hR
  have hpl := refPlan_any notes A n c L w hS hn
  have Hf := Lib.hid (hR.out _ w ⟨rfl, Below.refl _ _⟩)
  clear hR hS
  cases hb : planB notes L
  · rw [hb] at hpl
    have Hpl := Lib.hid hpl
    clear hpl hb hp
    go_enter Try.func30, Try.ntmps30
    go_wp2_with (first
      | (go_at_call 27; refine Hpl.out.mono ?_; rintro e w2 ⟨rfl, rfl⟩)
      | (go_at_call 45; refine (in_any _ _ _ _).mono ?_; rintro e w' ⟨rfl, rfl⟩))
    exact Hf.out
  · rw [hb] at hpl
    have hP := (planB_iff _ _).1 hb
    have hl := hP.lo
    have hh := hP.hi
    have Hpl := Lib.hid hpl
    unfold pasB at hp
    rw [hb, Bool.true_and] at hp
    clear hpl hb hP
    cases h1 : inB f 0 (notes - 1)
    · clear hp
      go_enter Try.func30, Try.ntmps30
      go_wp2_with (first
        | (go_at_call 27; refine Hpl.out.mono ?_; rintro e w2 ⟨rfl, rfl⟩)
        | (go_at_call 45; refine (in_any _ _ _ _).mono ?_; rintro e w' ⟨rfl, rfl⟩; rw [h1]))
      exact Hf.out
    · rw [h1, Bool.true_and] at hp
      go_enter Try.func30, Try.ntmps30
      go_wp2_with (first
        | (go_at_call 27; refine Hpl.out.mono ?_; rintro e w2 ⟨rfl, rfl⟩)
        | (go_at_call 45; refine (in_any _ _ _ _).mono ?_; rintro e w' ⟨rfl, rfl⟩; first | rw [h1] | rw [hp]))
      exact Hf.out
set_option maxRecDepth 8000 in
set_option maxHeartbeats 4000000 in
theorem refPas_one (notes f : Int) (A : Option Addr) (n c : Nat) (L : List Lk) (w : World) (hS : SlE linkE 3 w A n L) (hn : n ≤ 9223372036854775807) (hp : pasB notes f f L = true) :
    Calls Try.prog 30 #[.int .i64 notes, .slice A n c, .int .i64 f, .int .i64 f] w fun e w' => e = .returned (.tuple #[.int .i64 0, .int .i64 0]) ∧ Below w.heap.size w w' := by
  refine calls_cps ?_
  intro R hR
  unfold pasB at hp
  obtain ⟨hb, h2⟩ := Bool.and_eq_true_iff.1 hp
  obtain ⟨h1, -⟩ := Bool.and_eq_true_iff.1 h2
  have hpl := refPlan_any notes A n c L w hS hn
  rw [hb] at hpl
  have hP := (planB_iff _ _).1 hb
  have hl := hP.lo
  have hh := hP.hi
  have Hf := Lib.hid (hR.out _ w ⟨rfl, Below.refl _ _⟩)
  have Hpl := Lib.hid hpl
  have Hh1 := Lib.hid h1
  clear hR hS hpl hb hP hp h2 h1
  go_enter Try.func30, Try.ntmps30
  go_wp2_with (first
    | (go_at_call 27; refine Hpl.out.mono ?_; rintro e w2 ⟨rfl, rfl⟩)
    | (go_at_call 45; refine (in_any _ _ _ _).mono ?_; rintro e w' ⟨rfl, rfl⟩; rw [Hh1.out]))
  exact Hf.out
/-- The three boxes of Passage's arguments. -/
structure Pb3 (w W : World) (L : List Lk) (A : Option Addr) (n c : Nat) (f t : Int) : Prop where
  k : W.heap[w.heap.size]? = some (.cells #[.slice A n c] 34 (0, 0))
  f : Wst W (w.heap.size + 1) f
  t : Wst W (w.heap.size + 1 + 1) t
  sl : SlE linkE 3 W A n L
  bel : Below w.heap.size w W
theorem Pb3.below {w W W' : World} {L : List Lk} {A : Option Addr} {n c : Nat} {f t : Int} (h : Pb3 w W L A n c f t) (hb : Below W.heap.size W W') : Pb3 w W' L A n c f t :=
  ⟨(hb.block _ (Array.getElem?_eq_some_iff.1 h.k).1).trans h.k, (hb.block _ (Array.getElem?_eq_some_iff.1 h.f).1).trans h.f, (hb.block _ (Array.getElem?_eq_some_iff.1 h.t).1).trans h.t, h.sl.below hb, h.bel.trans (hb.mono h.bel.size)⟩
theorem pb3_new (w : World) (L : List Lk) (A : Option Addr) (n c : Nat) (f t : Int) (hS : SlE linkE 3 w A n L) :
    Pb3 w (((w.alloc (.cells #[.slice A n c] 34)).alloc (.cells #[.int .i64 f] 3)).alloc (.cells #[.int .i64 t] 3)) L A n c f t := by
  have h1 := heap_alloc_new w (.cells #[.slice A n c] 34)
  have b1 := below_new w (.cells #[.slice A n c] 34)
  have z1 : (w.alloc (.cells #[.slice A n c] 34)).heap.size = w.heap.size + 1 := by simp
  obtain ⟨w1, hw1⟩ : ∃ w1, w.alloc (.cells #[.slice A n c] 34) = w1 := ⟨_, rfl⟩
  rw [hw1] at h1 b1 z1 ⊢
  have h2 := heap_alloc_new w1 (.cells #[.int .i64 f] 3)
  have b2 := below_new w1 (.cells #[.int .i64 f] 3)
  have z2 : (w1.alloc (.cells #[.int .i64 f] 3)).heap.size = w.heap.size + 1 + 1 := by simp; omega
  obtain ⟨w2, hw2⟩ : ∃ w2, w1.alloc (.cells #[.int .i64 f] 3) = w2 := ⟨_, rfl⟩
  rw [hw2] at h2 b2 z2 ⊢
  have h3 := heap_alloc_new w2 (.cells #[.int .i64 t] 3)
  have b3 := below_new w2 (.cells #[.int .i64 t] 3)
  rw [z1] at h2
  rw [z2] at h3
  exact ⟨(b3.block _ (by omega)).trans ((b2.block _ (by omega)).trans h1), (b3.block _ (by omega)).trans h2, h3, ((hS.below b1).below b2).below b3, (b1.trans (b2.mono (by omega))).trans (b3.mono (by omega))⟩
set_option maxRecDepth 8000 in
set_option maxHeartbeats 8000000 in
theorem pas_bad (notes f t : Int) (A : Option Addr) (n c : Nat) (L : List Lk) (w : World) (hS : SlE linkE 3 w A n L) (hn : n ≤ 9223372036854775807) (hp : pasB notes f t L = false) :
    Calls Try.prog 29 #[.int .i64 notes, .slice A n c, .int .i64 f, .int .i64 t] w fun e w' => e = .returned (.tuple #[.int .i64 0, .int .i64 1]) ∧ Below w.heap.size w w' := by
  refine calls_cps ?_
  intro R hR
  have hb3 := pb3_new w L A n c f t hS
  obtain ⟨w3, hw3⟩ : ∃ w3, ((w.alloc (.cells #[.slice A n c] 34)).alloc (.cells #[.int .i64 f] 3)).alloc (.cells #[.int .i64 t] 3) = w3 := ⟨_, rfl⟩
  rw [hw3] at hb3
  have HB3 := Lib.hid hb3
  have hpl := plan_any notes A n c L w3 hb3.sl hn
  have HY := Lib.hid (fun W h => hR.out (.returned (.tuple #[.int .i64 0, .int .i64 1])) W ⟨rfl, h⟩)
  obtain ⟨k0, -⟩ := cells1 hb3.k
  clear hR hS hb3
  cases hb : planB notes L
  · rw [hb] at hpl
    have Hpl := Lib.hid hpl
    clear hpl hb hp
    go_enter Try.func29, Try.ntmps29
    go_wp2_with (first
      | (go_at_call 52; refine Hpl.out.mono ?_; rintro e w4 ⟨rfl, hb4⟩; have HB3 := Lib.hid (HB3.out.below hb4); clear hb4)
      | (go_at_call 57; refine (within_any _ _ _ _).mono ?_; rintro e w' ⟨rfl, rfl⟩))
    exact HY.out _ HB3.out.bel
  · rw [hb] at hpl
    have hP := (planB_iff _ _).1 hb
    have hl := hP.lo
    have hh := hP.hi
    have Hpl := Lib.hid hpl
    unfold pasB at hp
    rw [hb, Bool.true_and] at hp
    clear hpl hb hP
    cases h1 : inB f 0 (notes - 1)
    · clear hp
      go_enter Try.func29, Try.ntmps29
      go_wp2_with (first
        | (go_at_call 52; refine Hpl.out.mono ?_; rintro e w4 ⟨rfl, hb4⟩; have HB3 := Lib.hid (HB3.out.below hb4); have k1 := HB3.out.f.cell.1; have k2 := HB3.out.t.cell.1; clear hb4)
        | (go_at_call 57; refine (within_any _ _ _ _).mono ?_; rintro e w' ⟨rfl, rfl⟩; rw [h1]))
      exact HY.out _ HB3.out.bel
    · rw [h1, Bool.true_and] at hp
      go_enter Try.func29, Try.ntmps29
      go_wp2_with (first
        | (go_at_call 52; refine Hpl.out.mono ?_; rintro e w4 ⟨rfl, hb4⟩; have HB3 := Lib.hid (HB3.out.below hb4); have k1 := HB3.out.f.cell.1; have k2 := HB3.out.t.cell.1; clear hb4)
        | (go_at_call 57; refine (within_any _ _ _ _).mono ?_; rintro e w' ⟨rfl, rfl⟩; first | rw [h1] | rw [hp]))
      exact HY.out _ HB3.out.bel
set_option maxRecDepth 8000 in
set_option maxHeartbeats 8000000 in
theorem pas_one (notes f : Int) (A : Option Addr) (n c : Nat) (L : List Lk) (w : World) (hS : SlE linkE 3 w A n L) (hn : n ≤ 9223372036854775807) (hp : pasB notes f f L = true) :
    Calls Try.prog 29 #[.int .i64 notes, .slice A n c, .int .i64 f, .int .i64 f] w fun e w' => e = .returned (.tuple #[.int .i64 0, .int .i64 0]) ∧ Below w.heap.size w w' := by
  refine calls_cps ?_
  intro R hR
  have hb3 := pb3_new w L A n c f f hS
  obtain ⟨w3, hw3⟩ : ∃ w3, ((w.alloc (.cells #[.slice A n c] 34)).alloc (.cells #[.int .i64 f] 3)).alloc (.cells #[.int .i64 f] 3) = w3 := ⟨_, rfl⟩
  rw [hw3] at hb3
  have HB3 := Lib.hid hb3
  have hpl := plan_any notes A n c L w3 hb3.sl hn
  have HY := Lib.hid (fun W h => hR.out (.returned (.tuple #[.int .i64 0, .int .i64 0])) W ⟨rfl, h⟩)
  obtain ⟨k0, -⟩ := cells1 hb3.k
  unfold pasB at hp
  obtain ⟨hb, h2⟩ := Bool.and_eq_true_iff.1 hp
  obtain ⟨h1, -⟩ := Bool.and_eq_true_iff.1 h2
  rw [hb] at hpl
  have hP := (planB_iff _ _).1 hb
  have hl := hP.lo
  have hh := hP.hi
  have Hpl := Lib.hid hpl
  have Hh1 := Lib.hid h1
  clear hR hS hb3 hpl hb hP hp h2 h1
  go_enter Try.func29, Try.ntmps29
  go_wp2_with (first
    | (go_at_call 52; refine Hpl.out.mono ?_; rintro e w4 ⟨rfl, hb4⟩; have HB3 := Lib.hid (HB3.out.below hb4); have k1 := HB3.out.f.cell.1; have k2 := HB3.out.t.cell.1; clear hb4)
    | (go_at_call 57; refine (within_any _ _ _ _).mono ?_; rintro e w' ⟨rfl, rfl⟩; rw [Hh1.out]))
  exact HY.out _ HB3.out.bel
set_option maxRecDepth 8000 in
set_option maxHeartbeats 8000000 in
theorem pas_ok (N f t : Nat) (A : Option Addr) (n c : Nat) (L : List Lk) (w : World) (hS : SlE linkE 3 w A n L) (hp : Pln (N : Nat) L) (hf : f < N) (ht : t < N) (hft : f ≠ t) :
    Calls Try.prog 29 #[.int .i64 (N : Nat), .slice A n c, .int .i64 (f : Nat), .int .i64 (t : Nat)] w
      fun e w' => (∃ b, SpcV L f t b ∧ e = .returned (if b < 0 then .tuple #[.int .i64 0, .int .i64 6] else .tuple #[.int .i64 b, .int .i64 0])) ∧ Below w.heap.size w w' := by
  refine calls_cps ?_
  intro R hR
  have hn512 : n ≤ 512 := by rw [hS.1]; exact hp.len
  have hN2 : N ≤ 64 := by have := hp.hi; omega
  have hb3 := pb3_new w L A n c f t hS
  obtain ⟨w3, hw3⟩ : ∃ w3, ((w.alloc (.cells #[.slice A n c] 34)).alloc (.cells #[.int .i64 (f : Nat)] 3)).alloc (.cells #[.int .i64 (t : Nat)] 3) = w3 := ⟨_, rfl⟩
  rw [hw3] at hb3
  have HB3 := Lib.hid hb3
  have hpl := plan_any (N : Nat) A n c L w3 hb3.sl (by omega)
  rw [(planB_iff _ _).2 hp] at hpl
  have Hpl := Lib.hid hpl
  have HR := Lib.hid (show ∀ b W, SpcV L f t b → Below w.heap.size w W → R (.returned (if b < 0 then .tuple #[.int .i64 0, .int .i64 6] else .tuple #[.int .i64 b, .int .i64 0])) W from fun b W h1 h2 => hR.out _ W ⟨⟨b, h1, rfl⟩, h2⟩)
  obtain ⟨k0, -⟩ := cells1 hb3.k
  have Hp := Lib.hid hp
  have hAw : 0 < n → ∀ a, A = some a → a.block < w.heap.size := fun h0 a ha => by
    obtain ⟨b', o', e', hb', _⟩ := hS.2.2 h0
    rw [ha] at e'; injection e' with e'; subst e'; exact hb'
  have HAw := Lib.hid hAw
  have e1 : inB (f : Nat) 0 ((N : Int) - 1) = true := inB_iff.2 ⟨by omega, by omega⟩
  have e2 : inB (t : Nat) 0 ((N : Int) - 1) = true := inB_iff.2 ⟨by omega, by omega⟩
  have e3 : ((f : Int) == (t : Int)) = false := by simp; omega
  have e4 : ¬ (f : Int) = (t : Int) := by omega
  clear hR hS hb3 hpl hp hAw
  go_enter Try.func29, Try.ntmps29
  go_upto_region 5 with (first
    | (go_at_call 52; refine Hpl.out.mono ?_; rintro e w4 ⟨rfl, hb4⟩; have HB3 := Lib.hid (HB3.out.below hb4); have k1 := HB3.out.f.cell.1; have k2 := HB3.out.t.cell.1; clear hb4)
    | (go_at_call 57; refine (within_any _ _ _ _).mono ?_; rintro e w' ⟨rfl, rfl⟩; first | rw [e1] | rw [e2]))
  have ho := heap_alloc_new w4 (.cells #[.int .i64 (-1)] 3)
  have hb5 := below_new w4 (.cells #[.int .i64 (-1)] 3)
  have hz5 : (w4.alloc (.cells #[.int .i64 (-1)] 3)).heap.size = w4.heap.size + 1 := by simp
  obtain ⟨bo, hbo⟩ : ∃ bo, w4.heap.size = bo := ⟨_, rfl⟩
  obtain ⟨w5, hw5⟩ : ∃ w5, w4.alloc (.cells #[.int .i64 (-1)] 3) = w5 := ⟨_, rfl⟩
  rw [hw5] at ho hb5 hz5
  rw [hbo] at ho hz5
  have HB5 := Lib.hid (HB3.out.below hb5)
  have hlt4 : w.heap.size + 1 + 1 < bo := by rw [← hbo]; exact (Array.getElem?_eq_some_iff.1 HB3.out.t).1
  have hkr := krP_any L Hp.out.lks Hp.out.len A n c bo (w.heap.size + 1) (w.heap.size + 1 + 1) w.heap.size f t w5 HB5.out.sl ho (fun h0 a ha => by have := HAw.out h0 a ha; omega) (fun W hk =>
    ⟨Hp.out.lks.ok, HB5.out.f.kx hk (by omega), HB5.out.t.kx hk (by omega), (hk.block _ (Array.getElem?_eq_some_iff.1 HB5.out.k).1 (by omega)).trans HB5.out.k, slE_kxL HB5.out.sl hk (fun h0 a ha => by have := HAw.out h0 a ha; omega), by omega, by omega, by omega, fun h0 a ha => by have := HAw.out h0 a ha; omega⟩) (by omega) (by omega) hft
  have Hkr := Lib.hid hkr
  have k5 := (cells1 HB5.out.k).1
  have hz5w : w.heap.size ≤ w5.heap.size := HB5.out.bel.size
  clear hkr ho hb5 HB3
  go_wp2_with fail
  (try rw [hbo])
  (try rw [hw5])
  go_upto_region 7 with (go_at_call 53; refine Hkr.out.mono ?_; rintro e w6 ⟨rfl, ⟨v, hv, hpr⟩, hk6⟩; have hsp := pas_spc Hp.out.lks.ok hft hpr; have hbel := Kx.low HB5.out.bel hk6 (fun j hj => by omega) hz5w; have Hf := Lib.hid (HR.out v w6 hsp hbel); have v0 := hv.cell.1; clear hv hpr hk6 hsp hbel)
  by_cases hv0 : v < 0
  · rw [if_pos hv0] at Hf
    go_wp2_with fail
    exact Hf.out
  · rw [if_neg hv0] at Hf
    go_wp2_with fail
    exact Hf.out
end
section
open Go.RowKit
set_option maxRecDepth 8000 in
set_option maxHeartbeats 8000000 in
theorem passages_any (notes f t : Int) (A : Option Addr) (n c : Nat) (L : List Lk) (w : World) (hS : SlE linkE 3 w A n L) (hnc : n ≤ c) (hc : c ≤ 9223372036854775807) :
    Calls Try.prog 7 #[.int .i64 notes, .slice A n c, .agg #[.int .i64 f, .int .i64 t]] w fun en w' => en = .returned (.bool true) ∧ Below w.heap.size w w' := by
  refine calls_cps ?_
  intro R hR
  have hal := heap_alloc_new w (.cells #[.int .i64 f, .int .i64 t] 43)
  have hb1 := below_new w (.cells #[.int .i64 f, .int .i64 t] 43)
  obtain ⟨w1, hw1⟩ : ∃ w1, w.alloc (.cells #[.int .i64 f, .int .i64 t] 43) = w1 := ⟨_, rfl⟩
  rw [hw1] at hal hb1
  obtain ⟨bx, hbx⟩ : ∃ bx, w.heap.size = bx := ⟨_, rfl⟩
  rw [hbx] at hal
  have HX := Lib.hid (show ∀ W, Below w1.heap.size w1 W → W.cell? ⟨bx, 0, none⟩ = some (.int .i64 f) ∧ W.cell? ⟨bx, 1, none⟩ = some (.int .i64 t) ∧ Below w.heap.size w W from fun W hb => by
    have h := (hb.block bx (Array.getElem?_eq_some_iff.1 hal).1).trans hal
    exact ⟨by rw [cell_of_row _ _ 0 _ _ (0, 0) h]; rfl, by rw [cell_of_row _ _ 1 _ _ (0, 0) h]; rfl, hb1.trans (hb.mono hb1.size)⟩)
  have Hlk := Lib.hid (links_any A n c L w1 (hS.below hb1) hnc hc)
  obtain ⟨K, hK⟩ : ∃ K, L.take (lkK n) = K := ⟨_, rfl⟩
  obtain ⟨k, hk⟩ : ∃ k, lkK n = k := ⟨_, rfl⟩
  have hk5 : k ≤ 513 := by rw [← hk]; unfold lkK; split <;> first | omega | (split <;> omega)
  rw [hK, hk] at Hlk
  have HY := Lib.hid (show ∀ W, Below w.heap.size w W → R (.returned (.bool true)) W from fun W h => hR.out _ W ⟨rfl, h⟩)
  have Hbx := Lib.hid hbx
  clear hR hS hK hk hal hb1 hbx
  -- both answer the same pair
  obtain ⟨V, E, HA, HB⟩ : ∃ V E : Int, Hid (∀ (W : World) (A2 : Option Addr) (c2 : Nat), SlE linkE 3 W A2 k K → Calls Try.prog 29 #[.int .i64 notes, .slice A2 k c2, .int .i64 f, .int .i64 t] W fun e w' => e = .returned (.tuple #[.int .i64 V, .int .i64 E]) ∧ Below W.heap.size W w') ∧
      Hid (∀ (W : World) (A2 : Option Addr) (c2 : Nat), SlE linkE 3 W A2 k K → Calls Try.prog 30 #[.int .i64 notes, .slice A2 k c2, .int .i64 f, .int .i64 t] W fun e w' => e = .returned (.tuple #[.int .i64 V, .int .i64 E]) ∧ Below W.heap.size W w') := by
    cases hp : pasB notes f t K
    · exact ⟨0, 1, Lib.hid (fun W A2 c2 h => pas_bad notes f t A2 k c2 K W h (by omega) hp), Lib.hid (fun W A2 c2 h => refPas_bad notes f t A2 k c2 K W h (by omega) hp)⟩
    · by_cases hft : f = t
      · subst hft
        exact ⟨0, 0, Lib.hid (fun W A2 c2 h => pas_one notes f A2 k c2 K W h (by omega) hp), Lib.hid (fun W A2 c2 h => refPas_one notes f A2 k c2 K W h (by omega) hp)⟩
      · unfold pasB at hp
        obtain ⟨hb, h2⟩ := Bool.and_eq_true_iff.1 hp
        obtain ⟨h1, h3⟩ := Bool.and_eq_true_iff.1 h2
        have hP := (planB_iff _ _).1 hb
        obtain ⟨f0, f1⟩ := inB_iff.1 h1
        obtain ⟨t0, t1⟩ := inB_iff.1 h3
        obtain ⟨N, rfl⟩ : ∃ N : Nat, notes = N := ⟨notes.toNat, by have := hP.lo; omega⟩
        obtain ⟨fn, rfl⟩ : ∃ fn : Nat, f = fn := ⟨f.toNat, by omega⟩
        obtain ⟨tn, rfl⟩ : ∃ tn : Nat, t = tn := ⟨t.toNat, by omega⟩
        rcases Classical.em (∃ b, SpcV K fn tn b) with ⟨b, hbv⟩ | hno
        · obtain ⟨V, E, hVE⟩ : ∃ V E : Int, (if b < 0 then (.tuple #[.int .i64 0, .int .i64 6] : Value) else .tuple #[.int .i64 b, .int .i64 0]) = .tuple #[.int .i64 V, .int .i64 E] := by
            by_cases h : b < 0
            · exact ⟨0, 6, if_pos h⟩
            · exact ⟨b, 0, if_neg h⟩
          refine ⟨V, E, Lib.hid (fun W A2 c2 h => (pas_ok N fn tn A2 k c2 K W h hP (by omega) (by omega) (by omega)).mono ?_), Lib.hid (fun W A2 c2 h => (refPas_any N fn tn A2 k c2 K W h hP (by omega) (by omega) (by omega)).mono ?_)⟩
          · rintro e w' ⟨⟨d, hd, rfl⟩, hbb⟩
            rw [hd.uniq hbv, hVE]
            exact ⟨rfl, hbb⟩
          · rintro e w' ⟨⟨d, hd, rfl⟩, hbb⟩
            rw [hd.uniq hbv, hVE]
            exact ⟨rfl, hbb⟩
        · refine ⟨0, 0, Lib.hid (fun W A2 c2 h => (pas_ok N fn tn A2 k c2 K W h hP (by omega) (by omega) (by omega)).mono ?_), Lib.hid (fun W A2 c2 h => (refPas_any N fn tn A2 k c2 K W h hP (by omega) (by omega) (by omega)).mono ?_)⟩
          · rintro e w' ⟨⟨d, hd, _⟩, _⟩; exact absurd ⟨d, hd⟩ hno
          · rintro e w' ⟨⟨d, hd, _⟩, _⟩; exact absurd ⟨d, hd⟩ hno
  go_enter Try.func7, Try.ntmps7
  go_upto_region 1 with fail
  rw [Hbx.out]
  obtain ⟨x0, x1, -⟩ := HX.out w1 (Below.refl _ _)
  go_wp2_with (first
    | (go_at_call 23; refine Hlk.out.mono ?_; rintro e1 w2 ⟨A2, c2, rfl, hs, hb⟩; have Hs := Lib.hid hs; have Hb := Lib.hid hb; obtain ⟨x0, x1, -⟩ := HX.out w2 hb; clear hs hb)
    | (go_at_call 29; refine (HA.out _ _ _ Hs.out).mono ?_; rintro e1 w3 ⟨rfl, hb⟩; have Hs := Lib.hid (Hs.out.below hb); have Hb := Lib.hid (Hb.out.trans (hb.mono Hb.out.size)); obtain ⟨x0, x1, -⟩ := HX.out w3 Hb.out; clear hb)
    | (go_at_call 30; refine (HB.out _ _ _ Hs.out).mono ?_; rintro e1 w4 ⟨rfl, hb⟩; have Hb := Lib.hid (Hb.out.trans (hb.mono Hb.out.size)); obtain ⟨x0, x1, -⟩ := HX.out w4 Hb.out; clear hb)
    | (go_at_call 19; refine (lives_any _).mono ?_; rintro e1 w6 ⟨rfl, hb⟩; have Hb := Lib.hid (Hb.out.trans (hb.mono Hb.out.size)); clear hb))
  exact HY.out _ (HX.out _ Hb.out).2.2
end
end
section
theorem Conn.mono {L : List Lk} {v w : Int} {x y : Nat} (h : Conn L v x y) (hw : v ≤ w) : Conn L w x y := fun s hs => h s fun l hl hv => hs l hl (by omega)
theorem Conn.link {L : List Lk} {l : Lk} {w : Int} (hl : l ∈ L) (hw : l.w ≤ w) : Conn L w l.a.toNat l.b.toNat := fun _ hs => hs l hl hw
theorem Conn.symm {L : List Lk} {w : Int} {x y : Nat} (h : Conn L w x y) : Conn L w y x := fun s hs => (h s hs).symm
theorem Conn.trans {L : List Lk} {w : Int} {x y z : Nat} (h : Conn L w x y) (k : Conn L w y z) : Conn L w x z := fun s hs => (h s hs).trans (k s hs)
theorem krun_app (L : List Lk) : ∀ (D rest : List Int) (c : Nat → Nat) (T : List Int), krun L stop0 (D ++ rest) c T = krun L stop0 rest (krun L stop0 D c T).2 (krun L stop0 D c T).1
  | [], _, _, _ => rfl
  | i :: D, rest, c, T => by
    rw [List.cons_append, krun]
    conv => rhs; rw [krun]
    split
    · exact krun_app L D rest c T
    · split
      · exact krun_app L D rest c T
      · rw [if_neg (show ¬ stop0 _ _ = true from fun h => by cases h), if_neg (show ¬ stop0 _ _ = true from fun h => by cases h)]
        exact krun_app L D rest _ _
theorem run_lab {L : List Lk} : ∀ {rest D T : List Int} {c : Nat → Nat}, Lab L D T c → (∀ x ∈ rest, ∃ l, L[x.toNat]? = some l) → Lab L (D ++ rest) (krun L stop0 rest c T).1 (krun L stop0 rest c T).2
  | [], D, T, c, h, _ => by rw [List.append_nil]; exact h
  | i :: r, D, T, c, h, hm => by
    obtain ⟨l, hl⟩ := hm i (by simp)
    have hm2 : ∀ x ∈ r, ∃ l, L[x.toNat]? = some l := fun x hx => hm x (by simp [hx])
    by_cases he : c l.a.toNat = c l.b.toNat
    · rw [krun_skip hl he]
      have := run_lab (rest := r) (h.skip hl he) hm2
      rwa [List.append_assoc] at this
    · rw [krun_go hl he rfl]
      have := run_lab (rest := r) (h.take hl) hm2
      rwa [List.append_assoc] at this
/-- Connected by light links: connected by the tree's light links. -/
theorem conn_tree {L : List Lk} {w : Int} {x y : Nat} (h : Conn L w x y) : ConnI L ((kruL L stop0).1.filter (fun i => decide (lkW L i ≤ w))) x y := by
  have hp := srt_perm L (idxs L.length)
  have hris : Ris L (srt L (idxs L.length)) := srt_ris (idxs_nodup _)
  obtain ⟨S, hS⟩ : ∃ S, srt L (idxs L.length) = S := ⟨_, rfl⟩
  have hm : ∀ z ∈ S, ∃ l, L[z.toNat]? = some l := fun z hz => by
    have := idxs_mem.1 (hp.subset (by rw [hS]; exact hz))
    exact ⟨_, List.getElem?_eq_getElem (by omega)⟩
  rw [hS] at hris
  obtain ⟨D, rest, hDr, hD, hR⟩ : ∃ D rest, S = D ++ rest ∧ (∀ i ∈ D, lkW L i ≤ w) ∧ ∀ i ∈ rest, w < lkW L i := by
    clear hm hS hp h
    induction S with
    | nil => exact ⟨[], [], rfl, by simp, by simp⟩
    | cons i S ih =>
      obtain ⟨h1, h2⟩ := List.pairwise_cons.1 hris
      by_cases e : lkW L i ≤ w
      · obtain ⟨D, rest, h3, h4, h5⟩ := ih h2
        refine ⟨i :: D, rest, by rw [h3]; rfl, fun j hj => ?_, h5⟩
        rcases List.mem_cons.1 hj with rfl | hj
        · exact e
        · exact h4 j hj
      · refine ⟨[], i :: S, rfl, by simp, fun j hj => ?_⟩
        rcases List.mem_cons.1 hj with rfl | hj
        · omega
        · have := h1 j hj; unfold klt at this; omega
  have hlab := run_lab (rest := D) (Lab.start L) (fun z hz => hm z (by rw [hDr]; simp [hz]))
  rw [List.nil_append] at hlab
  have hT : (kruL L stop0) = krun L stop0 rest (krun L stop0 D id []).2 (krun L stop0 D id []).1 := by
    unfold kruL; rw [hS, hDr]; exact krun_app L D rest id []
  obtain ⟨T', h1, -⟩ := krun_sub L stop0 rest (krun L stop0 D id []).2 (krun L stop0 D id []).1
  have hc : (krun L stop0 D id []).2 x = (krun L stop0 D id []).2 y := by
    have := h (fun z => decide ((krun L stop0 D id []).2 z = (krun L stop0 D id []).2 x)) (fun l hl hw => by
      obtain ⟨j, hj, e⟩ := List.getElem_of_mem hl
      have hjl : L[((j : Nat) : Int).toNat]? = some l := by rw [Int.toNat_natCast, List.getElem?_eq_getElem hj, e]
      have hjS : (j : Int) ∈ D ++ rest := by rw [← hDr, ← hS]; exact hp.symm.subset (idxs_mem.2 ⟨by omega, by omega⟩)
      have hjw : lkW L (j : Int) = l.w := by unfold lkW; rw [hjl]
      have hjD : (j : Int) ∈ D := by
        rcases List.mem_append.1 hjS with k | k
        · exact k
        · have := hR _ k; omega
      have := hlab.keep _ hjD l hjl
      show decide (_ = _) = decide (_ = _)
      rw [this])
    have h2 : decide ((krun L stop0 D id []).2 x = (krun L stop0 D id []).2 x) = decide ((krun L stop0 D id []).2 y = (krun L stop0 D id []).2 x) := this
    rw [decide_eq_true rfl] at h2
    exact (of_decide_eq_true h2.symm).symm
  refine (hlab.conn x y hc).more fun i hi => List.mem_filter.2 ⟨?_, decide_eq_true (hD i (hlab.sub i hi))⟩
  rw [hT, h1]
  exact List.mem_append_left _ hi
/-- Each link that is taken parts the notes: a mark that all other ones keep. -/
def Sid (L : List Lk) (T : List Int) : Prop := ∀ i ∈ T, ∃ l, L[i.toNat]? = some l ∧ ∃ s : Nat → Bool, s l.a.toNat ≠ s l.b.toNat ∧ ∀ j ∈ T, j ≠ i → ∀ m, L[j.toNat]? = some m → s m.a.toNat = s m.b.toNat
theorem Sid.take {L : List Lk} {D T : List Int} {c : Nat → Nat} {i : Int} {l : Lk} (hL : Lab L D T c) (h : Sid L T) (hl : L[i.toNat]? = some l) (hne : c l.a.toNat ≠ c l.b.toNat) : Sid L (T ++ [i]) := by
  have hk : ∀ j ∈ T, ∀ m, L[j.toNat]? = some m → c m.a.toNat = c m.b.toNat := fun j hj m hm => hL.keep j (hL.sub j hj) m hm
  intro k hk'
  by_cases hki : k = i
  · subst hki
    refine ⟨l, hl, fun z => decide (c z = c l.a.toNat), ?_, fun j hj hji m hm => ?_⟩
    · show decide (c l.a.toNat = c l.a.toNat) ≠ decide (c l.b.toNat = c l.a.toNat)
      rw [decide_eq_true rfl, decide_eq_false (fun h => hne h.symm)]; decide
    · rcases List.mem_append.1 hj with hj | hj
      · show decide (_ = _) = decide (_ = _)
        rw [hk j hj m hm]
      · exact absurd (by simpa using hj) hji
  · have hkT : k ∈ T := by
      rcases List.mem_append.1 hk' with h1 | h1
      · exact h1
      · exact absurd (by simpa using h1) hki
    obtain ⟨lk, hlk, s, hs1, hs2⟩ := h k hkT
    have hkk := hk k hkT lk hlk
    have key : ∀ (u v : Nat), c u ≠ c v → c u ≠ c lk.a.toNat → ((u = l.a.toNat ∧ v = l.b.toNat) ∨ (u = l.b.toNat ∧ v = l.a.toNat)) →
        ∃ l', L[k.toNat]? = some l' ∧ ∃ s : Nat → Bool, s l'.a.toNat ≠ s l'.b.toNat ∧ ∀ j ∈ T ++ [i], j ≠ k → ∀ m, L[j.toNat]? = some m → s m.a.toNat = s m.b.toNat := by
      intro u v huv huk hcase
      refine ⟨lk, hlk, fun z => if c z = c u then s v else s z, ?_, fun j hj hjk m hm => ?_⟩
      · show (if c lk.a.toNat = c u then s v else s lk.a.toNat) ≠ (if c lk.b.toNat = c u then s v else s lk.b.toNat)
        rw [if_neg (fun e => huk e.symm), if_neg (fun e => huk (by rw [hkk]; exact e.symm))]
        exact hs1
      · show (if c m.a.toNat = c u then s v else s m.a.toNat) = (if c m.b.toNat = c u then s v else s m.b.toNat)
        rcases List.mem_append.1 hj with hj | hj
        · rw [hk j hj m hm]
          by_cases e : c m.b.toNat = c u
          · rw [if_pos e, if_pos e]
          · rw [if_neg e, if_neg e]; exact hs2 j hj hjk m hm
        · have : j = i := by simpa using hj
          subst this
          rw [hl] at hm; injection hm with hm; subst hm
          rcases hcase with ⟨rfl, rfl⟩ | ⟨rfl, rfl⟩
          · rw [if_pos rfl, if_neg (fun e => huv e.symm)]
          · rw [if_neg (fun e => huv e.symm), if_pos rfl]
    by_cases e : c l.a.toNat = c lk.a.toNat
    · exact key l.b.toNat l.a.toNat (fun k => hne k.symm) (fun k => hne (e.trans k.symm)) (.inr ⟨rfl, rfl⟩)
    · exact key l.a.toNat l.b.toNat hne e (.inl ⟨rfl, rfl⟩)
theorem run_sid {L : List Lk} : ∀ {rest D T : List Int} {c : Nat → Nat}, Lab L D T c → Sid L T → (∀ x ∈ rest, ∃ l, L[x.toNat]? = some l) → Sid L (krun L stop0 rest c T).1
  | [], _, _, _, _, h, _ => h
  | i :: r, D, T, c, hL, h, hm => by
    obtain ⟨l, hl⟩ := hm i (by simp)
    have hm2 : ∀ x ∈ r, ∃ l, L[x.toNat]? = some l := fun x hx => hm x (by simp [hx])
    by_cases he : c l.a.toNat = c l.b.toNat
    · rw [krun_skip hl he]
      exact run_sid (rest := r) (hL.skip hl he) h hm2
    · rw [krun_go hl he rfl]
      exact run_sid (rest := r) (hL.take hl) (h.take hL hl he) hm2
theorem kruL_sid (L : List Lk) : Sid L (kruL L stop0).1 := by
  have hp := srt_perm L (idxs L.length)
  exact run_sid (Lab.start L) (fun i hi => by simp at hi) (fun x hx => by
    have := idxs_mem.1 (hp.subset hx)
    exact ⟨_, List.getElem?_eq_getElem (by omega)⟩)
/-- One step of the law's path. -/
def pstep (q : (Nat → Bool) × (Nat → Int)) (l : Lk) : (Nat → Bool) × (Nat → Int) :=
  if q.1 l.a.toNat = true ∧ q.1 l.b.toNat = false then (fun i => q.1 i || decide (i = l.b.toNat), fun i => if i = l.b.toNat then max (q.2 l.a.toNat) l.w else q.2 i)
  else if q.1 l.b.toNat = true ∧ q.1 l.a.toNat = false then (fun i => q.1 i || decide (i = l.a.toNat), fun i => if i = l.a.toNat then max (q.2 l.b.toNat) l.w else q.2 i)
  else q
/-- What the path has found: each note's value is the least weight; a link that parts is passed with both its ends. -/
structure PInv (L : List Lk) (T : List Int) (x : Nat) (q : (Nat → Bool) × (Nat → Int)) : Prop where
  at0 : q.1 x = true ∧ q.2 x = 0
  val : ∀ z, q.1 z = true → z ≠ x → SpcV L x z (q.2 z) ∧ 0 ≤ q.2 z
  cut : ∀ i ∈ T, ∀ l, L[i.toNat]? = some l → ∀ s : Nat → Bool, (∀ j ∈ T, j ≠ i → ∀ m, L[j.toNat]? = some m → s m.a.toNat = s m.b.toNat) → (∃ z, q.1 z = true ∧ s z ≠ s x) → q.1 l.a.toNat = true ∧ q.1 l.b.toNat = true
theorem pinv_put {L : List Lk} {T : List Int} {x u v : Nat} {q : (Nat → Bool) × (Nat → Int)} {i : Int} {l : Lk} (hok : LkOk L) (hT : T = (kruL L stop0).1) (hi : i ∈ T) (hl : L[i.toNat]? = some l)
    (huv : (u = l.a.toNat ∧ v = l.b.toNat) ∨ (u = l.b.toNat ∧ v = l.a.toNat)) (h : PInv L T x q) (hu : q.1 u = true) (hv : q.1 v = false) :
    PInv L T x (fun i => q.1 i || decide (i = v), fun i => if i = v then max (q.2 u) l.w else q.2 i) := by
  have hlm := List.mem_of_getElem? hl
  have hlw := hok l hlm
  have hvx : v ≠ x := fun e => by rw [e, h.at0.1] at hv; cases hv
  have hconn : ∀ w, l.w ≤ w → Conn L w u v := fun w hw => by
    rcases huv with ⟨rfl, rfl⟩ | ⟨rfl, rfl⟩
    · exact Conn.link hlm hw
    · exact (Conn.link hlm hw).symm
  refine ⟨⟨by show (q.1 x || _) = true; rw [h.at0.1]; rfl, by show (if x = v then _ else q.2 x) = 0; rw [if_neg (fun e => hvx e.symm)]; exact h.at0.2⟩, fun z hz hzx => ?_, fun j hj m hm s hs hex => ?_⟩
  · by_cases ezv : z = v
    · subst ezv
      show SpcV L x z (if z = z then max (q.2 u) l.w else q.2 z) ∧ 0 ≤ (if z = z then max (q.2 u) l.w else q.2 z)
      rw [if_pos rfl]
      refine ⟨.inr ⟨by omega, ?_, ?_, fun l' hl' hc => ?_⟩, by omega⟩
      · by_cases eux : u = x
        · rw [← eux]; exact hconn _ (by omega)
        · rcases (h.val u hu eux).1 with ⟨k1, -⟩ | ⟨k1, k2, -, -⟩
          · have := (h.val u hu eux).2; omega
          · exact (k2.mono (by omega)).trans (hconn _ (by omega))
      · by_cases hmx : q.2 u ≤ l.w
        · exact ⟨l, hlm, by omega⟩
        · have eux : u ≠ x := fun e => by rw [e, h.at0.2] at hmx; omega
          rcases (h.val u hu eux).1 with ⟨k1, -⟩ | ⟨-, -, ⟨l2, hl2, k3⟩, -⟩
          · have := (h.val u hu eux).2; omega
          · exact ⟨l2, hl2, by omega⟩
      · have hwl : l.w ≤ l'.w := by
          by_cases e : l.w ≤ l'.w
          · exact e
          · exfalso
            have hsid := kruL_sid L
            rw [← hT] at hsid
            obtain ⟨l2, hl2, s, hs1, hs2⟩ := hsid i hi
            rw [hl] at hl2; injection hl2 with hl2; subst hl2
            have hct := conn_tree hc
            rw [← hT] at hct
            have h1 := hct s (fun j hj m hm => by
              obtain ⟨hj1, hj2⟩ := List.mem_filter.1 hj
              have hjw : lkW L j = m.w := by unfold lkW; rw [hm]
              have hiw : lkW L i = l.w := by unfold lkW; rw [hl]
              have := of_decide_eq_true hj2
              exact hs2 j hj1 (fun e2 => by rw [e2, hiw] at this; omega) m hm)
            have h2 : s u = s x := by
              by_cases e2 : s u = s x
              · exact e2
              · have := h.cut i hi l hl s hs2 ⟨u, hu, e2⟩
                rcases huv with ⟨-, rfl⟩ | ⟨-, rfl⟩
                · rw [this.2] at hv; cases hv
                · rw [this.1] at hv; cases hv
            rcases huv with ⟨rfl, rfl⟩ | ⟨rfl, rfl⟩
            · exact hs1 (h2.trans h1)
            · exact hs1 (h1.symm.trans h2.symm)
        have hul : q.2 u ≤ l'.w := by
          by_cases eux : u = x
          · rw [eux, h.at0.2]; exact (hok l' hl').1
          · rcases (h.val u hu eux).1 with ⟨k1, -⟩ | ⟨-, -, -, k4⟩
            · have := (h.val u hu eux).2; omega
            · exact k4 l' hl' (hc.trans (hconn _ hwl).symm)
        omega
    · have hz' : q.1 z = true := by
        have : (q.1 z || decide (z = v)) = true := hz
        rw [decide_eq_false ezv, Bool.or_false] at this; exact this
      show SpcV L x z (if z = v then max (q.2 u) l.w else q.2 z) ∧ 0 ≤ (if z = v then max (q.2 u) l.w else q.2 z)
      rw [if_neg ezv]
      exact h.val z hz' hzx
  · obtain ⟨z, hz, hsz⟩ := hex
    have up : ∀ y, q.1 y = true → (q.1 y || decide (y = v)) = true := fun y hy => by rw [hy]; rfl
    by_cases ezv : z = v
    · subst ezv
      by_cases eji : j = i
      · subst eji
        rw [hl] at hm; injection hm with hm; subst hm
        show (q.1 l.a.toNat || decide (l.a.toNat = z)) = true ∧ (q.1 l.b.toNat || decide (l.b.toNat = z)) = true
        rcases huv with ⟨rfl, rfl⟩ | ⟨rfl, rfl⟩
        · exact ⟨up _ hu, by simp⟩
        · exact ⟨by simp, up _ hu⟩
      · have hsu : s u ≠ s x := by
          have := hs i hi (fun e => eji e.symm) l hl
          rcases huv with ⟨rfl, rfl⟩ | ⟨rfl, rfl⟩
          · rw [this]; exact hsz
          · rw [← this]; exact hsz
        obtain ⟨k1, k2⟩ := h.cut j hj m hm s hs ⟨u, hu, hsu⟩
        exact ⟨up _ k1, up _ k2⟩
    · have hz' : q.1 z = true := by
        have : (q.1 z || decide (z = v)) = true := hz
        rw [decide_eq_false ezv, Bool.or_false] at this; exact this
      obtain ⟨k1, k2⟩ := h.cut j hj m hm s hs ⟨z, hz', hsz⟩
      exact ⟨up _ k1, up _ k2⟩
theorem PInv.step {L : List Lk} {T : List Int} {x : Nat} {q : (Nat → Bool) × (Nat → Int)} {i : Int} {l : Lk} (h : PInv L T x q) (hok : LkOk L) (hT : T = (kruL L stop0).1) (hi : i ∈ T) (hl : L[i.toNat]? = some l) : PInv L T x (pstep q l) := by
  unfold pstep
  split
  · rename_i hc
    exact pinv_put hok hT hi hl (.inl ⟨rfl, rfl⟩) h hc.1 hc.2
  · split
    · rename_i hc
      exact pinv_put hok hT hi hl (.inr ⟨rfl, rfl⟩) h hc.1 hc.2
    · exact h
theorem pinv_start {L : List Lk} {T : List Int} {x : Nat} : PInv L T x (fun i => decide (i = x), fun _ => 0) :=
  ⟨⟨by simp, rfl⟩, fun z hz hzx => absurd (of_decide_eq_true hz) hzx, fun i _ l _ s _ ⟨z, hz, hs⟩ => by
    have : z = x := of_decide_eq_true hz
    subst this; exact absurd rfl hs⟩
/-- The marks go as those of the document's Reach. -/
theorem pstep_found (q : (Nat → Bool) × (Nat → Int)) (l : Lk) {most : Int} (hw : l.w ≤ most) : (pstep q l).1 = rstep most q.1 l := by
  funext i
  unfold pstep rstep
  cases ha : q.1 l.a.toNat <;> cases hb : q.1 l.b.toNat
  · simp
  · simp [hw]
    by_cases e : i = l.b.toNat
    · subst e; simp [hb]
    · simp [e]
  · simp [hw]
    by_cases e : i = l.a.toNat
    · subst e; simp [ha]
    · simp [e]
  · simp [hw]
    by_cases e : i = l.a.toNat
    · subst e; simp [ha]
    · by_cases e2 : i = l.b.toNat
      · subst e2; simp [hb]
      · simp [e, e2]
end
section
open Go.RowKit
def psweep (K : List Lk) (q : (Nat → Bool) × (Nat → Int)) : (Nat → Bool) × (Nat → Int) := K.foldl pstep q
def prounds (K : List Lk) : Nat → (Nat → Bool) × (Nat → Int) → (Nat → Bool) × (Nat → Int)
  | 0, q => q
  | k + 1, q => psweep K (prounds K k q)
def pstart (x : Nat) : (Nat → Bool) × (Nat → Int) := (fun i => decide (i = x), fun _ => 0)
def BlkI (W : World) (g n : Nat) (v : Nat → Int) : Prop := W.heap[g]? = some (.cells ((List.range n).map fun i => Value.int .i64 (v i)).toArray 3 (0, 0))
theorem BlkI.lt {W : World} {g n : Nat} {v : Nat → Int} (h : BlkI W g n v) : g < W.heap.size := (Array.getElem?_eq_some_iff.1 h).1
theorem BlkI.cell {W : World} {g n i : Nat} {v : Nat → Int} (h : BlkI W g n v) (hi : i < n) : W.cell? ⟨g, i, none⟩ = some (.int .i64 (v i)) := by
  rw [cell_of_row _ _ i _ _ (0, 0) h]; simp [hi]
theorem BlkI.frozen {W : World} {g n : Nat} {v : Nat → Int} (h : BlkI W g n v) (i : Nat) : W.frozen? ⟨g, i, none⟩ = false := by
  have h' : W.heap[g]? = some _ := h
  simp [World.frozen?, h']
theorem BlkI.set {W : World} {g n : Nat} {v : Nat → Int} (h : BlkI W g n v) (k : Nat) (u : Int) : BlkI (W.setCell ⟨g, k, none⟩ (.int .i64 u)) g n (fun i => if i = k then u else v i) := by
  have h' : W.heap[g]? = some _ := h
  have e : (((List.range n).map fun i => Value.int .i64 (v i))).set k (.int .i64 u) = (List.range n).map fun i => Value.int .i64 (if i = k then u else v i) := by
    refine List.ext_getElem (by simp) fun i h1 h2 => ?_
    rw [List.getElem_set]
    split
    · rename_i e; subst e; simp
    · rename_i e
      simp [show ¬ i = k from fun h => e h.symm]
  unfold BlkI
  simp only [World.setCell, Array.getElem?_modify, h']
  simp [e]
theorem BlkI.made {W : World} {g k : Nat} (h : W.heap[g]? = some (.cells (madeCells #[Value.int .i64 0] k) 3 (0, 0))) : BlkI W g k (fun _ => 0) := by
  unfold BlkI
  rw [h]
  congr 2
  apply Array.toList_inj.1
  rw [toList_madeCells_one]
  exact List.ext_getElem (by simp) fun i _ _ => by simp
theorem BlkI.kx {S : Nat → Prop} {W W' : World} {g n : Nat} {v : Nat → Int} (h : BlkI W g n v) (hk : Kx S W W') (hs : ¬ S g) : BlkI W' g n v := (hk.block g h.lt hs).trans h
theorem psweep_take {L : List Lk} {TL : List Int} {i : Nat} {x : Int} {l : Lk} {q : (Nat → Bool) × (Nat → Int)} (hx : TL[i]? = some x) (hl : L[x.toNat]? = some l) : psweep (lksL L (TL.take (i + 1))) q = pstep (psweep (lksL L (TL.take i)) q) l := by
  obtain ⟨hi, rfl⟩ := List.getElem?_eq_some_iff.1 hx
  rw [List.take_succ_eq_append_getElem hi, lksL_snoc hl]
  unfold psweep
  rw [List.foldl_append]; rfl
/-- Both rows at once. -/
structure Pq (W : World) (g n : Nat) (q : (Nat → Bool) × (Nat → Int)) : Prop where
  f : BlkF W g n q.1
  w : BlkI W (g + 1) n q.2
theorem Pq.below {W W' : World} {g n : Nat} {q : (Nat → Bool) × (Nat → Int)} (h : Pq W g n q) (hb : Below W.heap.size W W') : Pq W' g n q := ⟨(hb.block _ h.f.lt).trans h.f, (hb.block _ h.w.lt).trans h.w⟩
theorem Pq.put {W : World} {g n : Nat} {q : (Nat → Bool) × (Nat → Int)} (h : Pq W g n q) (k : Nat) (u : Int) : Pq (((W.setCell ⟨g, k, none⟩ (.bool true)).setCell ⟨g + 1, k, none⟩ (.int .i64 u)).drew) g n (fun i => q.1 i || decide (i = k), fun i => if i = k then u else q.2 i) := by
  have k1 : Kx (fun j => j = g) W (W.setCell ⟨g, k, none⟩ (.bool true)) := kx_setg (Kx.refl (fun j => j = g) W) k _
  have hw := h.w.kx k1 (by omega)
  have k2 : Kx (fun j => j = g + 1) (W.setCell ⟨g, k, none⟩ (.bool true)) ((W.setCell ⟨g, k, none⟩ (.bool true)).setCell ⟨g + 1, k, none⟩ (.int .i64 u)) := kx_setg (Kx.refl (fun j => j = g + 1) _) k _
  exact ⟨((h.f.set k).kx k2 (by omega)).drew, hw.set k u⟩
end
section
theorem psweep_found {most : Int} : ∀ {K : List Lk} {q : (Nat → Bool) × (Nat → Int)}, (∀ l ∈ K, l.w ≤ most) → (psweep K q).1 = sweep K most q.1
  | [], _, _ => rfl
  | l :: K, q, h => by
    show (psweep K (pstep q l)).1 = sweep K most (rstep most q.1 l)
    rw [psweep_found (fun l' hl' => h l' (by simp [hl'])), pstep_found q l (h l (by simp))]
theorem prounds_found {K : List Lk} {most : Int} (h : ∀ l ∈ K, l.w ≤ most) (q : (Nat → Bool) × (Nat → Int)) : ∀ k, (prounds K k q).1 = rounds K most k q.1
  | 0 => rfl
  | k + 1 => by
    show (psweep K (prounds K k q)).1 = sweep K most (rounds K most k q.1)
    rw [psweep_found h, prounds_found h q k]
theorem psweep_inv {L : List Lk} {T : List Int} {x : Nat} (hok : LkOk L) (hT : T = (kruL L stop0).1) : ∀ {U : List Int} {q : (Nat → Bool) × (Nat → Int)}, (∀ i ∈ U, i ∈ T ∧ ∃ l, L[i.toNat]? = some l) → PInv L T x q → PInv L T x (psweep (lksL L U) q)
  | [], _, _, h => h
  | i :: U, q, hU, h => by
    obtain ⟨hi, l, hl⟩ := hU i (by simp)
    have e : lksL L (i :: U) = l :: lksL L U := by unfold lksL; rw [List.filterMap_cons, hl]
    rw [e]
    exact psweep_inv hok hT (fun j hj => hU j (by simp [hj])) (h.step hok hT hi hl)
theorem prounds_inv {L : List Lk} {T U : List Int} {x : Nat} {q : (Nat → Bool) × (Nat → Int)} (hok : LkOk L) (hT : T = (kruL L stop0).1) (hU : ∀ i ∈ U, i ∈ T ∧ ∃ l, L[i.toNat]? = some l) (h : PInv L T x q) : ∀ k, PInv L T x (prounds (lksL L U) k q)
  | 0 => h
  | k + 1 => psweep_inv hok hT hU (prounds_inv hok hT hU h k)
/-- What the path along the whole tree finds. -/
theorem path_val {L : List Lk} {N x y : Nat} {T : List Int} (hp : Pln (N : Nat) L) (hT : (kruL L stop0).1 = T) (hTN : T.length + 1 = N) (hx : x < N) (hy : y < N) :
    (prounds (lksL L (isrt T)) N (pstart x)).1 y = true ∧ (x ≠ y → SpcV L x y ((prounds (lksL L (isrt T)) N (pstart x)).2 y) ∧ 0 ≤ (prounds (lksL L (isrt T)) N (pstart x)).2 y) ∧ (x = y → (prounds (lksL L (isrt T)) N (pstart x)).2 y = 0) := by
  have hok : LkOk L := fun l hl => (hp.lk l hl).2.2
  have hper : (isrt T).Perm T := List.mergeSort_perm _ _
  have hnd := kruL_nodup L stop0
  rw [hT] at hnd
  have hU : ∀ i ∈ isrt T, i ∈ T ∧ ∃ l, L[i.toNat]? = some l := fun i hi => by
    have h1 := hper.subset hi
    have h2 := hnd.2 i h1
    exact ⟨h1, _, List.getElem?_eq_getElem (by omega)⟩
  have hinv := prounds_inv (x := x) hok hT.symm hU pinv_start N
  have hw : ∀ l ∈ lksL L (isrt T), l.w ≤ 1000000 := fun l hl => (hp.lk l (lksL_mem hl)).2.2.2
  have hp1 := srt_perm L (idxs L.length)
  have hlab := run_lab (rest := srt L (idxs L.length)) (Lab.start L) (fun z hz => by
    have := idxs_mem.1 (hp1.subset hz)
    exact ⟨_, List.getElem?_eq_getElem (by omega)⟩)
  rw [List.nil_append] at hlab
  have hLM : LkM N L := fun l hl => by have := hp.lk l hl; omega
  have hcon : ConnI L T x y := by
    have hc : (kruL L stop0).2 x = (kruL L stop0).2 y := by
      have key : ∀ {r : List Int} {c : Nat → Nat} {U : List Int}, Cnt N c U.length → Cnt N (krun L stop0 r c U).2 (krun L stop0 r c U).1.length := by
        intro r
        induction r with
        | nil => intro c U h; exact h
        | cons i r ih =>
          intro c U h
          unfold krun
          split
          · exact ih h
          · rename_i l hl
            obtain ⟨ha, hb⟩ := hLM l (List.mem_of_getElem? hl)
            split
            · exact ih h
            · rename_i hne
              rw [if_neg (show ¬ stop0 _ _ = true from fun h => by cases h)]
              exact ih (U := U ++ [i]) (by rw [List.length_append]; exact h.take ha hb hne)
      have hcnt := key (r := srt L (idxs L.length)) (c := id) (U := []) (Cnt.start N)
      have hlen : (krun L stop0 (srt L (idxs L.length)) id []).1.length + 1 = N := by
        have : (krun L stop0 (srt L (idxs L.length)) id []).1 = T := hT
        rw [this]; exact hTN
      exact hcnt.all hlen hx hy
    rw [← hT]
    exact hlab.conn x y hc
  have hfound : (prounds (lksL L (isrt T)) N (pstart x)).1 y = true := by
    rw [prounds_found hw]
    show reachF (lksL L (isrt T)) 1000000 N x y = true
    rw [reach_iff (fun l hl => by have := hp.lk l (lksL_mem hl); omega) hx, conn_lks (fun l hl => (hp.lk l hl).2.2.2)]
    exact hcon.more fun i hi => hper.symm.subset hi
  exact ⟨hfound, fun hne => hinv.val y hfound (fun e => hne e.symm), fun e => by subst e; exact hinv.at0.2⟩
theorem SpcV.symm {L : List Lk} {x y : Nat} {b : Int} (h : SpcV L x y b) : SpcV L y x b := by
  rcases h with ⟨h1, h2⟩ | ⟨h1, h2, h3, h4⟩
  · exact .inl ⟨h1, fun l hl hc => h2 l hl hc.symm⟩
  · exact .inr ⟨h1, h2.symm, h3, fun l hl hc => h4 l hl hc.symm⟩
open Go.RowKit in
/-- Passage at two notes of a connected plan, whose least weight is known. -/
theorem pas_known (N f t : Nat) (v : Int) (A : Option Addr) (n c : Nat) (L : List Lk) (w : World) (hS : SlE linkE 3 w A n L) (hp : Pln (N : Nat) L) (hf : f < N) (ht : t < N) (hv : (f ≠ t → SpcV L f t v ∧ 0 ≤ v) ∧ (f = t → v = 0)) :
    Calls Try.prog 29 #[.int .i64 (N : Nat), .slice A n c, .int .i64 (f : Nat), .int .i64 (t : Nat)] w fun e w' => e = .returned (.tuple #[.int .i64 v, .int .i64 0]) ∧ Below w.heap.size w w' := by
  by_cases e : f = t
  · subst e
    rw [hv.2 rfl]
    refine pas_one (N : Nat) (f : Nat) A n c L w hS (by rw [hS.1]; have := hp.len; omega) ?_
    unfold pasB
    rw [(planB_iff _ _).2 hp, inB_iff.2 ⟨by omega, by omega⟩]; rfl
  · refine (pas_ok N f t A n c L w hS hp hf ht e).mono ?_
    rintro r w' ⟨⟨b, hb, rfl⟩, hw⟩
    obtain ⟨h1, h2⟩ := hv.1 e
    rw [hb.uniq h1, if_neg (by omega)]
    exact ⟨rfl, hw⟩
end
end Go.Proofs.Ytgmphiklkllnlaa
