/-
  Passage: the function that it hands to kruskal, the plain law, contracts of both Passages and of clavecinlaw03.TemperPassages; each states its condition.
-/
import Derived.Test.YtgmphiklkllnlaaTSb
import Derived.Test.YtgmphiklkllnlaaTSc
import Derived.Test.YtgmphiklkllnlaaTLBe
namespace Go.Proofs.Ytgmphiklkllnlaa
section
open Go.RowKit
def stopP (f t : Nat) (_ : List Int) (c : Nat → Nat) : Bool := decide (c f = c t)
def Wst (W : World) (b : Nat) (v : Int) : Prop := W.heap[b]? = some (.cells #[.int .i64 v] 3 (0, 0))
theorem Wst.kx {S : Nat → Prop} {W W' : World} {b : Nat} {v : Int} (h : Wst W b v) (hk : Kx S W W') (hs : ¬ S b) : Wst W' b v := (hk.block b (Array.getElem?_eq_some_iff.1 h).1 hs).trans h
theorem Wst.cell {W : World} {b : Nat} {v : Int} (h : Wst W b v) : W.cell? ⟨b, 0, none⟩ = some (.int .i64 v) ∧ (∀ j, W.frozen? ⟨b, j, none⟩ = false) := cells1 h
theorem Wst.set {W : World} {b : Nat} {v : Int} (h : Wst W b v) (u : Int) : Wst (W.setCell ⟨b, 0, none⟩ (.int .i64 u)) b u := by
  have h' : W.heap[b]? = some _ := h
  unfold Wst
  simp only [World.setCell, Array.getElem?_modify, h']
  simp
/-- What Passage's function leans on. -/
structure Pbx (W : World) (L : List Lk) (A : Option Addr) (n c bf bt bk bs f t : Nat) : Prop where
  ok : LkOk L
  f : Wst W bf f
  t : Wst W bt t
  k : W.heap[bk]? = some (.cells #[.slice A n c] 34 (0, 0))
  sl : SlE linkE 3 W A n L
  nf : bf ≠ bs
  nt : bt ≠ bs
  nk : bk ≠ bs
  nA : 0 < n → ∀ a, A = some a → a.block ≠ bs
theorem Pbx.kx {S : Nat → Prop} {W W' : World} {L : List Lk} {A : Option Addr} {n c bf bt bk bs f t : Nat} (h : Pbx W L A n c bf bt bk bs f t) (hk : Kx S W W') (hs : ∀ j, S j → j = bs) : Pbx W' L A n c bf bt bk bs f t :=
  ⟨h.ok, h.f.kx hk (fun k => h.nf (hs _ k)), h.t.kx hk (fun k => h.nt (hs _ k)), (hk.block bk (Array.getElem?_eq_some_iff.1 h.k).1 (fun k => h.nk (hs _ k))).trans h.k, slE_kxL h.sl hk (fun h0 a ha k => h.nA h0 a ha (hs _ k)), h.nf, h.nt, h.nk, h.nA⟩
set_option maxRecDepth 8000 in
set_option maxHeartbeats 8000000 in
theorem pcb_any (L : List Lk) (A : Option Addr) (n c bf bt bk bo bs i f t : Nat) (p cc h : Nat → Nat) (w : World) (hP : Pbx w L A n c bf bt bk bs f t) (hO : Wst w bo (-1)) (hos : bo ≠ bs) (hB : BlkA w bs p) (hU : UF p cc h) (hf : f < 64) (ht : t < 64) (hi : i < n) :
    Calls Try.prog 58 #[.int .i64 (i : Nat), .pointer (some ⟨bs, 0, none⟩), .pointer (some ⟨bf, 0, none⟩), .pointer (some ⟨bt, 0, none⟩), .pointer (some ⟨bk, 0, none⟩), .pointer (some ⟨bo, 0, none⟩)] w
      fun e w' => e = .returned (.bool (decide (cc f = cc t))) ∧ Wst w' bo (if cc f = cc t then lkW L (i : Nat) else -1) ∧ (∃ p', BlkA w' bs p' ∧ UF p' cc h) ∧ Kx (fun j => j = bo ∨ j = bs) w w' := by
  refine calls_cps ?_
  intro R hR
  obtain ⟨rf, hf1, hf2, hf3⟩ := hU.root (h f) f (Nat.le_refl _) hf
  obtain ⟨rt, ht1, ht2, ht3⟩ := hU.root (h t) t (Nat.le_refl _) ht
  obtain ⟨ι, mk, hmk2⟩ := clsP_ex (fun W' => Kx (fun j => j = bs) w W' ∧ ∃ p', BlkA W' bs p' ∧ UF p' cc h ∧ Rts p p')
  have hd : ∃ x, { w with drawn := w.drawn + 1 } = mk x := (hmk2 _).1 ⟨(Kx.refl _ w).drewN 1, p, hB, hU, Rts.refl p⟩
  have hnei : Nonempty ι := let ⟨y, _⟩ := hd; ⟨y⟩
  have hmy := fun y => (hmk2 (mk y)).2 ⟨y, rfl⟩
  have hcall : ∀ (v rv : Nat), v < 64 → rv < 64 → p rv = rv → cc rv = cc v → ∀ y, Calls Try.prog 59 #[.pointer (some ⟨bs, 0, none⟩), .int .i64 (v : Nat)] (mk y) fun e w'' => e = .returned (.int .i64 (rv : Nat)) ∧ ∃ z, w'' = mk z := by
    intro v rv hv hrv h2 h3 y
    obtain ⟨hk0, p', hB, hU, hR⟩ := hmy y
    refine (root_any bs p' cc h v hv (mk y) hB hU).mono ?_
    rintro e w'' ⟨r', p'', rfl, k1, k2, k3, k4, k5, k6, k7⟩
    have e1 : r' = rv := hU.one r' rv k1 hrv k2 ((hR rv hrv).1 h2) (k3.trans h3.symm)
    exact ⟨by rw [e1], (hmk2 _).1 ⟨hk0.trans k7 (fun _ _ h => h), p'', k4, k5, hR.trans k6⟩⟩
  have HCf := Lib.hid (hcall f rf hf hf1 hf2 hf3)
  have HCt := Lib.hid (hcall t rt ht ht1 ht2 ht3)
  have HPy := Lib.hid (fun y => hP.kx (hmy y).1 (fun j hj => hj))
  have HOy := Lib.hid (fun y => hO.kx (hmy y).1 hos)
  have g1 := fun y => (HPy.out y).f.cell.1
  have g2 := fun y => (HPy.out y).t.cell.1
  have Hmy := Lib.hid hmy
  have Hrr := Lib.hid (show rf = rt ↔ cc f = cc t from ⟨fun e => by rw [← hf3, ← ht3, e], fun e => hU.one rf rt hf1 ht1 hf2 ht2 (by rw [hf3, ht3, e])⟩)
  clear hP hO hB hU hcall hmy hf2 hf3 ht2 ht3
  go_enter Try.func58, Try.ntmps58
  go_upto_region 1 with fail
  refine wp_region_cls (C := fun w' => ∃ x, w' = mk x) (by kernel_rfl) (by kernel_rfl) hd ?_
  repeat (go_big_quiet_step ((go_at_call 59; first | with_reducible exact HCf.out _ | with_reducible exact HCt.out _)))
  refine wpQuiet_nil ?_
  intro _ hw'
  obtain ⟨y, rfl⟩ := hw'
  obtain ⟨hk7, p', hB7, hU7, -⟩ := Hmy.out y
  have hP7 := HPy.out y
  have hO7 := HOy.out y
  obtain ⟨W7, hW7⟩ : ∃ W7, mk y = W7 := ⟨_, rfl⟩
  rw [hW7] at hk7 hB7 hP7 hO7 ⊢
  have HB7 := Lib.hid hB7
  have HU7 := Lib.hid hU7
  have Hk7 := Lib.hid hk7
  clear hW7 Hmy HPy HOy g1 g2 HCf HCt hd hnei hB7 hU7 hk7
  obtain ⟨o0, of⟩ := hO7.cell
  by_cases hrr : rf = rt
  · have hcc := Hrr.out.1 hrr
    subst hrr
    obtain ⟨b, o, l, rfl, hbl, hs, p0, p1, p2⟩ := hP7.sl.at3 hi
    have k0 := (cells1 hP7.k).1
    have hw := hP7.ok l (List.mem_of_getElem? hs)
    have hlw : lkW L (i : Nat) = l.w := by unfold lkW; rw [Int.toNat_natCast, hs]
    have i0 : (0 : Int) ≤ (i : Int) := by omega
    have i1 : (i : Int) < (n : Int) := by omega
    have hset := hO7.set l.w
    obtain ⟨o1, -⟩ := hset.cell
    have hk8 : Kx (fun j => j = bo) W7 (W7.setCell ⟨bo, 0, none⟩ (.int .i64 l.w)) := kx_setb _ _ _ _
    have Hf := Lib.hid (hR.out (.returned (.bool true)) (W7.setCell ⟨bo, 0, none⟩ (.int .i64 l.w)) ⟨by rw [decide_eq_true hcc], by rw [if_pos hcc, hlw]; exact hset, ⟨p', HB7.out.kx hk8 (by omega), HU7.out⟩, (Hk7.out.mono (T := fun j => j = bo ∨ j = bs) (fun j hj => .inr hj)).trans (hk8.mono (T := fun j => j = bo ∨ j = bs) (fun j hj => .inl hj)) (fun _ _ h => h)⟩)
    obtain ⟨wl, hwl⟩ : ∃ wl, l.w = wl := ⟨_, rfl⟩
    obtain ⟨hw1, hw2⟩ := hw
    rw [hwl] at hw1 hw2 Hf o1 p2
    clear hR hset hk8 hlw hs hcc hwl
    go_wp2_with fail
    exact Hf.out
  · have hcc : ¬ cc f = cc t := fun e => hrr (Hrr.out.2 e)
    have hri : ¬ (rf : Int) = (rt : Int) := by omega
    have Hf := Lib.hid (hR.out (.returned (.bool false)) W7 ⟨by rw [decide_eq_false hcc], by rw [if_neg hcc]; exact hO7, ⟨p', HB7.out, HU7.out⟩, Hk7.out.mono (T := fun j => j = bo ∨ j = bs) (fun j hj => .inr hj)⟩)
    clear hR hcc hrr
    go_wp2_with fail
    exact Hf.out
end
section
open Go.RowKit
/-- What is noted: the weight of the link at which the two notes are connected, or -1. -/
def PasR (L : List Lk) (f t : Nat) (v : Int) : Prop :=
  (v = -1 ∧ (kruL L (stopP f t)).2 f ≠ (kruL L (stopP f t)).2 t) ∨ ∃ T i, (kruL L (stopP f t)).1 = T ++ [i] ∧ (kruL L (stopP f t)).2 f = (kruL L (stopP f t)).2 t ∧ v = lkW L i
set_option maxRecDepth 8000 in
set_option maxHeartbeats 8000000 in
theorem krP_any (L : List Lk) (hL : Lks L) (hLn : L.length ≤ 512) (A : Option Addr) (n c bo bf bt bk f t : Nat) (w : World) (hS : SlE linkE 3 w A n L) (hbo : Wst w bo (-1)) (hA : 0 < n → ∀ a, A = some a → a.block ≠ bo)
    (hP : ∀ W, Kx (fun j => j = bo ∨ w.heap.size ≤ j) w W → Pbx W L A n c bf bt bk (w.heap.size + 1) f t) (hf : f < 64) (ht : t < 64) (hft : f ≠ t) :
    Calls Try.prog 53 #[.slice A n c, .func (.func 58) #[] #[.pointer (some ⟨bf, 0, none⟩), .pointer (some ⟨bt, 0, none⟩), .pointer (some ⟨bk, 0, none⟩), .pointer (some ⟨bo, 0, none⟩)]] w
      fun e w' => e = .returned (.tuple #[]) ∧ (∃ v, Wst w' bo v ∧ PasR L f t v) ∧ Kx (fun j => j = bo) w w' := by
  refine calls_cps ?_
  intro R hR
  have HS := Lib.hid hS
  have Hbo := Lib.hid hbo
  have HP := Lib.hid hP
  have HA := Lib.hid hA
  have HL := Lib.hid hL
  clear hS hbo hP hA hL
  go_enter Try.func53, Try.ntmps53
  have hbl1 : bo < w.heap.size := (Array.getElem?_eq_some_iff.1 Hbo.out).1
  have hal := heap_alloc_new w (.cells #[.slice A n c] 34)
  have hbw := below_new w (.cells #[.slice A n c] 34)
  have hsz : (w.alloc (.cells #[.slice A n c] 34)).heap.size = w.heap.size + 1 := by simp
  go_wp2_with fail
  obtain ⟨w1, hw1⟩ : ∃ w1, w.alloc (.cells #[.slice A n c] 34) = w1 := ⟨_, rfl⟩
  obtain ⟨bl, hbl⟩ : ∃ bl, w.heap.size = bl := ⟨_, rfl⟩
  rw [hw1] at hal hbw hsz ⊢
  rw [hbl] at hal hbw hsz hbl1 HP ⊢
  have Hal := Lib.hid hal
  have Hbw := Lib.hid hbw
  clear hw1 hal hbw
  refine wp_scope_straight ?_
  refine wp_seq ?_
  refine wp_region_list ?_
  refine wpList_zero64 (by rfl) (by rfl) ?_
  intro w2 hq hb2 hs2
  rw [hsz] at hq hb2 hs2 ⊢
  have Hal2 := Lib.hid ((hb2.block bl (by omega)).trans Hal.out)
  have Hbw2 := Lib.hid (Hbw.out.trans (hb2.mono (by omega)))
  have Hq := Lib.hid hq
  clear hq hb2 hsz Hal Hbw
  go_wp2_with fail
  go_loopw [5, 12] (fun s5 s12 wr => ∃ k : Nat, s12 = .int .i64 (k : Nat) ∧ k ≤ 64 ∧ Hid (BlkA wr (bl + 1) (zto k)) ∧ Kx (fun j => j = bl + 1) w2 wr) (fun _ i _ => 64 - (intOf i).toNat)
  case atStart => exact ⟨0, rfl, by omega, Hq, Kx.refl _ _⟩
  case round =>
    obtain ⟨k, rfl, hk, HB, hkx⟩ := hrel
    have Hkx := Lib.hid hkx
    clear hkx
    by_cases hlt : k < 64
    · have hlt' : (k : Int) < 64 := by omega
      have hk0 : (0 : Int) ≤ (k : Int) := by omega
      have g0 := HB.out.cell hlt
      have f0 := HB.out.frozen
      have Hs := Lib.hid (show BlkA (wr.setCell ⟨bl + 1, k, none⟩ (.int .i64 (k : Nat))) (bl + 1) (zto (k + 1)) from by rw [← zto_succ]; exact HB.out.set k k)
      have Hk2 := Lib.hid (kx_setg Hkx.out k (.int .i64 (k : Nat)))
      go_wp2_with fail
      refine ⟨⟨k + 1, by go_num, by omega, Hs, Hk2.out⟩, by simp [intOf] <;> omega⟩
    · obtain rfl : k = 64 := by omega
      have HB0 := Lib.hid (HB.out.congr (q := id) (fun i hi => by unfold zto; rw [if_pos hi]; rfl))
      clear HB
      have hn19 : n ≤ 512 := by rw [HS.out.1]; exact hLn
      have c0 := (cells1 ((Hkx.out.block bl (by omega) (by omega)).trans Hal2.out)).1
      have hmk := run_mkInt n (by omega)
      have hszr : bl + 2 ≤ wr.heap.size := by have := Hkx.out.size; omega
      have hnew := heap_alloc_new wr (.cells (madeCells #[Value.int .i64 0] n) 3)
      have hbnew := below_new wr (.cells (madeCells #[Value.int .i64 0] n) 3)
      go_wp2_with fail
      clear hmk c0
      obtain ⟨ob, hob⟩ : ∃ ob, wr.heap.size = ob := ⟨_, rfl⟩
      obtain ⟨w4, hw4⟩ : ∃ w4, wr.alloc (.cells (madeCells #[Value.int .i64 0] n) 3) = w4 := ⟨_, rfl⟩
      rw [hw4] at hnew hbnew ⊢
      rw [hob] at hnew hszr ⊢
      have Hb4 := Lib.hid (show Blk w4 ob (idxs 0 ++ List.replicate (n - 0) 0) from Blk.made hnew)
      have HB4 := Lib.hid (show BlkA w4 (bl + 1) id from (hbnew.block _ (by omega)).trans HB0.out)
      have Hkx4 := Lib.hid (show Kx (fun j => j = bl + 1) w2 w4 from Hkx.out.below hbnew)
      clear hnew hbnew hw4 Hkx HB0 hob hk
      go_loopw [7, 24] (fun s7 s24 W => ∃ k : Nat, s24 = .int .i64 (k : Nat) ∧ k ≤ n ∧ Hid (Blk W ob (idxs k ++ List.replicate (n - k) 0)) ∧ Kx (fun j => j = ob) w4 W) (fun _ i _ => n - (intOf i).toNat)
      case atStart => exact ⟨0, rfl, by omega, Hb4, Kx.refl _ _⟩
      case round =>
        obtain ⟨k, rfl, hk, HB, hkx⟩ := hrel
        have Hkx := Lib.hid hkx
        clear hkx
        by_cases hlt : k < n
        · have hlt' : (k : Int) < (n : Int) := by omega
          have hk0 : (0 : Int) ≤ (k : Int) := by omega
          have g0 := HB.out.cell (idxs_get hlt)
          have f0 := HB.out.frozen
          have Hs := Lib.hid (show Blk (wr.setCell ⟨ob, k, none⟩ (.int .i64 (k : Nat))) ob (idxs (k + 1) ++ List.replicate (n - (k + 1)) 0) from by rw [← idxs_set hlt]; exact HB.out.set k (k : Int))
          have Hk2 := Lib.hid (kx_setg Hkx.out k (.int .i64 (k : Nat)))
          go_wp2_with fail
          refine ⟨⟨k + 1, by go_num, by omega, Hs, Hk2.out⟩, by simp [intOf] <;> omega⟩
        · obtain rfl : k = n := by omega
          have HO := Lib.hid (show Blk wr ob (idxs k) from by have := HB.out; rwa [Nat.sub_self, List.replicate_zero, List.append_nil] at this)
          clear HB
          have Hkw := Lib.hid (show Kx (fun j => bl ≤ j) w wr from (((Kx.refl _ w).below (by rw [hbl]; exact Hbw2.out) : Kx (fun j => bl ≤ j) w w2).trans Hkx4.out (fun j _ hj => by omega)).trans Hkx.out (fun j hj hj2 => by omega))
          have Hbox := Lib.hid (show wr.heap[bl]? = some (.cells #[.slice A k c] 34 (0, 0)) from (Hkx.out.block bl (by have := Hkx4.out.size; omega) (by omega)).trans ((Hkx4.out.block bl (by omega) (by omega)).trans Hal2.out))
          have HBA := Lib.hid (HB4.out.kx Hkx.out (by omega))
          have HS5 := Lib.hid (slE_kxL HS.out Hkw.out (fun hn a ha => by
            obtain ⟨b', o', e', hb', _⟩ := HS.out.2.2 hn
            rw [ha] at e'; injection e' with e'; subst e'; show ¬ bl ≤ b'; omega))
          have hAlt : 0 < k → ∀ a, A = some a → a.block < bl := fun hn a ha => by
            obtain ⟨b', o', e', hb', _⟩ := HS.out.2.2 hn
            rw [ha] at e'; injection e' with e'; subst e'; show b' < bl; omega
          have HAlt := Lib.hid hAlt
          clear hAlt
          have HSo := Lib.hid (sort2_any L A k c bl ob k k (idxs k) wr ⟨HL.out.ok, Hbox.out, by omega, HS5.out, fun hn a ha => by have := HAlt.out hn a ha; omega⟩ HO.out (idxs_len k).symm (by omega) (Nat.le_refl _) (fun x hx => idxs_mem.1 hx) (idxs_stb L k))
          have Hbo5 := Lib.hid ((Hkw.out.block bo (by omega) (by omega)).trans Hbo.out)
          have Hbl := Lib.hid hbl
          clear hbl Hbo Hal2 Hbw2 Hq Hb4 HB4
          go_wp2_with (go_at_call 70; refine HSo.out.mono ?_; rintro e w6 ⟨rfl, r, hr1, hr2, hr3, hr4⟩; have Hr := Lib.hid (And.intro hr1 hr2); have HO6 := Lib.hid hr3; have Hk6 := Lib.hid hr4; clear hr1 hr2 hr3 hr4)
          have Hlk := Lib.hid (show k = L.length from HS.out.1)
          have hr : r = srt L (idxs L.length) := ris_uniq (by rw [← Hlk.out]; exact Hr.out.2.trans (srt_perm L _).symm) Hr.out.1 (srt_ris (idxs_nodup _))
          have Hlr := Lib.hid (show r.length = k by rw [Hr.out.2.length_eq, idxs_len])
          have Hrm := Lib.hid (show ∀ x ∈ r, 0 ≤ x ∧ x < k from fun x hx => idxs_mem.1 (Hr.out.2.subset hx))
          have Hrs := Lib.hid hr
          clear hr
          have hob5 : ob < wr.heap.size := HO.out.lt
          have HB6 := Lib.hid (HBA.out.kx Hk6.out (by omega))
          have Hbox6 := Lib.hid ((Hk6.out.block bl (by omega) (by omega)).trans Hbox.out)
          have Hbo6 := Lib.hid ((Hk6.out.block bo (by omega) (by omega)).trans Hbo5.out)
          have HS6 := Lib.hid (slE_kxL HS5.out Hk6.out (fun hn a ha => by have := HAlt.out hn a ha; omega))
          have Hall := Lib.hid (show ∀ W, Kx (fun j => j = bo ∨ j = bl + 1) w6 W → Kx (fun j => j = bo ∨ bl ≤ j) w W from fun W hkx => ((Hkw.out.mono (T := fun j => j = bo ∨ bl ≤ j) (fun j hj => .inr hj)).trans (Hk6.out.mono (T := fun j => j = bo ∨ bl ≤ j) (fun j hj => .inr (by omega))) (fun j _ hj => hj)).trans hkx (fun j _ hj => by omega))
          have Hfin := Lib.hid (show ∀ W v, Wst W bo v → PasR L f t v → Kx (fun j => j = bo ∨ j = bl + 1) w6 W → R (.returned (.tuple #[])) W from fun W v hn hT hkx => hR.out _ _ ⟨rfl, ⟨v, hn, hT⟩, Hall.out W hkx |> fun h => ⟨h.os, h.tape, h.output, h.size, fun j hj hn => h.block j hj (by rw [Hbl.out] at hj; omega)⟩⟩)
          obtain ⟨base, hbase⟩ : ∃ base, w6.heap.size = base := ⟨_, rfl⟩
          have hsz6 : ob < base := by have := Hk6.out.size; omega
          have Hst := Lib.hid (show BlkA w6 (bl + 1) id ∧ UF id id id ∧ krun L (stopP f t) (r.drop 0) id [] = kruL L (stopP f t) ∧ (Wst w6 bo (-1) ∧ id f ≠ id t) ∧ ([] : List Int).length ≤ 0 from ⟨HB6.out, UF.start, by rw [List.drop_zero, Hrs.out]; rfl, ⟨Hbo6.out, hft⟩, Nat.le_refl _⟩)
          have Hbase := Lib.hid hbase
          have hle1 : bl + 1 < base := by omega
          have hle2 : bl + 1 < ob := by omega
          clear hbase hR Hr Hrs HO HB6 Hbo6 HBA Hbox Hbo5 HS5 HS Hk6 Hkw Hkx Hkx4 HSo hszr hob5 Hbl hs2
          go_step3
          go_wp2_with fail
          go_loopw [9, 10, 11, 37] (fun s9 s10 s11 s37 W => ∃ (i : Nat) (p cc h : Nat → Nat) (T : List Int), s37 = .int .i64 (i : Nat) ∧ i ≤ k ∧ Hid (BlkA W (bl + 1) p ∧ UF p cc h ∧ krun L (stopP f t) (r.drop i) cc T = kruL L (stopP f t) ∧ (Wst W bo (-1) ∧ cc f ≠ cc t) ∧ T.length ≤ i) ∧ Kx (fun j => j = bo ∨ j = bl + 1) w6 W) (fun _ _ _ i _ => k - (intOf i).toNat)
          case atStart => exact ⟨0, id, id, id, [], rfl, Nat.zero_le _, Hst, Kx.refl _ _⟩
          case round =>
            obtain ⟨i, p, cc, h, T, rfl, hik, HI, hkx⟩ := hrel
            have Hkx := Lib.hid hkx
            clear hkx Hst
            by_cases hlt : i < k
            · obtain ⟨x, hx⟩ : ∃ x, r[i]? = some x := ⟨r[i]'(by rw [Hlr.out]; exact hlt), List.getElem?_eq_getElem _⟩
              have hxm := Hrm.out x (List.mem_of_getElem? hx)
              obtain ⟨m, rfl⟩ : ∃ m : Nat, x = m := ⟨x.toNat, by omega⟩
              have hmk : m < k := by omega
              have hdr : r.drop i = (m : Int) :: r.drop (i + 1) := by
                rw [List.drop_eq_getElem_cons (by rw [Hlr.out]; exact hlt)]
                congr 1
                rw [List.getElem?_eq_getElem (by rw [Hlr.out]; exact hlt)] at hx
                exact Option.some.inj hx
              obtain ⟨b, o, l, rfl, hbk, hlm, -, -, -⟩ := HS6.out.at3 hmk
              have hla := HL.out.a0 l (List.mem_of_getElem? hlm)
              have hlb := HL.out.b0 l (List.mem_of_getElem? hlm)
              have hblt := HAlt.out (by omega) _ rfl
              simp only at hblt
              obtain ⟨na, hna⟩ : ∃ na : Nat, l.a = na := ⟨l.a.toNat, by omega⟩
              obtain ⟨nb, hnb⟩ : ∃ nb : Nat, l.b = nb := ⟨l.b.toNat, by omega⟩
              obtain ⟨ra, ha1, ha2, ha3⟩ := HI.out.2.1.root (h na) na (Nat.le_refl _) (by omega)
              obtain ⟨rb, hb1, hb2, hb3⟩ := HI.out.2.1.root (h nb) nb (Nat.le_refl _) (by omega)
              obtain ⟨wo, rfl⟩ : ∃ wo : World, wo = wr := ⟨_, rfl⟩
              obtain ⟨ι, mk, hmk2⟩ := clsP_ex (fun W' => Kx (fun j => j = bl + 1) wo W' ∧ ∃ p', BlkA W' (bl + 1) p' ∧ UF p' cc h ∧ Rts p p')
              have hC0 : Kx (fun j => j = bl + 1) wo wo ∧ ∃ p', BlkA wo (bl + 1) p' ∧ UF p' cc h ∧ Rts p p' := ⟨Kx.refl _ _, p, HI.out.1, HI.out.2.1, Rts.refl p⟩
              have hd : ∃ x, { wo with drawn := wo.drawn + 1 } = mk x := (hmk2 _).1 ⟨(Kx.refl _ wo).drewN 1, p, HI.out.1, HI.out.2.1, Rts.refl p⟩
              have hnei : Nonempty ι := let ⟨y, _⟩ := hd; ⟨y⟩
              have hmy := fun y => (hmk2 (mk y)).2 ⟨y, rfl⟩
              have hcall : ∀ (v rv : Nat), v < 64 → rv < 64 → p rv = rv → cc rv = cc v → ∀ y, Calls Try.prog 59 #[.pointer (some ⟨bl + 1, 0, none⟩), .int .i64 (v : Nat)] (mk y) fun e w'' => e = .returned (.int .i64 (rv : Nat)) ∧ ∃ z, w'' = mk z := by
                intro v rv hv hrv h2 h3 y
                obtain ⟨hk0, p', hB, hU, hR⟩ := hmy y
                refine (root_any (bl + 1) p' cc h v hv (mk y) hB hU).mono ?_
                rintro e w'' ⟨r', p'', rfl, k1, k2, k3, k4, k5, k6, k7⟩
                have e1 : r' = rv := hU.one r' rv k1 hrv k2 ((hR rv hrv).1 h2) (k3.trans h3.symm)
                exact ⟨by rw [e1], (hmk2 _).1 ⟨hk0.trans k7 (fun _ _ h => h), p'', k4, k5, hR.trans k6⟩⟩
              have HCa := Lib.hid (hcall na ra (by omega) ha1 ha2 ha3)
              have HCb := Lib.hid (hcall nb rb (by omega) hb1 hb2 hb3)
              have Hky := Lib.hid (fun y => Hkx.out.trans ((hmy y).1.mono (T := fun j => j = bo ∨ j = bl + 1) (fun j hj => .inr hj)) (fun _ _ h => h))
              have g0 := fun y => (cells1 (((Hky.out y).block bl (by rw [Hbase.out]; omega) (by omega)).trans Hbox6.out)).1
              have hsy := fun y => slE_kxL HS6.out (Hky.out y) (fun _ a ha => by injection ha with ha; subst ha; show ¬ (b = bo ∨ b = bl + 1); have := HA.out (by omega) _ rfl; simp only at this; omega)
              have hl3 : ∀ y, (mk y).cell? ⟨b, o + m * 3, none⟩ = some (.int .i64 na) ∧ (mk y).cell? ⟨b, o + m * 3 + 1, none⟩ = some (.int .i64 nb) := fun y => by
                obtain ⟨b', o', l', e', _, hl', q0, q1, _⟩ := (hsy y).at3 hmk
                simp only [Option.some.injEq, Addr.mk.injEq, and_true] at e'
                obtain ⟨rfl, rfl⟩ := e'
                rw [hlm] at hl'; injection hl' with hl'; subst hl'
                exact ⟨by rw [q0, hna], by rw [q1, hnb]⟩
              have g1 := fun y => (hl3 y).1
              have g2 := fun y => (hl3 y).2
              have c0 : wo.cell? ⟨ob, i, none⟩ = some (.int .i64 (m : Nat)) := (HO6.out.kx Hkx.out (by omega)).cell hx
              have hmk0 : (0 : Int) ≤ (m : Int) := by omega
              have hmkk : (m : Int) < (k : Int) := by omega
              have hi0 : (0 : Int) ≤ (i : Int) := by omega
              have hik2 : (i : Int) < (k : Int) := by omega
              have Hmy := Lib.hid hmy
              have Hdr := Lib.hid hdr
              have Hlm := Lib.hid hlm
              have Hna := Lib.hid (show l.a.toNat = na by omega)
              have Hnb := Lib.hid (show l.b.toNat = nb by omega)
              have Hra := Lib.hid (And.intro ha2 ha3)
              have Hrb := Lib.hid (And.intro hb2 hb3)
              clear hx hdr hlm hmk2 hC0 hmy hcall hsy hl3 ha2 ha3 hb2 hb3 hna hnb hla hlb hxm hlt
              go_wp2_with fail
              refine wp_region_cls (C := fun w' => ∃ x, w' = mk x) (by kernel_rfl) (by kernel_rfl) hd ?_
              repeat (go_big_quiet_step ((go_at_call 59; first | with_reducible exact HCa.out _ | with_reducible exact HCb.out _)))
              refine wpQuiet_nil ?_
              intro _ hw'
              obtain ⟨y, rfl⟩ := hw'
              obtain ⟨hk7, p', hB7, hU7, hR7⟩ := Hmy.out y
              have hkx7 := Hky.out y
              obtain ⟨W7, hW7⟩ : ∃ W7, mk y = W7 := ⟨_, rfl⟩
              rw [hW7] at hk7 hB7 hkx7 ⊢
              have hn7 : Wst W7 bo (-1) ∧ cc f ≠ cc t := ⟨HI.out.2.2.2.1.1.kx hk7 (by omega), HI.out.2.2.2.1.2⟩
              have Hn7 := Lib.hid hn7
              have HB7 := Lib.hid hB7
              have HU7 := Lib.hid hU7
              have HR7 := Lib.hid hR7
              have Hkx7 := Lib.hid hkx7
              have hTk := HI.out.2.2.2.2
              have hlen9 : ((T.length + 1 : Nat) : Int) = ((T ++ [(m : Int)]).length : Int) := by rw [List.length_append]; rfl
              have Hlen9 := Lib.hid hlen9
              clear hW7 hk7 hB7 hkx7 hn7 hU7 hR7 Hmy Hky HCa HCb hd hnei g0 g1 g2 c0 hlen9
              by_cases hrr : ra = rb
              · have hrd : (ra : Int) = (rb : Int) := by omega
                have Hrr := Lib.hid hrr
                clear hrr
                go_wp2_with fail
                refine ⟨⟨i + 1, p', cc, h, T, by go_num, by omega, Lib.hid ⟨HB7.out, HU7.out, ?_, Hn7.out, by omega⟩, Hkx7.out⟩, by simp [intOf] <;> omega⟩
                rw [← HI.out.2.2.1, Hdr.out, krun_skip (l := l) (by rw [Int.toNat_natCast]; exact Hlm.out) (by rw [Hna.out, Hnb.out, ← Hra.out.2, ← Hrb.out.2, Hrr.out])]
              · have hrd : ¬ (ra : Int) = (rb : Int) := by omega
                have hun := HU7.out.union ha1 hb1 ((HR7.out ra ha1).1 Hra.out.1) ((HR7.out rb hb1).1 Hrb.out.1) hrr
                have Hun := Lib.hid hun
                have ha0 : (0 : Int) ≤ (ra : Int) := by omega
                have ha64 : (ra : Int) < 64 := by omega
                have g7 := HB7.out.cell ha1
                have f7 := HB7.out.frozen
                have hk8 : Kx (fun j => j = bl + 1) W7 (W7.setCell ⟨bl + 1, ra, none⟩ (.int .i64 (rb : Nat))) := kx_setb _ _ _ _
                have HB8 := Lib.hid (HB7.out.set ra rb)
                have Hn8 := Lib.hid (Hn7.out.1.kx hk8 (by omega))
                have Hkx8 := Lib.hid (Hkx7.out.trans (hk8.mono (T := fun j => j = bo ∨ j = bl + 1) (fun j hj => .inr hj)) (fun _ _ h => h))
                obtain ⟨-, h8, hU8⟩ := Hun.out
                have hcb := pcb_any L _ _ _ bf bt bk bo (bl + 1) m f t (upd p' ra rb) (relab cc (cc ra) (cc rb)) h8 _ (HP.out _ (Hall.out _ Hkx8.out)) Hn8.out (by omega) HB8.out hU8 hf ht hmk
                have Hc1 := Lib.hid (show cc l.a.toNat ≠ cc l.b.toNat from by rw [Hna.out, Hnb.out, ← Hra.out.2, ← Hrb.out.2]; exact hun.1)
                have Hcc := Lib.hid (show relab cc (cc ra) (cc rb) = relab cc (cc l.a.toNat) (cc l.b.toNat) from by rw [Hna.out, Hnb.out, ← Hra.out.2, ← Hrb.out.2])
                have Hl2 := Lib.hid (show L[(m : Int).toNat]? = some l from by rw [Int.toNat_natCast]; exact Hlm.out)
                have Hcb := Lib.hid hcb
                clear hun hk8 hrr hcb hU8
                rw [Hcc.out] at Hcb
                cases hst : stopP f t (T ++ [(m : Int)]) (relab cc (cc l.a.toNat) (cc l.b.toNat))
                · have hdc : ¬ relab cc (cc l.a.toNat) (cc l.b.toNat) f = relab cc (cc l.a.toNat) (cc l.b.toNat) t := of_decide_eq_false hst
                  rw [decide_eq_false hdc, if_neg hdc] at Hcb
                  have Hdc := Lib.hid hdc
                  have Hkr := Lib.hid (krun_go (r := r.drop (i + 1)) Hl2.out Hc1.out hst)
                  clear hst hdc
                  go_wp2_with (go_at_call 58; refine Hcb.out.mono ?_; rintro e w9 ⟨rfl, h91, h93, h92⟩; have Hn9 := Lib.hid h91; have Hk9 := Lib.hid h92; have Hu9 := Lib.hid h93; clear h91 h92 h93)
                  obtain ⟨p9, hB9, hU9⟩ := Hu9.out
                  refine ⟨⟨i + 1, p9, relab cc (cc l.a.toNat) (cc l.b.toNat), h8, T ++ [(m : Int)], by go_num, by omega, Lib.hid ⟨hB9, hU9, ?_, ⟨Hn9.out, Hdc.out⟩, by rw [List.length_append]; simp; omega⟩, ?_⟩, by simp [intOf] <;> omega⟩
                  · rw [← HI.out.2.2.1, Hdr.out, Hkr.out]
                  · exact (Hkx8.out.trans Hk9.out (fun _ _ h => h))
                · have hdc : relab cc (cc l.a.toNat) (cc l.b.toNat) f = relab cc (cc l.a.toNat) (cc l.b.toNat) t := of_decide_eq_true hst
                  rw [decide_eq_true hdc, if_pos hdc] at Hcb
                  have Hdc := Lib.hid hdc
                  have Hkr := Lib.hid (krun_stop (r := r.drop (i + 1)) Hl2.out Hc1.out hst)
                  clear hst hdc
                  go_wp2_with (go_at_call 58; refine Hcb.out.mono ?_; rintro e w9 ⟨rfl, h91, h93, h92⟩; have Hn9 := Lib.hid h91; have Hk9 := Lib.hid h92; have Hu9 := Lib.hid h93; clear h91 h92 h93)
                  have Hf := Lib.hid (Hfin.out w9 _ Hn9.out (.inr ⟨T, (m : Int), by rw [← HI.out.2.2.1, Hdr.out, Hkr.out], by rw [← HI.out.2.2.1, Hdr.out, Hkr.out]; exact Hdc.out, rfl⟩) (Hkx8.out.trans Hk9.out (fun _ _ h => h)))
                  clear Hfin
                  rw [Exit.noGoto_normal]
                  go_end0
                  exact Hf.out
            · obtain rfl : i = k := by omega
              have Hf := Lib.hid (Hfin.out _ (-1) HI.out.2.2.2.1.1 (.inl ⟨rfl, by rw [← HI.out.2.2.1, List.drop_eq_nil_of_le (by rw [Hlr.out]; exact Nat.le_refl _)]; exact HI.out.2.2.2.1.2⟩) Hkx.out)
              clear Hfin HI Hkx
              go_wp2_with fail
              rw [Exit.noGoto_normal]
              go_end0
              exact Hf.out
end
section
/-- The least weight by which two notes are connected, or -1. -/
def SpcV (L : List Lk) (f t : Nat) (b : Int) : Prop :=
  (b = -1 ∧ ∀ l ∈ L, ¬ Conn L l.w f t) ∨ (0 ≤ b ∧ Conn L b f t ∧ (∃ l ∈ L, b = l.w) ∧ ∀ l ∈ L, Conn L l.w f t → b ≤ l.w)
theorem SpcV.uniq {L : List Lk} {f t : Nat} {b d : Int} (h : SpcV L f t b) (k : SpcV L f t d) : b = d := by
  rcases h with ⟨h1, h2⟩ | ⟨h1, h2, ⟨l, hl, h3⟩, h4⟩ <;> rcases k with ⟨k1, k2⟩ | ⟨k1, k2, ⟨m, hm, k3⟩, k4⟩
  · rw [h1, k1]
  · exact absurd (by rw [← k3]; exact k2) (h2 m hm)
  · exact absurd (by rw [← h3]; exact h2) (k2 l hl)
  · have e1 := h4 m hm (by rw [← k3]; exact k2)
    have e2 := k4 l hl (by rw [← h3]; exact h2)
    omega
theorem run_pas {L : List Lk} {f t : Nat} : ∀ {rest D T : List Int} {c : Nat → Nat}, Lab L D T c → (∀ x ∈ rest, ∃ l, L[x.toNat]? = some l) → c f ≠ c t →
    ((krun L (stopP f t) rest c T).2 f ≠ (krun L (stopP f t) rest c T).2 t ∧ Lab L (D ++ rest) (krun L (stopP f t) rest c T).1 (krun L (stopP f t) rest c T).2) ∨
    ∃ T1 i D1 rest1 c1, (krun L (stopP f t) rest c T).1 = T1 ++ [i] ∧ (krun L (stopP f t) rest c T).2 f = (krun L (stopP f t) rest c T).2 t ∧ Lab L D1 T1 c1 ∧ c1 f ≠ c1 t ∧ D ++ rest = D1 ++ i :: rest1 ∧ Lab L (D1 ++ [i]) (T1 ++ [i]) (krun L (stopP f t) rest c T).2
  | [], D, T, c, hL, _, hne => .inl ⟨hne, by rw [List.append_nil]; exact hL⟩
  | i :: r, D, T, c, hL, hm, hne => by
    obtain ⟨l, hl⟩ := hm i (by simp)
    have hm2 : ∀ x ∈ r, ∃ l, L[x.toNat]? = some l := fun x hx => hm x (by simp [hx])
    by_cases he : c l.a.toNat = c l.b.toNat
    · rw [krun_skip hl he]
      have ih := run_pas (rest := r) (hL.skip hl he) hm2 hne
      rw [List.append_assoc] at ih
      exact ih
    · cases hs : stopP f t (T ++ [i]) (relab c (c l.a.toNat) (c l.b.toNat))
      · rw [krun_go hl he hs]
        have ih := run_pas (rest := r) (hL.take hl) hm2 (of_decide_eq_false hs)
        rw [List.append_assoc] at ih
        exact ih
      · rw [krun_stop hl he hs]
        exact .inr ⟨T, i, D, r, c, rfl, of_decide_eq_true hs, hL, hne, rfl, hL.take hl⟩
theorem pas_spc {L : List Lk} {f t : Nat} {v : Int} (hok : LkOk L) (hft : f ≠ t) (h : PasR L f t v) : SpcV L f t v := by
  have hp := srt_perm L (idxs L.length)
  have hm : ∀ x ∈ srt L (idxs L.length), ∃ l, L[x.toNat]? = some l := fun x hx => by
    have := idxs_mem.1 (hp.subset hx)
    exact ⟨_, List.getElem?_eq_getElem (by omega)⟩
  have hin : ∀ l ∈ L, ∃ j : Nat, (j : Int) ∈ srt L (idxs L.length) ∧ L[((j : Nat) : Int).toNat]? = some l := fun l hl => by
    obtain ⟨j, hj, e⟩ := List.getElem_of_mem hl
    exact ⟨j, hp.symm.subset (idxs_mem.2 ⟨by omega, by omega⟩), by rw [Int.toNat_natCast, List.getElem?_eq_getElem hj, e]⟩
  have hrun := run_pas (f := f) (t := t) (rest := srt L (idxs L.length)) (Lab.start L) hm hft
  rw [List.nil_append] at hrun
  unfold PasR kruL at h
  rcases hrun with ⟨r1, r2⟩ | ⟨T1, i, D1, rest1, c1, r1, r2, r3, r4, r5, r6⟩
  · rcases h with ⟨h1, _⟩ | ⟨_, _, _, h2, _⟩
    · refine .inl ⟨h1, fun l hl hc => r1 ?_⟩
      have := hc (fun z => decide ((krun L (stopP f t) (srt L (idxs L.length)) id []).2 z = (krun L (stopP f t) (srt L (idxs L.length)) id []).2 f)) (fun l' hl' _ => by
        obtain ⟨j, hj, e⟩ := hin l' hl'
        have := r2.keep _ hj l' e
        show decide (_ = _) = decide (_ = _)
        rw [this])
      have h2 : decide ((krun L (stopP f t) (srt L (idxs L.length)) id []).2 f = (krun L (stopP f t) (srt L (idxs L.length)) id []).2 f) = decide ((krun L (stopP f t) (srt L (idxs L.length)) id []).2 t = (krun L (stopP f t) (srt L (idxs L.length)) id []).2 f) := this
      rw [decide_eq_true rfl] at h2
      exact (of_decide_eq_true h2.symm).symm
    · exact absurd h2 r1
  · rcases h with ⟨_, h2⟩ | ⟨T2, i2, h1, _, h3⟩
    · exact absurd r2 h2
    · have e : T2 ++ [i2] = T1 ++ [i] := h1.symm.trans r1
      obtain ⟨-, e2⟩ := List.append_inj' e rfl
      simp only [List.cons.injEq, and_true] at e2
      subst e2
      have hris : Ris L (D1 ++ i2 :: rest1) := by rw [← r5]; exact srt_ris (idxs_nodup _)
      obtain ⟨li, hli⟩ := hm i2 (by rw [r5]; simp)
      have hvi : v = li.w := by rw [h3]; unfold lkW; rw [hli]
      have hlem := List.mem_of_getElem? hli
      refine .inr ⟨by rw [hvi]; exact (hok li hlem).1, ?_, ⟨li, hlem, hvi⟩, fun l hl hc => ?_⟩
      · have hci := r6.conn f t r2
        intro s hs
        refine hci s fun j hj l hl => hs l (List.mem_of_getElem? hl) ?_
        have hjl : lkW L j = l.w := by unfold lkW; rw [hl]
        rcases List.mem_append.1 (r6.sub j hj) with k | k
        · have := (List.pairwise_append.1 hris).2.2 j k i2 (by simp)
          unfold klt at this
          rw [hjl, ← h3] at this
          omega
        · simp only [List.mem_singleton] at k
          subst k
          rw [h3, hjl]; exact Int.le_refl _
      · by_cases hlt : v ≤ l.w
        · exact hlt
        · exfalso
          have := hc (fun z => decide (c1 z = c1 f)) (fun l' hl' hw => by
            obtain ⟨j, hj, e⟩ := hin l' hl'
            have hjl : lkW L (j : Int) = l'.w := by unfold lkW; rw [e]
            have hjk : klt L (j : Int) i2 := by left; rw [hjl, ← h3]; omega
            rw [r5] at hj
            have hjD : (j : Int) ∈ D1 := by
              rcases List.mem_append.1 hj with k | k
              · exact k
              · rcases List.mem_cons.1 k with k | k
                · rw [k] at hjk; exact absurd hjk klt_irrefl
                · exact absurd hjk (klt_asymm ((List.pairwise_cons.1 (List.pairwise_append.1 hris).2.1).1 _ k))
            have := r3.keep _ hjD l' e
            show decide (_ = _) = decide (_ = _)
            rw [this])
          have h2 : decide (c1 f = c1 f) = decide (c1 t = c1 f) := this
          rw [decide_eq_true rfl] at h2
          exact r4 (of_decide_eq_true h2.symm).symm
/-- The search for the least weight, as far as it has come. -/
def SpcI (L : List Lk) (f t k : Nat) (b : Int) : Prop :=
  (b = -1 ∧ ∀ l ∈ L.take k, ¬ Conn L l.w f t) ∨ (0 ≤ b ∧ Conn L b f t ∧ (∃ l ∈ L, b = l.w) ∧ ∀ l ∈ L.take k, Conn L l.w f t → b ≤ l.w)
theorem SpcI.start (L : List Lk) (f t : Nat) : SpcI L f t 0 (-1) := .inl ⟨rfl, by simp⟩
theorem mem_take1 {L : List Lk} {k : Nat} {l x : Lk} (hl : L[k]? = some l) (h : x ∈ L.take (k + 1)) : x ∈ L.take k ∨ x = l := by
  obtain ⟨hk, rfl⟩ := List.getElem?_eq_some_iff.1 hl
  rw [List.take_succ_eq_append_getElem hk] at h
  rcases List.mem_append.1 h with h | h
  · exact .inl h
  · exact .inr (by simpa using h)
theorem SpcI.take {L : List Lk} {f t k : Nat} {b : Int} {l : Lk} (h : SpcI L f t k b) (hok : LkOk L) (hl : L[k]? = some l) (hc : Conn L l.w f t) (hw : b < 0 ∨ l.w < b) : SpcI L f t (k + 1) l.w := by
  have hm := List.mem_of_getElem? hl
  refine .inr ⟨(hok l hm).1, hc, ⟨l, hm, rfl⟩, fun x hx hcx => ?_⟩
  rcases mem_take1 hl hx with hx | rfl
  · rcases h with ⟨_, h2⟩ | ⟨h1, _, _, h4⟩
    · exact absurd hcx (h2 x hx)
    · have := h4 x hx hcx; omega
  · exact Int.le_refl _
theorem SpcI.keep {L : List Lk} {f t k : Nat} {b : Int} {l : Lk} (h : SpcI L f t k b) (hl : L[k]? = some l) (hw : ¬ ((b < 0 ∨ l.w < b) ∧ Conn L l.w f t)) : SpcI L f t (k + 1) b := by
  rcases h with ⟨h1, h2⟩ | ⟨h1, h2, h3, h4⟩
  · refine .inl ⟨h1, fun x hx hcx => ?_⟩
    rcases mem_take1 hl hx with hx | rfl
    · exact h2 x hx hcx
    · exact hw ⟨.inl (by omega), hcx⟩
  · refine .inr ⟨h1, h2, h3, fun x hx hcx => ?_⟩
    rcases mem_take1 hl hx with hx | rfl
    · exact h4 x hx hcx
    · by_cases e : x.w < b
      · exact absurd ⟨.inr e, hcx⟩ hw
      · omega
theorem SpcI.fin {L : List Lk} {f t : Nat} {b : Int} (h : SpcI L f t L.length b) : SpcV L f t b := by
  unfold SpcI at h
  rw [List.take_length] at h
  exact h
end
section
open Go.RowKit
set_option maxRecDepth 8000 in
set_option maxHeartbeats 8000000 in
theorem refPas_any (N f t : Nat) (A : Option Addr) (n c : Nat) (L : List Lk) (w : World) (hS : SlE linkE 3 w A n L) (hp : Pln (N : Nat) L) (hf : f < N) (ht : t < N) (hft : f ≠ t) :
    Calls Try.prog 30 #[.int .i64 (N : Nat), .slice A n c, .int .i64 (f : Nat), .int .i64 (t : Nat)] w
      fun e w' => (∃ b, SpcV L f t b ∧ e = .returned (if b < 0 then .tuple #[.int .i64 0, .int .i64 6] else .tuple #[.int .i64 b, .int .i64 0])) ∧ Below w.heap.size w w' := by
  refine calls_cps ?_
  intro R hR
  have hn512 : n ≤ 512 := by rw [hS.1]; exact hp.len
  have hN2 : N ≤ 64 := by have := hp.hi; omega
  have hpl := refPlan_any (N : Nat) A n c L w hS (by omega)
  rw [(planB_iff _ _).2 hp] at hpl
  have Hpl := Lib.hid hpl
  have HS := Lib.hid hS
  have Hp := Lib.hid hp
  have HLv := Lib.hid (show LkV N L from fun l hl => by have := hp.lk l hl; omega)
  have HR := Lib.hid (show ∀ b W, SpcV L f t b → Below w.heap.size w W → R (.returned (if b < 0 then .tuple #[.int .i64 0, .int .i64 6] else .tuple #[.int .i64 b, .int .i64 0])) W from fun b W h1 h2 => hR.out _ W ⟨⟨b, h1, rfl⟩, h2⟩)
  have e1 : inB (f : Nat) 0 ((N : Int) - 1) = true := inB_iff.2 ⟨by omega, by omega⟩
  have e2 : inB (t : Nat) 0 ((N : Int) - 1) = true := inB_iff.2 ⟨by omega, by omega⟩
  have e3 : ((f : Int) == (t : Int)) = false := by simp; omega
  have e4 : ¬ (f : Int) = (t : Int) := by omega
  have t0 : (0 : Int) ≤ (t : Int) := by omega
  have t1 : (t : Int) < (N : Int) := by omega
  clear hS hp hpl hR
  go_enter Try.func30, Try.ntmps30
  go_wp2_with (first
    | (go_at_call 27; refine Hpl.out.mono ?_; rintro e w2 ⟨rfl, rfl⟩)
    | (go_at_call 45; refine (in_any _ _ _ _).mono ?_; rintro e w' ⟨rfl, rfl⟩; (try rw [e1]); (try rw [e2])))
  go_loopg [10, 11, 12] n (fun gk s10 s11 _ wr => ∃ (i : Nat) (b : Int), s11 = .int .i64 (i : Nat) ∧ s10 = .int .i64 b ∧ i + gk = n ∧ -1 ≤ b ∧ b ≤ 1000000 ∧ Hid (SpcI L f t i b) ∧ Below w.heap.size w wr)
  case atStart => exact ⟨0, -1, rfl, rfl, by omega, by omega, by omega, Lib.hid (SpcI.start _ _ _), Below.refl _ _⟩
  case round =>
    obtain ⟨i, b, rfl, rfl, hik, hb1, hb2, HI, hbw⟩ := hrel
    obtain ⟨wo, rfl⟩ : ∃ wo : World, wo = wr := ⟨_, rfl⟩
    have HB := Lib.hid hbw
    have hzo := hbw.size
    by_cases hlt : i < n
    · have i1 : (i : Int) < (n : Int) := by omega
      have hso := HS.out.below hbw
      obtain ⟨bb, oo, l, rfl, hbl, hs, p0, p1, p2⟩ := hso.at3 hlt
      have hlw := Hp.out.lk l (List.mem_of_getElem? hs)
      obtain ⟨hw1, hw2⟩ := hlw.2.2
      have Hre := Lib.hid (reach_any N f (some ⟨bb, oo, none⟩) n c L l.w wo hso (by omega) HLv.out hN2 hf)
      obtain ⟨mv, hmv⟩ : ∃ mv, reachF L l.w N f t = mv := ⟨_, rfl⟩
      have Hmv := Lib.hid (show mv = true ↔ Conn L l.w f t from by rw [← hmv, reach_iff HLv.out.lkN hf])
      have Hmv2 := Lib.hid hmv
      have Hs := Lib.hid hs
      obtain ⟨wl, hwl⟩ : ∃ wl, l.w = wl := ⟨_, rfl⟩
      have Hwl := Lib.hid hwl
      rw [hwl] at p2 hw1 hw2 Hre
      clear hbw hlw hs hmv hwl p0 p1 hso
      by_cases hc : b < 0 ∨ wl < b
      · cases mv
        · have HI2 := Lib.hid (HI.out.keep Hs.out (fun h => by have := Hmv.out.2 h.2; cases this))
          by_cases hb0 : b < 0
          all_goals
            first | have j1 : wl < b := hc.resolve_left hb0 | skip
            go_wp2_with (go_at_call 56; refine Hre.out.mono ?_; rintro e w6 ⟨g3, rfl, hg3, hF3, hb6⟩; have g0 := hF3.cell ht; rw [← Hwl.out, Hmv2.out] at g0; have HB6 := Lib.hid (HB.out.trans (hb6.mono hzo)); clear hF3 hb6)
            go_roundg (gk - 1)
            case measure => omega
            case rel => exact ⟨i + 1, b, by go_num, rfl, by omega, hb1, hb2, HI2, HB6.out⟩
        · have HI2 := Lib.hid (HI.out.take (fun l hl => (Hp.out.lk l hl).2.2) Hs.out (Hmv.out.1 rfl) (by rw [Hwl.out]; exact hc))
          rw [Hwl.out] at HI2
          by_cases hb0 : b < 0
          all_goals
            first | have j1 : wl < b := hc.resolve_left hb0 | skip
            go_wp2_with (go_at_call 56; refine Hre.out.mono ?_; rintro e w6 ⟨g3, rfl, hg3, hF3, hb6⟩; have g0 := hF3.cell ht; rw [← Hwl.out, Hmv2.out] at g0; have HB6 := Lib.hid (HB.out.trans (hb6.mono hzo)); clear hF3 hb6)
            go_roundg (gk - 1)
            case measure => omega
            case rel => exact ⟨i + 1, wl, by go_num, rfl, by omega, by omega, hw2, HI2, HB6.out⟩
      · have HI2 := Lib.hid (HI.out.keep Hs.out (fun h => hc (by rw [← Hwl.out]; exact h.1)))
        have j0 : ¬ b < 0 := fun h => hc (.inl h)
        have j1 : ¬ wl < b := fun h => hc (.inr h)
        go_wp2_with fail
        go_roundg (gk - 1)
        case measure => omega
        case rel => exact ⟨i + 1, b, by go_num, rfl, by omega, hb1, hb2, HI2, HB.out⟩
    · obtain rfl : i = n := by omega
      have hsp : SpcV L f t b := by have := HI.out; rw [HS.out.1] at this; exact this.fin
      have Hf := Lib.hid (HR.out b wo hsp HB.out)
      clear HR hsp HI hbw
      by_cases hb0 : b < 0
      · rw [if_pos hb0] at Hf
        go_wp2_with fail
        exact Hf.out
      · rw [if_neg hb0] at Hf
        go_wp2_with fail
        exact Hf.out
end
section
open Go.RowKit
def pasB (notes f t : Int) (L : List Lk) : Bool := planB notes L && (inB f 0 (notes - 1) && inB t 0 (notes - 1))
/-- What both answer. -/
def pasV (v : Int) : Value := if v < 0 then .tuple #[.int .i64 0, .int .i64 6] else .tuple #[.int .i64 v, .int .i64 0]
set_option maxRecDepth 8000 in
set_option maxHeartbeats 4000000 in
theorem refPas_bad (notes f t : Int) (A : Option Addr) (n c : Nat) (L : List Lk) (w : World) (hS : SlE linkE 3 w A n L) (hn : n ≤ 9223372036854775807) (hp : pasB notes f t L = false) :
    Calls Try.prog 30 #[.int .i64 notes, .slice A n c, .int .i64 f, .int .i64 t] w fun e w' => e = .returned (.tuple #[.int .i64 0, .int .i64 1]) ∧ Below w.heap.size w w' := by
  refine calls_cps ?_
  intro R hR
  have hpl := refPlan_any notes A n c L w hS hn
  have Hf := Lib.hid (hR.out _ w ⟨rfl, Below.refl _ _⟩)
  clear hR hS
  cases hb : planB notes L
  · rw [hb] at hpl
    have Hpl := Lib.hid hpl
    clear hpl hb hp
    go_enter Try.func30, Try.ntmps30
    go_wp2_with (first
      | (go_at_call 27; refine Hpl.out.mono ?_; rintro e w2 ⟨rfl, rfl⟩)
      | (go_at_call 45; refine (in_any _ _ _ _).mono ?_; rintro e w' ⟨rfl, rfl⟩))
    exact Hf.out
  · rw [hb] at hpl
    have hP := (planB_iff _ _).1 hb
    have hl := hP.lo
    have hh := hP.hi
    have Hpl := Lib.hid hpl
    unfold pasB at hp
    rw [hb, Bool.true_and] at hp
    clear hpl hb hP
    cases h1 : inB f 0 (notes - 1)
    · clear hp
      go_enter Try.func30, Try.ntmps30
      go_wp2_with (first
        | (go_at_call 27; refine Hpl.out.mono ?_; rintro e w2 ⟨rfl, rfl⟩)
        | (go_at_call 45; refine (in_any _ _ _ _).mono ?_; rintro e w' ⟨rfl, rfl⟩; rw [h1]))
      exact Hf.out
    · rw [h1, Bool.true_and] at hp
      go_enter Try.func30, Try.ntmps30
      go_wp2_with (first
        | (go_at_call 27; refine Hpl.out.mono ?_; rintro e w2 ⟨rfl, rfl⟩)
        | (go_at_call 45; refine (in_any _ _ _ _).mono ?_; rintro e w' ⟨rfl, rfl⟩; first | rw [h1] | rw [hp]))
      exact Hf.out
set_option maxRecDepth 8000 in
set_option maxHeartbeats 4000000 in
theorem refPas_one (notes f : Int) (A : Option Addr) (n c : Nat) (L : List Lk) (w : World) (hS : SlE linkE 3 w A n L) (hn : n ≤ 9223372036854775807) (hp : pasB notes f f L = true) :
    Calls Try.prog 30 #[.int .i64 notes, .slice A n c, .int .i64 f, .int .i64 f] w fun e w' => e = .returned (.tuple #[.int .i64 0, .int .i64 0]) ∧ Below w.heap.size w w' := by
  refine calls_cps ?_
  intro R hR
  unfold pasB at hp
  obtain ⟨hb, h2⟩ := Bool.and_eq_true_iff.1 hp
  obtain ⟨h1, -⟩ := Bool.and_eq_true_iff.1 h2
  have hpl := refPlan_any notes A n c L w hS hn
  rw [hb] at hpl
  have hP := (planB_iff _ _).1 hb
  have hl := hP.lo
  have hh := hP.hi
  have Hf := Lib.hid (hR.out _ w ⟨rfl, Below.refl _ _⟩)
  have Hpl := Lib.hid hpl
  have Hh1 := Lib.hid h1
  clear hR hS hpl hb hP hp h2 h1
  go_enter Try.func30, Try.ntmps30
  go_wp2_with (first
    | (go_at_call 27; refine Hpl.out.mono ?_; rintro e w2 ⟨rfl, rfl⟩)
    | (go_at_call 45; refine (in_any _ _ _ _).mono ?_; rintro e w' ⟨rfl, rfl⟩; rw [Hh1.out]))
  exact Hf.out
/-- The three boxes of Passage's arguments. -/
structure Pb3 (w W : World) (L : List Lk) (A : Option Addr) (n c : Nat) (f t : Int) : Prop where
  k : W.heap[w.heap.size]? = some (.cells #[.slice A n c] 34 (0, 0))
  f : Wst W (w.heap.size + 1) f
  t : Wst W (w.heap.size + 1 + 1) t
  sl : SlE linkE 3 W A n L
  bel : Below w.heap.size w W
theorem Pb3.below {w W W' : World} {L : List Lk} {A : Option Addr} {n c : Nat} {f t : Int} (h : Pb3 w W L A n c f t) (hb : Below W.heap.size W W') : Pb3 w W' L A n c f t :=
  ⟨(hb.block _ (Array.getElem?_eq_some_iff.1 h.k).1).trans h.k, (hb.block _ (Array.getElem?_eq_some_iff.1 h.f).1).trans h.f, (hb.block _ (Array.getElem?_eq_some_iff.1 h.t).1).trans h.t, h.sl.below hb, h.bel.trans (hb.mono h.bel.size)⟩
theorem pb3_new (w : World) (L : List Lk) (A : Option Addr) (n c : Nat) (f t : Int) (hS : SlE linkE 3 w A n L) :
    Pb3 w (((w.alloc (.cells #[.slice A n c] 34)).alloc (.cells #[.int .i64 f] 3)).alloc (.cells #[.int .i64 t] 3)) L A n c f t := by
  have h1 := heap_alloc_new w (.cells #[.slice A n c] 34)
  have b1 := below_new w (.cells #[.slice A n c] 34)
  have z1 : (w.alloc (.cells #[.slice A n c] 34)).heap.size = w.heap.size + 1 := by simp
  obtain ⟨w1, hw1⟩ : ∃ w1, w.alloc (.cells #[.slice A n c] 34) = w1 := ⟨_, rfl⟩
  rw [hw1] at h1 b1 z1 ⊢
  have h2 := heap_alloc_new w1 (.cells #[.int .i64 f] 3)
  have b2 := below_new w1 (.cells #[.int .i64 f] 3)
  have z2 : (w1.alloc (.cells #[.int .i64 f] 3)).heap.size = w.heap.size + 1 + 1 := by simp; omega
  obtain ⟨w2, hw2⟩ : ∃ w2, w1.alloc (.cells #[.int .i64 f] 3) = w2 := ⟨_, rfl⟩
  rw [hw2] at h2 b2 z2 ⊢
  have h3 := heap_alloc_new w2 (.cells #[.int .i64 t] 3)
  have b3 := below_new w2 (.cells #[.int .i64 t] 3)
  rw [z1] at h2
  rw [z2] at h3
  exact ⟨(b3.block _ (by omega)).trans ((b2.block _ (by omega)).trans h1), (b3.block _ (by omega)).trans h2, h3, ((hS.below b1).below b2).below b3, (b1.trans (b2.mono (by omega))).trans (b3.mono (by omega))⟩
set_option maxRecDepth 8000 in
set_option maxHeartbeats 8000000 in
theorem pas_bad (notes f t : Int) (A : Option Addr) (n c : Nat) (L : List Lk) (w : World) (hS : SlE linkE 3 w A n L) (hn : n ≤ 9223372036854775807) (hp : pasB notes f t L = false) :
    Calls Try.prog 29 #[.int .i64 notes, .slice A n c, .int .i64 f, .int .i64 t] w fun e w' => e = .returned (.tuple #[.int .i64 0, .int .i64 1]) ∧ Below w.heap.size w w' := by
  refine calls_cps ?_
  intro R hR
  have hb3 := pb3_new w L A n c f t hS
  obtain ⟨w3, hw3⟩ : ∃ w3, ((w.alloc (.cells #[.slice A n c] 34)).alloc (.cells #[.int .i64 f] 3)).alloc (.cells #[.int .i64 t] 3) = w3 := ⟨_, rfl⟩
  rw [hw3] at hb3
  have HB3 := Lib.hid hb3
  have hpl := plan_any notes A n c L w3 hb3.sl hn
  have HY := Lib.hid (fun W h => hR.out (.returned (.tuple #[.int .i64 0, .int .i64 1])) W ⟨rfl, h⟩)
  obtain ⟨k0, -⟩ := cells1 hb3.k
  clear hR hS hb3
  cases hb : planB notes L
  · rw [hb] at hpl
    have Hpl := Lib.hid hpl
    clear hpl hb hp
    go_enter Try.func29, Try.ntmps29
    go_wp2_with (first
      | (go_at_call 52; refine Hpl.out.mono ?_; rintro e w4 ⟨rfl, hb4⟩; have HB3 := Lib.hid (HB3.out.below hb4); clear hb4)
      | (go_at_call 57; refine (within_any _ _ _ _).mono ?_; rintro e w' ⟨rfl, rfl⟩))
    exact HY.out _ HB3.out.bel
  · rw [hb] at hpl
    have hP := (planB_iff _ _).1 hb
    have hl := hP.lo
    have hh := hP.hi
    have Hpl := Lib.hid hpl
    unfold pasB at hp
    rw [hb, Bool.true_and] at hp
    clear hpl hb hP
    cases h1 : inB f 0 (notes - 1)
    · clear hp
      go_enter Try.func29, Try.ntmps29
      go_wp2_with (first
        | (go_at_call 52; refine Hpl.out.mono ?_; rintro e w4 ⟨rfl, hb4⟩; have HB3 := Lib.hid (HB3.out.below hb4); have k1 := HB3.out.f.cell.1; have k2 := HB3.out.t.cell.1; clear hb4)
        | (go_at_call 57; refine (within_any _ _ _ _).mono ?_; rintro e w' ⟨rfl, rfl⟩; rw [h1]))
      exact HY.out _ HB3.out.bel
    · rw [h1, Bool.true_and] at hp
      go_enter Try.func29, Try.ntmps29
      go_wp2_with (first
        | (go_at_call 52; refine Hpl.out.mono ?_; rintro e w4 ⟨rfl, hb4⟩; have HB3 := Lib.hid (HB3.out.below hb4); have k1 := HB3.out.f.cell.1; have k2 := HB3.out.t.cell.1; clear hb4)
        | (go_at_call 57; refine (within_any _ _ _ _).mono ?_; rintro e w' ⟨rfl, rfl⟩; first | rw [h1] | rw [hp]))
      exact HY.out _ HB3.out.bel
set_option maxRecDepth 8000 in
set_option maxHeartbeats 8000000 in
theorem pas_one (notes f : Int) (A : Option Addr) (n c : Nat) (L : List Lk) (w : World) (hS : SlE linkE 3 w A n L) (hn : n ≤ 9223372036854775807) (hp : pasB notes f f L = true) :
    Calls Try.prog 29 #[.int .i64 notes, .slice A n c, .int .i64 f, .int .i64 f] w fun e w' => e = .returned (.tuple #[.int .i64 0, .int .i64 0]) ∧ Below w.heap.size w w' := by
  refine calls_cps ?_
  intro R hR
  have hb3 := pb3_new w L A n c f f hS
  obtain ⟨w3, hw3⟩ : ∃ w3, ((w.alloc (.cells #[.slice A n c] 34)).alloc (.cells #[.int .i64 f] 3)).alloc (.cells #[.int .i64 f] 3) = w3 := ⟨_, rfl⟩
  rw [hw3] at hb3
  have HB3 := Lib.hid hb3
  have hpl := plan_any notes A n c L w3 hb3.sl hn
  have HY := Lib.hid (fun W h => hR.out (.returned (.tuple #[.int .i64 0, .int .i64 0])) W ⟨rfl, h⟩)
  obtain ⟨k0, -⟩ := cells1 hb3.k
  unfold pasB at hp
  obtain ⟨hb, h2⟩ := Bool.and_eq_true_iff.1 hp
  obtain ⟨h1, -⟩ := Bool.and_eq_true_iff.1 h2
  rw [hb] at hpl
  have hP := (planB_iff _ _).1 hb
  have hl := hP.lo
  have hh := hP.hi
  have Hpl := Lib.hid hpl
  have Hh1 := Lib.hid h1
  clear hR hS hb3 hpl hb hP hp h2 h1
  go_enter Try.func29, Try.ntmps29
  go_wp2_with (first
    | (go_at_call 52; refine Hpl.out.mono ?_; rintro e w4 ⟨rfl, hb4⟩; have HB3 := Lib.hid (HB3.out.below hb4); have k1 := HB3.out.f.cell.1; have k2 := HB3.out.t.cell.1; clear hb4)
    | (go_at_call 57; refine (within_any _ _ _ _).mono ?_; rintro e w' ⟨rfl, rfl⟩; rw [Hh1.out]))
  exact HY.out _ HB3.out.bel
set_option maxRecDepth 8000 in
set_option maxHeartbeats 8000000 in
theorem pas_ok (N f t : Nat) (A : Option Addr) (n c : Nat) (L : List Lk) (w : World) (hS : SlE linkE 3 w A n L) (hp : Pln (N : Nat) L) (hf : f < N) (ht : t < N) (hft : f ≠ t) :
    Calls Try.prog 29 #[.int .i64 (N : Nat), .slice A n c, .int .i64 (f : Nat), .int .i64 (t : Nat)] w
      fun e w' => (∃ b, SpcV L f t b ∧ e = .returned (if b < 0 then .tuple #[.int .i64 0, .int .i64 6] else .tuple #[.int .i64 b, .int .i64 0])) ∧ Below w.heap.size w w' := by
  refine calls_cps ?_
  intro R hR
  have hn512 : n ≤ 512 := by rw [hS.1]; exact hp.len
  have hN2 : N ≤ 64 := by have := hp.hi; omega
  have hb3 := pb3_new w L A n c f t hS
  obtain ⟨w3, hw3⟩ : ∃ w3, ((w.alloc (.cells #[.slice A n c] 34)).alloc (.cells #[.int .i64 (f : Nat)] 3)).alloc (.cells #[.int .i64 (t : Nat)] 3) = w3 := ⟨_, rfl⟩
  rw [hw3] at hb3
  have HB3 := Lib.hid hb3
  have hpl := plan_any (N : Nat) A n c L w3 hb3.sl (by omega)
  rw [(planB_iff _ _).2 hp] at hpl
  have Hpl := Lib.hid hpl
  have HR := Lib.hid (show ∀ b W, SpcV L f t b → Below w.heap.size w W → R (.returned (if b < 0 then .tuple #[.int .i64 0, .int .i64 6] else .tuple #[.int .i64 b, .int .i64 0])) W from fun b W h1 h2 => hR.out _ W ⟨⟨b, h1, rfl⟩, h2⟩)
  obtain ⟨k0, -⟩ := cells1 hb3.k
  have Hp := Lib.hid hp
  have hAw : 0 < n → ∀ a, A = some a → a.block < w.heap.size := fun h0 a ha => by
    obtain ⟨b', o', e', hb', _⟩ := hS.2.2 h0
    rw [ha] at e'; injection e' with e'; subst e'; exact hb'
  have HAw := Lib.hid hAw
  have e1 : inB (f : Nat) 0 ((N : Int) - 1) = true := inB_iff.2 ⟨by omega, by omega⟩
  have e2 : inB (t : Nat) 0 ((N : Int) - 1) = true := inB_iff.2 ⟨by omega, by omega⟩
  have e3 : ((f : Int) == (t : Int)) = false := by simp; omega
  have e4 : ¬ (f : Int) = (t : Int) := by omega
  clear hR hS hb3 hpl hp hAw
  go_enter Try.func29, Try.ntmps29
  go_upto_region 5 with (first
    | (go_at_call 52; refine Hpl.out.mono ?_; rintro e w4 ⟨rfl, hb4⟩; have HB3 := Lib.hid (HB3.out.below hb4); have k1 := HB3.out.f.cell.1; have k2 := HB3.out.t.cell.1; clear hb4)
    | (go_at_call 57; refine (within_any _ _ _ _).mono ?_; rintro e w' ⟨rfl, rfl⟩; first | rw [e1] | rw [e2]))
  have ho := heap_alloc_new w4 (.cells #[.int .i64 (-1)] 3)
  have hb5 := below_new w4 (.cells #[.int .i64 (-1)] 3)
  have hz5 : (w4.alloc (.cells #[.int .i64 (-1)] 3)).heap.size = w4.heap.size + 1 := by simp
  obtain ⟨bo, hbo⟩ : ∃ bo, w4.heap.size = bo := ⟨_, rfl⟩
  obtain ⟨w5, hw5⟩ : ∃ w5, w4.alloc (.cells #[.int .i64 (-1)] 3) = w5 := ⟨_, rfl⟩
  rw [hw5] at ho hb5 hz5
  rw [hbo] at ho hz5
  have HB5 := Lib.hid (HB3.out.below hb5)
  have hlt4 : w.heap.size + 1 + 1 < bo := by rw [← hbo]; exact (Array.getElem?_eq_some_iff.1 HB3.out.t).1
  have hkr := krP_any L Hp.out.lks Hp.out.len A n c bo (w.heap.size + 1) (w.heap.size + 1 + 1) w.heap.size f t w5 HB5.out.sl ho (fun h0 a ha => by have := HAw.out h0 a ha; omega) (fun W hk =>
    ⟨Hp.out.lks.ok, HB5.out.f.kx hk (by omega), HB5.out.t.kx hk (by omega), (hk.block _ (Array.getElem?_eq_some_iff.1 HB5.out.k).1 (by omega)).trans HB5.out.k, slE_kxL HB5.out.sl hk (fun h0 a ha => by have := HAw.out h0 a ha; omega), by omega, by omega, by omega, fun h0 a ha => by have := HAw.out h0 a ha; omega⟩) (by omega) (by omega) hft
  have Hkr := Lib.hid hkr
  have k5 := (cells1 HB5.out.k).1
  have hz5w : w.heap.size ≤ w5.heap.size := HB5.out.bel.size
  clear hkr ho hb5 HB3
  go_wp2_with fail
  (try rw [hbo])
  (try rw [hw5])
  go_upto_region 7 with (go_at_call 53; refine Hkr.out.mono ?_; rintro e w6 ⟨rfl, ⟨v, hv, hpr⟩, hk6⟩; have hsp := pas_spc Hp.out.lks.ok hft hpr; have hbel := Kx.low HB5.out.bel hk6 (fun j hj => by omega) hz5w; have Hf := Lib.hid (HR.out v w6 hsp hbel); have v0 := hv.cell.1; clear hv hpr hk6 hsp hbel)
  by_cases hv0 : v < 0
  · rw [if_pos hv0] at Hf
    go_wp2_with fail
    exact Hf.out
  · rw [if_neg hv0] at Hf
    go_wp2_with fail
    exact Hf.out
end
section
open Go.RowKit
set_option maxRecDepth 8000 in
set_option maxHeartbeats 8000000 in
theorem passages_any (notes f t : Int) (A : Option Addr) (n c : Nat) (L : List Lk) (w : World) (hS : SlE linkE 3 w A n L) (hnc : n ≤ c) (hc : c ≤ 9223372036854775807) :
    Calls Try.prog 7 #[.int .i64 notes, .slice A n c, .agg #[.int .i64 f, .int .i64 t]] w fun en w' => en = .returned (.bool true) ∧ Below w.heap.size w w' := by
  refine calls_cps ?_
  intro R hR
  have hal := heap_alloc_new w (.cells #[.int .i64 f, .int .i64 t] 43)
  have hb1 := below_new w (.cells #[.int .i64 f, .int .i64 t] 43)
  obtain ⟨w1, hw1⟩ : ∃ w1, w.alloc (.cells #[.int .i64 f, .int .i64 t] 43) = w1 := ⟨_, rfl⟩
  rw [hw1] at hal hb1
  obtain ⟨bx, hbx⟩ : ∃ bx, w.heap.size = bx := ⟨_, rfl⟩
  rw [hbx] at hal
  have HX := Lib.hid (show ∀ W, Below w1.heap.size w1 W → W.cell? ⟨bx, 0, none⟩ = some (.int .i64 f) ∧ W.cell? ⟨bx, 1, none⟩ = some (.int .i64 t) ∧ Below w.heap.size w W from fun W hb => by
    have h := (hb.block bx (Array.getElem?_eq_some_iff.1 hal).1).trans hal
    exact ⟨by rw [cell_of_row _ _ 0 _ _ (0, 0) h]; rfl, by rw [cell_of_row _ _ 1 _ _ (0, 0) h]; rfl, hb1.trans (hb.mono hb1.size)⟩)
  have Hlk := Lib.hid (links_any A n c L w1 (hS.below hb1) hnc hc)
  obtain ⟨K, hK⟩ : ∃ K, L.take (lkK n) = K := ⟨_, rfl⟩
  obtain ⟨k, hk⟩ : ∃ k, lkK n = k := ⟨_, rfl⟩
  have hk5 : k ≤ 513 := by rw [← hk]; unfold lkK; split <;> first | omega | (split <;> omega)
  rw [hK, hk] at Hlk
  have HY := Lib.hid (show ∀ W, Below w.heap.size w W → R (.returned (.bool true)) W from fun W h => hR.out _ W ⟨rfl, h⟩)
  have Hbx := Lib.hid hbx
  clear hR hS hK hk hal hb1 hbx
  -- both answer the same pair
  obtain ⟨V, E, HA, HB⟩ : ∃ V E : Int, Hid (∀ (W : World) (A2 : Option Addr) (c2 : Nat), SlE linkE 3 W A2 k K → Calls Try.prog 29 #[.int .i64 notes, .slice A2 k c2, .int .i64 f, .int .i64 t] W fun e w' => e = .returned (.tuple #[.int .i64 V, .int .i64 E]) ∧ Below W.heap.size W w') ∧
      Hid (∀ (W : World) (A2 : Option Addr) (c2 : Nat), SlE linkE 3 W A2 k K → Calls Try.prog 30 #[.int .i64 notes, .slice A2 k c2, .int .i64 f, .int .i64 t] W fun e w' => e = .returned (.tuple #[.int .i64 V, .int .i64 E]) ∧ Below W.heap.size W w') := by
    cases hp : pasB notes f t K
    · exact ⟨0, 1, Lib.hid (fun W A2 c2 h => pas_bad notes f t A2 k c2 K W h (by omega) hp), Lib.hid (fun W A2 c2 h => refPas_bad notes f t A2 k c2 K W h (by omega) hp)⟩
    · by_cases hft : f = t
      · subst hft
        exact ⟨0, 0, Lib.hid (fun W A2 c2 h => pas_one notes f A2 k c2 K W h (by omega) hp), Lib.hid (fun W A2 c2 h => refPas_one notes f A2 k c2 K W h (by omega) hp)⟩
      · unfold pasB at hp
        obtain ⟨hb, h2⟩ := Bool.and_eq_true_iff.1 hp
        obtain ⟨h1, h3⟩ := Bool.and_eq_true_iff.1 h2
        have hP := (planB_iff _ _).1 hb
        obtain ⟨f0, f1⟩ := inB_iff.1 h1
        obtain ⟨t0, t1⟩ := inB_iff.1 h3
        obtain ⟨N, rfl⟩ : ∃ N : Nat, notes = N := ⟨notes.toNat, by have := hP.lo; omega⟩
        obtain ⟨fn, rfl⟩ : ∃ fn : Nat, f = fn := ⟨f.toNat, by omega⟩
        obtain ⟨tn, rfl⟩ : ∃ tn : Nat, t = tn := ⟨t.toNat, by omega⟩
        rcases Classical.em (∃ b, SpcV K fn tn b) with ⟨b, hbv⟩ | hno
        · obtain ⟨V, E, hVE⟩ : ∃ V E : Int, (if b < 0 then (.tuple #[.int .i64 0, .int .i64 6] : Value) else .tuple #[.int .i64 b, .int .i64 0]) = .tuple #[.int .i64 V, .int .i64 E] := by
            by_cases h : b < 0
            · exact ⟨0, 6, if_pos h⟩
            · exact ⟨b, 0, if_neg h⟩
          refine ⟨V, E, Lib.hid (fun W A2 c2 h => (pas_ok N fn tn A2 k c2 K W h hP (by omega) (by omega) (by omega)).mono ?_), Lib.hid (fun W A2 c2 h => (refPas_any N fn tn A2 k c2 K W h hP (by omega) (by omega) (by omega)).mono ?_)⟩
          · rintro e w' ⟨⟨d, hd, rfl⟩, hbb⟩
            rw [hd.uniq hbv, hVE]
            exact ⟨rfl, hbb⟩
          · rintro e w' ⟨⟨d, hd, rfl⟩, hbb⟩
            rw [hd.uniq hbv, hVE]
            exact ⟨rfl, hbb⟩
        · refine ⟨0, 0, Lib.hid (fun W A2 c2 h => (pas_ok N fn tn A2 k c2 K W h hP (by omega) (by omega) (by omega)).mono ?_), Lib.hid (fun W A2 c2 h => (refPas_any N fn tn A2 k c2 K W h hP (by omega) (by omega) (by omega)).mono ?_)⟩
          · rintro e w' ⟨⟨d, hd, _⟩, _⟩; exact absurd ⟨d, hd⟩ hno
          · rintro e w' ⟨⟨d, hd, _⟩, _⟩; exact absurd ⟨d, hd⟩ hno
  go_enter Try.func7, Try.ntmps7
  go_upto_region 1 with fail
  rw [Hbx.out]
  obtain ⟨x0, x1, -⟩ := HX.out w1 (Below.refl _ _)
  go_wp2_with (first
    | (go_at_call 23; refine Hlk.out.mono ?_; rintro e1 w2 ⟨A2, c2, rfl, hs, hb⟩; have Hs := Lib.hid hs; have Hb := Lib.hid hb; obtain ⟨x0, x1, -⟩ := HX.out w2 hb; clear hs hb)
    | (go_at_call 29; refine (HA.out _ _ _ Hs.out).mono ?_; rintro e1 w3 ⟨rfl, hb⟩; have Hs := Lib.hid (Hs.out.below hb); have Hb := Lib.hid (Hb.out.trans (hb.mono Hb.out.size)); obtain ⟨x0, x1, -⟩ := HX.out w3 Hb.out; clear hb)
    | (go_at_call 30; refine (HB.out _ _ _ Hs.out).mono ?_; rintro e1 w4 ⟨rfl, hb⟩; have Hb := Lib.hid (Hb.out.trans (hb.mono Hb.out.size)); obtain ⟨x0, x1, -⟩ := HX.out w4 Hb.out; clear hb)
    | (go_at_call 19; refine (lives_any _).mono ?_; rintro e1 w6 ⟨rfl, hb⟩; have Hb := Lib.hid (Hb.out.trans (hb.mono Hb.out.size)); clear hb))
  exact HY.out _ (HX.out _ Hb.out).2.2
end
end Go.Proofs.Ytgmphiklkllnlaa
