/-
  A map of balances: a block that is a map from places to numbers; balances.add, changes; no condition but the sizes that each theorem states. balances.add, balances.do, changes: maps of balances written; no condition but the sizes that each theorem states.
-/
import Derived.Test.YtndcijkgaadpgaaGreatDoorUb
import Derived.DeepKeys5
import Derived.Maps.OwnSet
import Derived.Maps.RangeWalk
import Derived.WideKeyEntry
import Derived.Deep.RegionHeld3
import Derived.IntWalk
namespace Go.Proofs.YtndcijkgaadpgaaGreatDoor
section
section
open Go.RowKit Go.Maps
theorem plRow : (158 : TypeId) < Tryz.prog.types.size := of_decide_eq_true (by kernel_rfl)
theorem plWide : (match Tryz.prog.underlying 158 with | some (.array _ _) | some (.struct _) => true | _ => false) = true := by kernel_rfl
theorem plLaid : laidOutB Tryz.prog = true := by kernel_rfl
theorem plKey : Tryz.prog.keyType 158 = true := by kernel_rfl
theorem plAt : Tryz.prog.keyTypeAt 2 158 = true := by kernel_rfl
set_option maxRecDepth 100000 in
theorem plLaw0 : WideMaps.KeyLaw Tryz.prog 158 := deep_law_laid plLaid (m := 2) (by omega) plRow plAt plWide
theorem plLaw : Keyed Tryz.prog 158 := Keyed.of_law plLaw0
/-- A place as a key. -/
def keyV (p : Pl) : Value := .agg #[.string p.1, .string p.2]
def keyL (p : Pl) : Lit := .string (keyBytes [.string p.1.data.toList, .string p.2.data.toList])
def PlZ (p : Pl) : Prop := p.1.size ≤ 1000000 ∧ p.2.size ≤ 1000000
theorem key_of {p : Pl} (h : PlZ p) : keyOf Tryz.prog 158 (keyV p) = some (keyL p) := by
  obtain ⟨a, i⟩ := p
  obtain ⟨h1, h2⟩ := h
  dsimp only at h1 h2
  have m1 : a.size ≤ maxLen := by unfold maxLen; omega
  have m2 : i.size ≤ maxLen := by unfold maxLen; omega
  obtain ⟨m, hm⟩ : ∃ m, Tryz.prog.types.size = m + 1 := ⟨Tryz.prog.types.size - 1, by have : 0 < Tryz.prog.types.size := Nat.lt_of_le_of_lt (Nat.zero_le _) plRow; omega⟩
  have hkt := plKey
  have hc : Tryz.prog.cellsOf 158 = 2 := by kernel_rfl
  have hcs : Tryz.prog.cellsOf 9 = 1 := by kernel_rfl
  unfold keyOf
  simp only [Tryz.underlying158]
  rw [if_pos (by simp [hkt, keyV, Value.formed, Tryz.underlying158, hc]), hm]
  unfold Program.keyLits
  simp only [Tryz.underlying158, keyV, Value.cells]
  rw [if_pos (by rw [hc]; simp)]
  simp [hcs, Program.keyLits, Tryz.underlying9, m1, m2, keyL]
theorem key_inj {p p' : Pl} (h : PlZ p) (h' : PlZ p') (e : keyL p = keyL p') : p = p' := by
  have := plLaw0.inj (key_of h) (e ▸ key_of h')
  unfold keyV at this
  simp only [Value.agg.injEq] at this
  obtain ⟨a, i⟩ := p
  obtain ⟨a', i'⟩ := p'
  simp at this
  rw [this.1, this.2]
section
open Go.WideElems Go.ChangeMaps Go.MapKept
variable {H : Type} {P : Program} {w : World} {t k e : TypeId} {R : Value → Option (DataW H × List MemPlace)} {b n : Nat} {D : DataW H}
/-- 'm[k] op= v': the entry is taken, then stored: over a map of the call's own. -/
theorem own_entry (K0 : WideMaps.KeyLaw P k) (K : Keyed P k) (h : w.ownsMap P k R b n D) (ht : P.underlying t = some (.map k e)) {z : Value} (hz : ∀ u : World, (zeroValue e).run P u = .ok z u) (hn : n < maxLen) {key : Value} {kl : Lit} (hkey : keyOf P k key = some kl)
    {zd : DataW H} (hzd : R z = some (zd, [])) (hR : ∀ v x, R v = some x → x.2 = []) :
    ∃ (v0 : Value) (st : Nat) (w1 : World), (Instr.mapEntry t (.map (some b)) key).run P w = .ok (.tuple #[v0, goInt st]) w1 ∧ R v0 = some (D.atKey kl zd, []) ∧
      (∃ D1, w1.ownsMap P k R b (n + 1) D1 ∧ ∀ kl', D1.atKey kl' zd = D.atKey kl' zd) ∧ w.mapTurned w1 b ∧
      ∀ val d, R val = some (d, []) → ∃ w2, (Instr.entryStore t (.map (some b)) (goInt st) val).run P w1 = .ok () w2 ∧ w2.ownsMap P k R b (n + 1) (D.put kl d) ∧ w.mapTurned w2 b := by
  have hh := h
  obtain ⟨es, clock, hb, F, hs, hD⟩ := h
  obtain ⟨s1, s2, _⟩ := F.stamped
  rcases K0.find w hkey es.toList F.keys with ⟨h1, h2⟩ | ⟨j, e0, h1, h2, h3⟩
  · have hat : ∀ zd, D.atKey kl zd = zd := by
      rw [hD]
      rcases Maps.fit_look true K ht (hz w) hb F hkey with ⟨_, _, hat⟩ | ⟨e0, y, he, hk, _⟩
      · exact hat
      · exact absurd hk (h2 e0 he)
    have key_run : ∀ val, (Instr.mapUpdate t (.map (some b)) key val).run P w = .ok () (setBlock w b (.map (es.push ⟨key, val, clock⟩) (clock + 1))) := fun val => by
      simp [Instr.mapUpdate, run_underlying ht, MapKept.run_getObj_map hb, K0.check w false hkey, h1, MapKept.run_setObj_map _ hb, Result.andThen, setBlock]
    have upd : ∀ val d, R val = some (d, []) → (setBlock w b (.map (es.push ⟨key, val, clock⟩) (clock + 1))).ownsMap P k R b (n + 1) (D.put kl d) ∧ w.mapTurned (setBlock w b (.map (es.push ⟨key, val, clock⟩) (clock + 1))) b := fun val d hv => by
      obtain ⟨wv, hrv, hov, htv⟩ := hh.store K ht hn hkey hv
      rw [key_run val] at hrv
      cases hrv
      exact ⟨hov, htv⟩
    refine ⟨z, clock, setBlock w b (.map (es.push ⟨key, z, clock⟩) (clock + 1)), ?_, by rw [hat zd]; exact hzd, ⟨D.put kl zd, (upd z zd hzd).1, fun kl' => ?_⟩, (upd z zd hzd).2, fun val d hv => ⟨setBlock w b (.map (es.push ⟨key, val, clock⟩) (clock + 1)), ?_, upd val d hv⟩⟩
    · simp [Instr.mapEntry, run_underlying ht, MapKept.run_getObj_map hb, K0.check w false hkey, h1, hz, MapKept.run_setObj_map _ hb, Result.andThen, setBlock]
    · by_cases e1 : kl' = kl
      · rw [e1, Maps.atKey_put_same hh.isMap (K.key hkey), hat]
      · rw [Maps.atKey_put_other e1]
    · have hw2 : (setBlock w b (.map (es.push ⟨key, z, clock⟩) (clock + 1))).heap[b]? = some (.map (es.push ⟨key, z, clock⟩) (clock + 1)) := heap_setBlock_same hb _
      have hidx : (es.push ⟨key, z, clock⟩).findIdx? (fun e => ((e.born : Nat) : Int) == ((clock : Nat) : Int)) = some es.size := by
        rw [findIdx_arr]
        have := findIdx_born (l := (es.push ⟨key, z, clock⟩).toList) (j := es.size) (e0 := ⟨key, z, clock⟩) (by
          simp only [Array.toList_push, List.map_append, List.map_cons, List.map_nil]
          refine List.nodup_append.2 ⟨s2, by simp, fun a ha c hc e1 => ?_⟩
          simp only [List.mem_singleton] at hc
          obtain ⟨x, hx, rfl⟩ := List.mem_map.1 ha
          have := s1 x hx
          omega) (by simp)
        exact this
      have hmod : (es.push ⟨key, z, clock⟩).modify es.size (fun e => { e with val := val }) = es.push ⟨key, val, clock⟩ := by
        apply Array.ext'
        rw [Array.toList_modify, Array.toList_push, Array.toList_push, ← Array.length_toList, modify_last]
      have gen : ∀ w2 : World, w2.heap[b]? = some (.map (es.push ⟨key, z, clock⟩) (clock + 1)) → (Instr.entryStore t (.map (some b)) (goInt clock) val).run P w2 = .ok () (setBlock w2 b (.map (es.push ⟨key, val, clock⟩) (clock + 1))) := fun w2 hw2 => by
        simp [Instr.entryStore, MapKept.run_getObj_map hw2, asInt, asIntOf, goInt, hidx, hmod, MapKept.run_setObj_map _ hw2, Result.andThen, setBlock]
      rw [gen _ hw2]
      simp [setBlock]
  · have hj : es[j]? = some e0 := by simpa using h2
    have hsame : es.modify j (fun e => { e with key := key }) = es := by
      apply Array.ext'
      rw [Array.toList_modify, modify_eq_set _ _ _ _ h2]
      have : ({ e0 with key := key } : MapEntry) = e0 := by rw [← h3]
      rw [this]
      exact set_self _ _ _ h2
    have hval : R e0.val = some (D.atKey kl zd, []) := by
      rw [hD]
      rcases Maps.fit_look true K ht (hz w) hb F hkey with ⟨_, hno, _⟩ | ⟨e1, y, he, hk, _, hy, hat, _⟩
      · exact absurd h3 (hno e0 (List.mem_of_getElem? h2))
      · have hee : e1 = e0 := entry_eq_of_key ((stamped_iff _ _).1 F.stamped).2.2 he (List.mem_of_getElem? h2) (hk.trans h3.symm)
        rw [hat zd, ← hee, hy, ← hR _ _ hy]
    have hself : setBlock w b (.map es clock) = w := by
      unfold setBlock
      congr 1
      apply Array.ext_getElem?
      intro i
      by_cases e1 : i = b
      · subst e1
        rw [Array.getElem?_setIfInBounds_self_of_lt (Array.getElem?_eq_some_iff.1 hb).1, hb]
      · rw [Array.getElem?_setIfInBounds_ne (fun e => e1 e.symm)]
    have key_run : ∀ val, (Instr.mapUpdate t (.map (some b)) key val).run P w = .ok () (setBlock w b (.map (es.modify j (fun e' => { e' with key := key, val := val })) clock)) := fun val => by
      simp [Instr.mapUpdate, run_underlying ht, MapKept.run_getObj_map hb, K0.check w false hkey, h1, hj, h3, K0.stays w hkey, MapKept.run_setObj_map _ hb, Result.andThen, setBlock]
    refine ⟨e0.val, e0.born, w, ?_, hval, ⟨D, hh.mono (Nat.le_succ _), fun _ => rfl⟩, hh.turned_refl, fun val d hv => ?_⟩
    · have : (Instr.mapEntry t (.map (some b)) key).run P w = .ok (.tuple #[e0.val, goInt e0.born]) (setBlock w b (.map es clock)) := by
        simp [Instr.mapEntry, run_underlying ht, MapKept.run_getObj_map hb, K0.check w false hkey, h1, hj, h3, K0.stays w hkey, hsame, MapKept.run_setObj_map _ hb, Result.andThen, setBlock]
      rw [this, hself]
    · obtain ⟨wv, hrv, hov, htv⟩ := hh.store K ht hn hkey hv
      rw [key_run val] at hrv
      cases hrv
      refine ⟨_, ?_, hov, htv⟩
      have hidx : es.findIdx? (fun e => ((e.born : Nat) : Int) == ((e0.born : Nat) : Int)) = some j := by
        rw [findIdx_arr]
        exact findIdx_born s2 h2
      have hmod : es.modify j (fun e => { e with val := val }) = es.modify j (fun e' => { e' with key := key, val := val }) := by
        apply Array.ext'
        rw [Array.toList_modify, Array.toList_modify, modify_eq_set _ _ _ _ h2, modify_eq_set _ _ _ _ h2, ← h3]
      simp [Instr.entryStore, MapKept.run_getObj_map hb, asInt, asIntOf, goInt, hidx, hmod, MapKept.run_setObj_map _ hb, Result.andThen, setBlock]
end
theorem plZero (w : World) : (zeroValue 3).run Tryz.prog w = .ok (.int .i64 0) w := by kernel_rfl
theorem plT1 : Tryz.prog.underlying 112 = some (.map 158 3) := Tryz.underlying112
theorem plT2 : Tryz.prog.underlying 111 = some (.map 158 3) := Tryz.underlying111
def i64D (x : Int) : DataW Unit := .lit (.int .i64 x)
/-- Block b is a map D that reads as f. -/
def BalD (W : World) (b n : Nat) (D : DataW Unit) (f : Pl → Int) : Prop :=
  W.ownsMap Tryz.prog 158 (plainElem Tryz.prog 3) b n D ∧ ∀ p, PlZ p → D.atKey (keyL p) (i64D 0) = i64D (f p)
/-- Block b is a map that reads as f, what is 0 is not there. -/
def BalZ (W : World) (b n : Nat) (f : Pl → Int) : Prop := ∃ D, BalD W b n D f ∧ (∀ p, PlZ p → Maps.has D (keyL p) = decide (f p ≠ 0)) ∧ ∀ kl, Maps.has D kl = true → ∃ p, PlZ p ∧ kl = keyL p
def i64B (x : Int) : Prop := -9223372036854775808 ≤ x ∧ x ≤ 9223372036854775807
theorem elI {x : Int} (h : i64B x) : plainElem Tryz.prog 3 (.int .i64 x) = some (i64D x, []) := plainElem_int Tryz.underlying3 (by
  obtain ⟨h1, h2⟩ := h
  simp [Lit.wf, IntKind.min, IntKind.max, IntKind.signed, IntKind.bits]
  omega)
section
variable {W w : World} {b n : Nat} {D : DataW Unit} {f : Pl → Int} {p : Pl} {T : TypeId}
theorem BalD.keep (h : BalD W b n D f) (hk : w.heap[b]? = W.heap[b]?) : BalD w b n D f := by
  obtain ⟨⟨es, clock, hb, F, hs, hD⟩, h2⟩ := h
  exact ⟨⟨es, clock, hk.trans hb, F, hs, hD⟩, h2⟩
theorem BalD.lt (h : BalD W b n D f) : b < W.heap.size := h.1.lt
theorem BalZ.keep (h : BalZ W b n f) (hk : w.heap[b]? = W.heap[b]?) : BalZ w b n f := let ⟨D, h1, h2⟩ := h; ⟨D, h1.keep hk, h2⟩
theorem BalZ.lt (h : BalZ W b n f) : b < W.heap.size := let ⟨_, h1, _⟩ := h; h1.lt
theorem BalD.look (h : BalD W b n D f) (hT : Tryz.prog.underlying T = some (.map 158 3)) (hp : PlZ p) : (Instr.lookup T (.map (some b)) (keyV p) false).run Tryz.prog W = .ok (.int .i64 (f p)) W := by
  obtain ⟨h1, h2⟩ := h
  obtain ⟨c, hrun, hat, _⟩ := h1.lookup_int plLaw hT Tryz.underlying3 (plZero W) (key_of hp)
  have := h2 p hp
  unfold i64D at this
  rw [hat] at this
  simp only [DataW.lit.injEq, Lit.int.injEq, true_and] at this
  rw [hrun, this]
/-- A value is written. -/
def updF (f : Pl → Int) (p : Pl) (x : Int) : Pl → Int := fun q => if q = p then x else f q
theorem BalD.upd (h : BalD W b n D f) (hp : PlZ p) {x : Int} {m : Nat} (ho : w.ownsMap Tryz.prog 158 (plainElem Tryz.prog 3) b m (D.put (keyL p) (i64D x))) : BalD w b m (D.put (keyL p) (i64D x)) (updF f p x) := by
  refine ⟨ho, fun q hq => ?_⟩
  unfold updF
  by_cases e : q = p
  · subst e
    rw [if_pos rfl, Maps.atKey_put_same h.1.isMap (plLaw.key (key_of hp))]
  · rw [if_neg e, Maps.atKey_put_other (fun h' => e (key_inj hq hp h'))]
    exact h.2 q hq
theorem BalD.entry (h : BalD W b n D f) (hT : Tryz.prog.underlying T = some (.map 158 3)) (hp : PlZ p) (hn : n < maxLen) :
    ∃ (st : Nat) (w1 : World), (Instr.mapEntry T (.map (some b)) (keyV p)).run Tryz.prog W = .ok (.tuple #[.int .i64 (f p), goInt st]) w1 ∧ (∃ D1, BalD w1 b (n + 1) D1 f) ∧ W.mapTurned w1 b ∧
      ∀ x, i64B x → ∃ w2, (Instr.entryStore T (.map (some b)) (goInt st) (.int .i64 x)).run Tryz.prog w1 = .ok () w2 ∧ BalD w2 b (n + 1) (D.put (keyL p) (i64D x)) (updF f p x) ∧ W.mapTurned w2 b := by
  obtain ⟨v0, st, w1, hr, hv, ⟨D1, hD1, hD2⟩, ht1, hst⟩ := own_entry plLaw0 plLaw h.1 hT plZero hn (key_of hp) (zd := i64D 0) (elI ⟨by omega, by omega⟩) (fun v x hx => plainElem_places hx)
  rw [h.2 p hp] at hv
  obtain ⟨c, rfl, hc, _⟩ := plainElem_int_inv Tryz.underlying3 hv
  have hc' : f p = c := by
    have := congrArg Prod.fst hc
    simpa [i64D] using this
  subst hc'
  refine ⟨st, w1, hr, ⟨D1, hD1, fun q hq => (hD2 _).trans (h.2 q hq)⟩, ht1, fun x hx => ?_⟩
  obtain ⟨w2, hr2, ho2, ht2⟩ := hst _ _ (elI hx)
  exact ⟨w2, hr2, h.upd hp ho2, ht2⟩
end
end
end
section
section
open Go.RowKit Go.Maps
set_option maxRecDepth 8000 in
set_option maxHeartbeats 4000000 in
theorem add_any (w : World) (b n : Nat) (f : Pl → Int) (a i : ByteArray) (x : Int) (h : BalZ w b n f) (hn : n < 1000000000) (hp : PlZ (a, i)) (hf : i64B (f (a, i))) (hx : i64B x) (hs : i64B (f (a, i) + x)) :
    Calls Tryz.prog 69 #[.map (some b), .agg #[.string a, .string i], .int .i64 x] w fun e w' => e = .returned (.tuple #[]) ∧ BalZ w' b (n + 1) (fun q => f q + if q = (a, i) then x else 0) ∧ Kx (fun j => j = b) w w' := by
  refine calls_cps ?_
  intro R hR
  obtain ⟨D, hD, hZ, hY⟩ := h
  obtain ⟨W0, hW0⟩ : ∃ W0, w.alloc (.cells #[.string a, .string i] 158) = W0 := ⟨_, rfl⟩
  have hbx : W0.heap[w.heap.size]? = some (.cells #[.string a, .string i] 158 (0, 0)) := by rw [← hW0]; exact heap_alloc_new w _
  have hD0 : BalD W0.drew b n D f := hD.keep (by rw [← hW0]; exact heap_alloc_old w _ hD.lt)
  have hl := hD0.look plT1 hp
  obtain ⟨st, w1, he, ⟨D1, hD1⟩, ht1, hst⟩ := hD0.entry plT1 hp (by unfold maxLen; omega)
  have hl1 := hD1.look plT1 hp
  obtain ⟨w2, hs2, hD2, ht2⟩ := hst (f (a, i) + x) hs
  have hg1 := ht1.grown
  have hg2 := ht2.grown
  have hne : w.heap.size ≠ b := Nat.ne_of_gt hD.lt
  have hsz : w.heap.size < W0.heap.size := by rw [← hW0]; simp
  have hb1 : w1.heap[w.heap.size]? = some (.cells #[.string a, .string i] 158 (0, 0)) := (hg1.block _ hsz (fun e => hne (by injection e))).trans hbx
  have hb2 : w2.heap[w.heap.size]? = some (.cells #[.string a, .string i] 158 (0, 0)) := (hg2.block _ hsz (fun e => hne (by injection e))).trans hbx
  obtain ⟨c0, c1, -⟩ := cells2 hbx
  obtain ⟨d0, d1, -⟩ := cells2 hb1
  obtain ⟨e0, e1, -⟩ := cells2 hb2
  obtain ⟨hf1, hf2⟩ := hf
  obtain ⟨hx1, hx2⟩ := hx
  obtain ⟨hs1, hs2'⟩ := hs
  have HD2 := Lib.hid hD2
  have HG2 := Lib.hid hg2
  have HZ := Lib.hid hZ
  have HY := Lib.hid hY
  have HDm := Lib.hid hD.1.isMap
  have hl2 := hD2.look plT1 hp
  have hup : updF f (a, i) (f (a, i) + x) (a, i) = f (a, i) + x := by unfold updF; rw [if_pos rfl]
  rw [hup] at hl2
  obtain ⟨v, hv⟩ : ∃ v, f (a, i) = v := ⟨_, rfl⟩
  rw [hv] at hl hl1 he hf1 hf2 hs1 hs2' hs2 hl2
  have HV := Lib.hid hv
  have HW0 := Lib.hid hW0
  have hwr : IntKind.i64.wrap (v + x) = v + x := IntWalk.i64_in _ (by omega)
  have hl : (Instr.lookup 112 (.map (some b)) (.agg #[.string a, .string i]) false).run Tryz.prog W0.drew = .ok (.int .i64 v) W0.drew := hl
  have hl1 : (Instr.lookup 112 (.map (some b)) (.agg #[.string a, .string i]) false).run Tryz.prog w1 = .ok (.int .i64 v) w1 := hl1
  have hl2 : (Instr.lookup 112 (.map (some b)) (.agg #[.string a, .string i]) false).run Tryz.prog w2 = .ok (.int .i64 (v + x)) w2 := hl2
  have he : (Instr.mapEntry 112 (.map (some b)) (.agg #[.string a, .string i])).run Tryz.prog W0.drew = .ok (.tuple #[.int .i64 v, goInt st]) w1 := he
  have hs2 : (Instr.entryStore 112 (.map (some b)) (.int .i64 st) (.int .i64 (v + x))).run Tryz.prog w1 = .ok () w2 := hs2
  unfold goInt at he
  clear hD hZ hY hD0 hst hD1 ht1 ht2 hg1 hg2 hb1 hb2 hbx hv hD2 hup hsz
  go_enter Tryz.func69, Tryz.ntmps69
  go_upto_region 1 with fail
  go_region
  have hfun : updF f (a, i) (v + x) = fun q => f q + if q = (a, i) then x else 0 := by
    funext q
    unfold updF
    by_cases e : q = (a, i)
    · rw [if_pos e, if_pos e, e, HV.out]
    · rw [if_neg e, if_neg e, Int.add_zero]
  have Hfun := Lib.hid hfun
  have HK := Lib.hid (show Kx (fun j => j = b) w w2 from by
    have h0 : Kx (fun j => j = b) w W0 := by rw [← hW0]; exact kx_of_below (below_new w _)
    exact (h0.drewN 1).grown HG2.out fun j hj => .inl (by injection hj with e; exact e.symm))
  have HP := Lib.hid hp
  clear hfun hp hl hl1 he hs2
  by_cases hz : v + x = 0
  · have z1 : (v + x == 0) = true := by rw [beq_iff_eq]; exact hz
    have HE := Lib.hid hz
    clear hz
    go_wp2_with (at_delete; refine wpList_delete_own _ rfl _ _ 112 158 rfl 3 plLaw plT1 _ b (n + 1) _ rfl HD2.out.1 (.agg #[.string a, .string i]) _ rfl (key_of HP.out) ?_; intro w3 ho3 ht3)
    go_end0
    refine hR.out _ _ ⟨rfl, ⟨_, ⟨ho3, fun q hq => ?_⟩, fun q hq => ?_, fun kl hk => ?_⟩, HK.out.grown ht3.grown fun j hj => .inl (by injection hj with e; exact e.symm)⟩
    · by_cases e : q = (a, i)
      · subst e
        rw [Maps.atKey_del_same]
        show i64D 0 = i64D (f (a, i) + if (a, i) = (a, i) then x else 0)
        rw [if_pos rfl, HV.out, HE.out]
      · rw [Maps.atKey_del_other (fun h' => e (key_inj hq HP.out h'))]
        have h2 := HD2.out.2 q hq
        have e3 := Hfun.out
        rw [← HV.out] at e3
        rw [e3] at h2
        exact h2
    · by_cases e : q = (a, i)
      · subst e
        rw [Maps.has_del_same]
        show _ = decide ((f (a, i) + if (a, i) = (a, i) then x else 0) ≠ 0)
        rw [if_pos rfl, HV.out, HE.out]
        rfl
      · rw [Maps.has_del_other (fun h' => e (key_inj hq HP.out h')), Maps.has_put_other (fun h' => e (key_inj hq HP.out h')), HZ.out q hq]
        show _ = decide ((f q + if q = (a, i) then x else 0) ≠ 0)
        rw [if_neg e, Int.add_zero]
    · by_cases e : kl = keyL (a, i)
      · exact ⟨(a, i), HP.out, e⟩
      · rw [Maps.has_del_other e, Maps.has_put_other e] at hk
        exact HY.out kl hk
  · have z1 : (v + x == 0) = false := by rw [beq_eq_false_iff_ne]; exact hz
    have HE := Lib.hid hz
    clear hz
    go_wp2
    go_end0
    refine hR.out _ _ ⟨rfl, ⟨D.put (keyL (a, i)) (i64D (f (a, i) + x)), ?_, fun q hq => ?_, fun kl hk => ?_⟩, HK.out⟩
    · have e3 := Hfun.out
      rw [← HV.out] at e3
      rw [← e3]
      exact HD2.out
    · by_cases e : q = (a, i)
      · subst e
        rw [Maps.has_put_same HDm.out (plLaw.key (key_of HP.out))]
        show _ = decide ((f (a, i) + if (a, i) = (a, i) then x else 0) ≠ 0)
        rw [if_pos rfl, HV.out]
        exact (decide_eq_true HE.out).symm
      · rw [Maps.has_put_other (fun h' => e (key_inj hq HP.out h')), HZ.out q hq]
        show _ = decide ((f q + if q = (a, i) then x else 0) ≠ 0)
        rw [if_neg e, Int.add_zero]
    · by_cases e : kl = keyL (a, i)
      · exact ⟨(a, i), HP.out, e⟩
      · rw [Maps.has_put_other e] at hk
        exact HY.out kl hk
theorem Sl.kx {w w' : World} {S : Nat → Prop} {sz n : Nat} {A : Option Addr} {xs : List Value} (h : Sl w sz A n xs) (k : Kx S w w') (hs : ∀ a, 0 < n → A = some a → ¬ S a.block) : Sl w' sz A n xs :=
  ⟨h.1, fun hn => by
    obtain ⟨b, o, e, hb, hc⟩ := h.2 hn
    exact ⟨b, o, e, Nat.lt_of_lt_of_le hb k.size, fun j u hu => (World.cell?_of_block (w := w) (k.block b hb (hs _ hn e))).trans (hc j u hu)⟩⟩
theorem bal_ne {w : World} {b n blk o : Nat} {f : Pl → Int} {u : Value} (h : BalZ w b n f) (hc : w.cell? ⟨blk, o, none⟩ = some u) : blk ≠ b := by
  obtain ⟨D, ⟨⟨es, clock, hb, _⟩, _⟩, _⟩ := h
  intro e
  subst e
  simp [World.cell?, hb] at hc
theorem SlE.bal {α : Type} {enc : α → List Value} {sz : Nat} {w w' : World} {A : Option Addr} {n b m : Nat} {l : List α} {f : Pl → Int} (hz : ∀ x, (enc x).length = sz) (hsz : 0 < sz) (h : SlE enc sz w A n l) (hb : BalZ w b m f) (k : Kx (fun j => j = b) w w') : SlE enc sz w' A n l := by
  refine ⟨h.1, h.2.kx k fun a hn hA hab => ?_⟩
  obtain ⟨b0, o, x, hA', _, _, hc⟩ := h.at_ hz hn
  rw [hA] at hA'
  cases hA'
  have h0 : ∃ u, (enc x)[0]? = some u := ⟨_, List.getElem?_eq_getElem (by rw [hz]; exact hsz)⟩
  obtain ⟨u, hu⟩ := h0
  exact bal_ne hb (hc 0 u hu) hab
theorem enA_take {l : List Mv} {k : Nat} {m : Mv} (h : l[k]? = some m) (q : Pl) : enA (l.take (k + 1)) q = enA (l.take k) q + mvA m q := by
  rw [List.take_add_one, h]
  exact enA_snoc m _ q
theorem mvA_bd {m : Mv} (h1 : 1 ≤ m.q) (h2 : m.q ≤ 1000000000) (q : Pl) : -1000000000 ≤ mvA m q ∧ mvA m q ≤ 1000000000 := by
  unfold mvA
  split <;> split <;> omega
theorem enA_bd {l : List Mv} (h : ∀ m ∈ l, 1 ≤ m.q ∧ m.q ≤ 1000000000) (q : Pl) : -(1000000000 * (l.length : Int)) ≤ enA l q ∧ enA l q ≤ 1000000000 * (l.length : Int) := by
  induction l with
  | nil => exact ⟨by simp [enA], by simp [enA]⟩
  | cons m l ih =>
    obtain ⟨h1, h2⟩ := ih fun x hx => h x (List.mem_cons_of_mem _ hx)
    obtain ⟨h3, h4⟩ := mvA_bd (h m List.mem_cons_self).1 (h m List.mem_cons_self).2 q
    rw [enA_cons, List.length_cons]
    omega
theorem updF_bd {f : Pl → Int} {lo hi : Int} (h : ∀ q, lo ≤ f q ∧ f q ≤ hi) {p : Pl} {x : Int} (hx : lo - 1000000000 ≤ x ∧ x ≤ hi + 1000000000) (q : Pl) : lo - 1000000000 ≤ updF f p x q ∧ updF f p x q ≤ hi + 1000000000 := by
  unfold updF
  have := h q
  split <;> omega
def BalB (f : Pl → Int) : Prop := ∀ q, -2000000000000 ≤ f q ∧ f q ≤ 2000000000000
set_option maxRecDepth 8000 in
set_option maxHeartbeats 4000000 in
theorem do_any (w : World) (b n0 : Nat) (f : Pl → Int) (A : Option Addr) (n c : Nat) (l : List Mv) (h : BalZ w b n0 f) (hn0 : n0 < 900000000) (hf : BalB f) (hX : SlE mvE 4 w A n l) (hz : mvZ l) :
    Calls Tryz.prog 42 #[.map (some b), .slice A n c] w fun e w' => e = .returned (.tuple #[]) ∧ BalZ w' b (n0 + 2 * n) (fun q => f q + enA l q) ∧ Kx (fun j => j = b) w w' := by
  refine calls_cps ?_
  intro R hR
  have Hr := Lib.hid hR.out
  have HX := Lib.hid hX
  have HB := Lib.hid h
  have Hf := Lib.hid hf
  have Hz := Lib.hid hz
  have Hn := Lib.hid hX.1
  have hn : n ≤ 32 := by rw [hX.1]; exact hz.1
  clear hR hX hz hf h
  go_enter Tryz.func42, Tryz.ntmps42
  go_wp2_with fail
  go_loopw [8] (fun s8 wr => ∃ k : Nat, k ≤ n ∧ s8 = .int .i64 (k : Int) ∧ Hid (BalZ wr b (n0 + 2 * k) (fun q => f q + enA (l.take k) q)) ∧ Hid (Kx (fun j => j = b) w wr)) (fun s8 _ => n - (intOf s8).toNat)
  case atStart =>
    exact ⟨0, Nat.zero_le _, rfl, Lib.hid (by simpa [enA] using HB.out), Lib.hid (Kx.refl _ _)⟩
  case round =>
    obtain ⟨k, hk, rfl, Hb, Hk⟩ := hrel
    by_cases hlt : k < n
    · obtain ⟨b0, o, y, rfl, hb, hy, q0, q1, q2, q3⟩ := (HX.out.bal mvE_len (by omega) HB.out Hk.out).mv_at hlt
      obtain ⟨z1, z2, z3, z4, z5⟩ := Hz.out.2 y (List.mem_of_getElem? hy)
      have i1 : (k : Int) < (n : Int) := by omega
      have Hy := Lib.hid hy
      obtain ⟨gf, hgf⟩ : ∃ gf : Pl → Int, (fun q => f q + enA (l.take k) q) = gf := ⟨_, rfl⟩
      have hgb : ∀ q, -2100000000000 ≤ gf q ∧ gf q ≤ 2100000000000 := fun q => by
        have h1 := Hf.out q
        have h2 := enA_bd (l := l.take k) (fun m hm => by have := Hz.out.2 m (List.mem_of_mem_take hm); omega) q
        rw [List.length_take] at h2
        rw [← hgf]
        dsimp only
        omega
      rw [hgf] at Hb
      have HG := Lib.hid hgf
      have HGB := Lib.hid hgb
      have hneg : IntKind.i64.wrap (-y.q) = -y.q := IntWalk.i64_in _ (by omega)
      have hbox := heap_alloc_new wr (.cells #[.string y.f, .string y.t, .string y.i, .int .i64 y.q] 142)
      have HBX := Lib.hid hbox
      have hne : wr.heap.size ≠ b := Nat.ne_of_gt Hb.out.lt
      have HNE := Lib.hid hne
      have HB1 := Lib.hid (Hb.out.keep (w := wr.alloc (.cells #[.string y.f, .string y.t, .string y.i, .int .i64 y.q] 142)) (heap_alloc_old wr _ Hb.out.lt))
      have HK1 := Lib.hid (Hk.out.below (below_new wr (.cells #[.string y.f, .string y.t, .string y.i, .int .i64 y.q] 142)))
      have p1 : PlZ (y.f, y.i) := ⟨by dsimp only; omega, by dsimp only; omega⟩
      have p2 : PlZ (y.t, y.i) := ⟨by dsimp only; omega, by dsimp only; omega⟩
      have g1 := hgb (y.f, y.i)
      have g2 := hgb (y.t, y.i)
      clear hy hgf hgb hbox hne
      go_wp2_with fail
      refine (add_any _ b (n0 + 2 * k) gf y.f y.i (-y.q) HB1.out (by omega) p1 ⟨by omega, by omega⟩ ⟨by omega, by omega⟩ ⟨by omega, by omega⟩).mono ?_
      rintro e w2 ⟨rfl, hb2, hk2⟩
      have hbx2 := (hk2.block wr.heap.size (by simp) HNE.out).trans HBX.out
      obtain ⟨r0, r1, r2, r3, -⟩ := cells4 hbx2
      have HB2 := Lib.hid hb2
      have HK2 := Lib.hid (HK1.out.trans hk2 (fun _ _ h => h))
      have g3 : i64B (gf (y.t, y.i) + if (y.t, y.i) = (y.f, y.i) then -y.q else 0) := by
        split
        · exact ⟨by omega, by omega⟩
        · exact ⟨by omega, by omega⟩
      have g4 : i64B ((gf (y.t, y.i) + if (y.t, y.i) = (y.f, y.i) then -y.q else 0) + y.q) := by
        split
        · exact ⟨by omega, by omega⟩
        · exact ⟨by omega, by omega⟩
      have HG3 := Lib.hid g3
      have HG4 := Lib.hid g4
      clear hb2 hk2 hbx2 g3 g4
      go_wp2_with fail
      refine (add_any _ b (n0 + 2 * k + 1) _ y.t y.i y.q HB2.out (by omega) p2 HG3.out ⟨by omega, by omega⟩ HG4.out).mono ?_
      rintro e w3 ⟨rfl, hb3, hk3⟩
      have HB3 := Lib.hid hb3
      have HK3 := Lib.hid (HK2.out.trans hk3 (fun _ _ h => h))
      clear hb3 hk3
      go_wp2_with fail
      refine ⟨⟨k + 1, hlt, by go_num, Lib.hid ?_, HK3⟩, by simp [intOf] <;> omega⟩
      have hb3 := HB3.out
      have e1 : (fun q => (gf q + if q = (y.f, y.i) then -y.q else 0) + if q = (y.t, y.i) then y.q else 0) = fun q => f q + enA (l.take (k + 1)) q := by
        funext q
        rw [enA_take Hy.out, ← HG.out]
        unfold mvA
        dsimp only
        by_cases e1 : q = (y.f, y.i)
        · by_cases e2 : q = (y.t, y.i)
          · rw [if_pos e1, if_pos e2, if_pos e2.symm, if_pos e1.symm]
            omega
          · rw [if_pos e1, if_neg e2, if_neg (fun h => e2 h.symm), if_pos e1.symm]
            omega
        · by_cases e2 : q = (y.t, y.i)
          · rw [if_neg e1, if_pos e2, if_pos e2.symm, if_neg (fun h => e1 h.symm)]
            omega
          · rw [if_neg e1, if_neg e2, if_neg (fun h => e2 h.symm), if_neg (fun h => e1 h.symm)]
            omega
      rw [e1] at hb3
      exact hb3
    · have hkn : k = n := by omega
      subst hkn
      have i1 : ¬ (k : Int) < (k : Int) := by omega
      go_wp2_with fail
      go_end0
      have hb := Hb.out
      rw [List.take_of_length_le (by rw [← Hn.out]; exact Nat.le_refl _)] at hb
      exact Hr.out _ _ ⟨rfl, hb, Hk.out⟩
end
end
end Go.Proofs.YtndcijkgaadpgaaGreatDoor
