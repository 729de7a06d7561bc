/-
  Contract of wire.fill; plain and memory for wire.Best.
-/
import Derived.Test.YtojbldoekalbnaaGreatDoorIC
namespace Go.Proofs.YtojbldoekalbnaaGreatDoor
section
section
open Go.RowKit
/-- The prices that look left. -/
def PrR (W : World) (ra : Option Addr) (n q : Nat) (pr : Nat → Nat → Int) : Prop :=
  ∀ i, i < n → ∃ b o b' o' c', ra = some ⟨b, o, none⟩ ∧ b < W.heap.size ∧ b' < W.heap.size ∧ W.cell? ⟨b, o + i, none⟩ = some (.slice (some ⟨b', o', none⟩) q c') ∧ ∀ p, p < q → W.cell? ⟨b', o' + p, none⟩ = some (.int .i64 (pr i p))
/-- The search while it is filled. -/
structure FlS (w W : World) (sb tb : Nat) (A : Option Addr) (n c : Nat) (s1 s2 s3 : Value) (ch : Nat) (pa : Option Addr) (q pc : Nat) (ra : Option Addr) (rc : Nat) : Prop where
  kx : Kx (fun j => j = sb) w W
  sbx : W.heap[sb]? = some (.cells #[.slice A n c, s1, s2, s3, .int .i64 (ch : Nat), .slice pa q pc, .slice ra n rc, .slice (some ⟨tb, 0, none⟩) n n] 67 (0, 0))
  lo : w.heap.size ≤ tb
  lt : sb < w.heap.size
theorem FlS.step {w W W' : World} {sb tb : Nat} {A : Option Addr} {n c : Nat} {s1 s2 s3 : Value} {ch : Nat} {pa : Option Addr} {q pc : Nat} {ra : Option Addr} {rc : Nat} {S : Nat → Prop} (h : FlS w W sb tb A n c s1 s2 s3 ch pa q pc ra rc) (hk : Kx S W W') (hs : ∀ j, S j → w.heap.size ≤ j) :
    FlS w W' sb tb A n c s1 s2 s3 ch pa q pc ra rc :=
  ⟨h.kx.trans hk (fun j hj hS => absurd (hs j hS) (by omega)), (hk.block _ (Array.getElem?_eq_some_iff.1 h.sbx).1 (fun hS => absurd (hs _ hS) (by have := h.lt; omega))).trans h.sbx, h.lo, h.lt⟩
theorem FlS.slt {w W : World} {sb tb : Nat} {A : Option Addr} {n c : Nat} {s1 s2 s3 : Value} {ch : Nat} {pa : Option Addr} {q pc : Nat} {ra : Option Addr} {rc : Nat} (h : FlS w W sb tb A n c s1 s2 s3 ch pa q pc ra rc) : sb < W.heap.size := (Array.getElem?_eq_some_iff.1 h.sbx).1
/-- Loop over the picks. -/
structure Fl2 (w W : World) (sb tb : Nat) (A : Option Addr) (n c : Nat) (s1 s2 s3 : Value) (ch : Nat) (pa : Option Addr) (q pc : Nat) (ra : Option Addr) (rc c1 : Nat) (V : Nat → Nat → Nat → Int) (rb i p : Nat) (Tc cs : Array Value) : Prop where
  S : FlS w W sb tb A n c s1 s2 s3 ch pa q pc ra rc
  F : Fi W rb tb n Tc (i + 1) q c1 V
  tc : Tc[i]? = some (.slice (some ⟨rb, 0, none⟩) q q)
  O : Ro W rb W.heap.size rb q cs p c1 (V i)
/-- Loop over the changes. -/
structure Fl3 (w W : World) (sb tb : Nat) (A : Option Addr) (n c : Nat) (s1 s2 s3 : Value) (ch : Nat) (pa : Option Addr) (q pc : Nat) (ra : Option Addr) (rc c1 : Nat) (V : Nat → Nat → Nat → Int) (rb cb i p l : Nat) (Tc cs : Array Value) : Prop where
  S : FlS w W sb tb A n c s1 s2 s3 ch pa q pc ra rc
  F : Fi W rb tb n Tc (i + 1) q c1 V
  tc : Tc[i]? = some (.slice (some ⟨rb, 0, none⟩) q q)
  O : Ro W rb cb rb q cs p c1 (V i)
  ck : cs[p]? = some (.slice (some ⟨cb, 0, none⟩) c1 c1)
  R : RwF W cb c1 l (V i p)
section
variable {w W W' : World} {sb tb : Nat} {A : Option Addr} {n c : Nat} {s1 s2 s3 : Value} {ch : Nat} {pa : Option Addr} {q pc : Nat} {ra : Option Addr} {rc c1 : Nat} {V : Nat → Nat → Nat → Int} {rb cb i p l : Nat} {Tc cs : Array Value}
theorem Fl3.below (h : Fl3 w W sb tb A n c s1 s2 s3 ch pa q pc ra rc c1 V rb cb i p l Tc cs) (hb : Below W.heap.size W W') : Fl3 w W' sb tb A n c s1 s2 s3 ch pa q pc ra rc c1 V rb cb i p l Tc cs := by
  have k : Kx (fun _ => False) W W' := (Kx.refl _ W).below hb
  exact ⟨h.S.step k (fun j h => h.elim), h.F.kx k (fun _ _ _ h => h), h.tc, h.O.kx k (fun _ _ _ h => h), h.ck, h.R.below hb⟩
theorem Fl3.set (h : Fl3 w W sb tb A n c s1 s2 s3 ch pa q pc ra rc c1 V rb cb i p l Tc cs) (hl : l < c1) {v : Int} (hv : v = V i p l) : Fl3 w (W.setCell ⟨cb, l, none⟩ (.int .i64 v)) sb tb A n c s1 s2 s3 ch pa q pc ra rc c1 V rb cb i p (l + 1) Tc cs := by
  have k := kx_one W cb l (.int .i64 v)
  have h1 := h.S.lo
  have h2 := h.F.hhi
  have h3 := h.O.hhi
  exact ⟨h.S.step k (fun j h => by omega), h.F.kx k (fun j _ _ h => by omega), h.tc, h.O.kx k (fun j _ _ h => by omega), h.ck, h.R.set hl hv⟩
theorem Fl3.done (h : Fl3 w W sb tb A n c s1 s2 s3 ch pa q pc ra rc c1 V rb cb i p c1 Tc cs) : Fl2 w W sb tb A n c s1 s2 s3 ch pa q pc ra rc c1 V rb i (p + 1) Tc cs :=
  ⟨h.S, h.F, h.tc, h.O.push h.ck (Nat.le_refl _) h.R.lt h.R⟩
theorem Fl2.next (h : Fl2 w W sb tb A n c s1 s2 s3 ch pa q pc ra rc c1 V rb i p Tc cs) (hp : p < q) (h1 : ((W.setCell ⟨rb, p, none⟩ (.slice (some ⟨W.heap.size, 0, none⟩) c1 c1)).alloc (.cells (madeCells #[Value.int .i64 0] c1) 3)).drew = W') :
    Fl3 w W' sb tb A n c s1 s2 s3 ch pa q pc ra rc c1 V rb W.heap.size i p 0 Tc (cs.set! p (.slice (some ⟨W.heap.size, 0, none⟩) c1 c1)) := by
  obtain ⟨a1, a2, a3, a4⟩ := h.O.start hp h1
  have h2 := h.S.lo
  have h3 := h.F.hhi
  exact ⟨h.S.step a1 (fun j h => by omega), h.F.kx a1 (fun j _ _ h => by omega), h.tc, a2, a3, a4⟩
theorem Fl2.first (hS : FlS w W sb tb A n c s1 s2 s3 ch pa q pc ra rc) (hF : Fi W W.heap.size tb n Tc (i + 1) q c1 V) (hi : i < n)
    (h1 : ((W.setCell ⟨tb, i, none⟩ (.slice (some ⟨W.heap.size, 0, none⟩) q q)).alloc (.cells (madeCells #[Value.slice none 0 0] q) 22)).drew = W') :
    Fl2 w W' sb tb A n c s1 s2 s3 ch pa q pc ra rc c1 V W.heap.size i 0 (Tc.set! i (.slice (some ⟨W.heap.size, 0, none⟩) q q)) (madeCells #[Value.slice none 0 0] q) := by
  obtain ⟨a1, a2, a3, a4⟩ := hF.start hi h1
  exact ⟨hS.step a1 (fun j h => by rw [h]; exact hS.lo), a2, a3, a4⟩
theorem Fl2.done (h : Fl2 w W sb tb A n c s1 s2 s3 ch pa q pc ra rc c1 V rb i q Tc cs) : FlS w W sb tb A n c s1 s2 s3 ch pa q pc ra rc ∧ Fi W W.heap.size tb n Tc i q c1 V :=
  ⟨h.S, h.F.push h.tc (Nat.le_of_lt (Nat.lt_of_le_of_lt h.O.hlo h.O.hhi)) (Nat.le_refl _) h.O⟩
/-- What onward reads, of the next course. -/
theorem Fl3.onr {k : Nat} (h : Fl3 w W sb tb A n c s1 s2 s3 ch pa q pc ra rc c1 V rb cb i p l Tc cs) (hi : i + 1 < n) (hp : SlE pkE 2 W pa q (pks k q)) : ∃ rb', OnR W sb tb rb' pa q pc n (i + 1) c1 k (V (i + 1)) := by
  obtain ⟨v0, v1, v2, v3, v4, v5, v6, v7, vf⟩ := cells8 h.S.sbx
  obtain ⟨rb', cs', a1, a2⟩ := h.F.rows (i + 1) (Nat.le_refl _) hi
  exact ⟨rb', v5, v7, h.S.slt, h.F.lt, a2.lt, hp, h.F.cell a1, fun t ht => by
    obtain ⟨cb', b1, b2, b3, b4⟩ := a2.rows t ht
    exact ⟨cb', b4.lt, a2.cell b1, fun l hl => b4.read hl⟩⟩
end
set_option maxRecDepth 16000 in
set_option maxHeartbeats 8000000 in
theorem wfill_any (sb : Nat) (A : Option Addr) (n c : Nat) (s1 s2 s3 s7 : Value) (ch : Nat) (pa : Option Addr) (q pc : Nat) (ra : Option Addr) (rc k : Nat) (pr : Nat → Nat → Int) (w : World)
    (hsb : w.heap[sb]? = some (.cells #[.slice A n c, s1, s2, s3, .int .i64 (ch : Nat), .slice pa q pc, .slice ra n rc, s7] 67 (0, 0)))
    (hp : ∀ W, Kx (fun j => j = sb) w W → SlE pkE 2 W pa q (pks k q)) (hpr : ∀ W, Kx (fun j => j = sb) w W → PrR W ra n q pr)
    (hrg : ∀ i p, i < n → p < q → -1 ≤ pr i p ∧ pr i p ≤ 4000000000000000) (hn : 1 ≤ n) (hn2 : n ≤ 96) (hq : q ≤ 64) (hch : ch ≤ 96) :
    Calls Tryz.prog 17 #[.pointer (some ⟨sb, 0, none⟩)] w fun e w' => e = .returned (.tuple #[]) ∧ ∃ tb Tc, FlS w w' sb tb A n c s1 s2 s3 ch pa q pc ra rc ∧ Fi w' w'.heap.size tb n Tc 0 q (ch + 1) (fun i => vF pr k q n (n - 1 - i)) := by
  refine calls_cps ?_
  intro R hR
  have HR := Lib.hid hR
  have Hp := Lib.hid hp
  have Hpr := Lib.hid hpr
  have Hrg := Lib.hid hrg
  have hlt : sb < w.heap.size := (Array.getElem?_eq_some_iff.1 hsb).1
  have Hsb := Lib.hid hsb
  clear hR hp hpr hrg hsb
  obtain ⟨c1, hc1⟩ : ∃ c1, ch + 1 = c1 := ⟨_, rfl⟩
  rw [hc1] at HR
  have hci : (ch : Int) + 1 = (c1 : Int) := by omega
  have hcw : IntKind.i64.wrap ((ch : Int) + 1) = (c1 : Int) := by rw [IntWalk.i64_in _ (by omega)]; exact hci
  obtain ⟨V, hV⟩ : ∃ V, (fun i => vF pr k q n (n - 1 - i)) = V := ⟨_, rfl⟩
  rw [hV] at HR
  have HV := Lib.hid hV
  clear hV hc1
  obtain ⟨v0, v1, v2, v3, v4, v5, v6, v7, vf⟩ := cells8 Hsb.out
  go_enter Tryz.func17, Tryz.ntmps17
  have hn9 : (n : Int) ≤ 9223372036854775807 := by omega
  have hmk := run_mkTabW n (by omega) w
  go_upto_region 2 with fail
  clear hmk v0 v1 v2 v3 v4 v5 v6 v7 vf
  obtain ⟨wA, hwA⟩ : ∃ wA, (w.setCell ⟨sb, 7, none⟩ (.slice (some ⟨w.heap.size, 0, none⟩) n n)).alloc (.cells (madeCells #[Value.slice none 0 0] n) 64) = wA := ⟨_, rfl⟩
  have hsA : FlS w wA sb w.heap.size A n c s1 s2 s3 ch pa q pc ra rc := by
    rw [← hwA]
    refine ⟨(kx_one w sb 7 _).trans ((kx_alloc _ _ _)) (fun j _ h => h), ?_, Nat.le_refl _, hlt⟩
    rw [Below.heap_alloc _ _ _ (by simpa using hlt)]
    simp [World.setCell, Array.getElem?_modify, Hsb.out]
  have hfA : Fi wA wA.heap.size w.heap.size n (madeCells #[Value.slice none 0 0] n) n q c1 V := by
    rw [← hwA]
    have h0 := heap_alloc_new (w.setCell ⟨sb, 7, none⟩ (.slice (some ⟨w.heap.size, 0, none⟩) n n)) (.cells (madeCells #[Value.slice none 0 0] n) 64)
    rw [World.size_setCell] at h0
    exact ⟨by simp, h0, size_madeCells _ _, fun u h1 h2 => by omega⟩
  rw [hwA]
  obtain ⟨tb, htb⟩ : ∃ tb, w.heap.size = tb := ⟨_, rfl⟩
  rw [htb] at hsA hfA ⊢
  have Htb := Lib.hid htb
  have HsA := Lib.hid hsA
  have HfA := Lib.hid hfA
  clear hwA hsA hfA htb
  go_wp2_with fail
  go_loopw [3, 4, 5, 6, 7, 8, 43, 68] (fun s3' _ _ _ _ _ _ _ wr => ∃ (i : Nat) (z : Int) (Tc : Array Value), s3' = .int .i64 z ∧ z + 1 = (i : Int) ∧ i ≤ n ∧ Hid (FlS w wr sb tb A n c s1 s2 s3 ch pa q pc ra rc) ∧ Hid (Fi wr wr.heap.size tb n Tc i q c1 V)) (fun s3' _ _ _ _ _ _ _ _ => (intOf s3' + 1).toNat)
  case atStart => exact ⟨n, _, _, rfl, by omega, Nat.le_refl _, HsA, HfA⟩
  case round =>
    clear HsA HfA
    obtain ⟨i1, z, Tc, rfl, hz, hi, HS, HF⟩ := hrel
    by_cases hz0 : 0 ≤ z
    · obtain ⟨i, rfl⟩ : ∃ i : Nat, z = (i : Int) := ⟨z.toNat, by omega⟩
      obtain rfl : i1 = i + 1 := by omega
      have hin : (i : Int) < (n : Int) := by omega
      have hslt := HS.out.slt
      have htlt := HF.out.lt
      obtain ⟨v0, v1, v2, v3, v4, v5, v6, v7, vf⟩ := cells8 HS.out.sbx
      obtain ⟨⟨ov, oc⟩, of⟩ := HF.out.store (u := i) (by omega)
      have hq9 : (q : Int) ≤ 9223372036854775807 := by omega
      have hmk := run_mkRowW q (by omega) wr.drew
      go_upto_region 5 with fail
      go_region
      clear hmk oc of v0 v1 v2 v3 v4 v5 v6 v7 vf
      obtain ⟨w1, hw1⟩ : ∃ w1, ((wr.setCell ⟨tb, i, none⟩ (.slice (some ⟨wr.heap.size, 0, none⟩) q q)).alloc (.cells (madeCells #[Value.slice none 0 0] q) 22)).drew = w1 := ⟨_, rfl⟩
      have H2 := Lib.hid (Fl2.first HS.out HF.out (by omega) hw1)
      rw [hw1]
      obtain ⟨rb, hrb⟩ : ∃ rb, wr.heap.size = rb := ⟨_, rfl⟩
      obtain ⟨Td, hTd⟩ : ∃ Td, Tc.set! i (.slice (some ⟨wr.heap.size, 0, none⟩) q q) = Td := ⟨_, rfl⟩
      rw [hTd, hrb] at H2
      rw [hrb]
      clear hw1 hrb hTd HS HF hslt htlt
      have hslt := H2.out.S.slt
      obtain ⟨v0, v1, v2, v3, v4, v5, v6, v7, vf⟩ := cells8 H2.out.S.sbx
      go_wp2_with fail
      clear hslt v0 v1 v2 v3 v4 v5 v6 v7 vf
      go_loopw [4, 5, 6, 7, 8, 43, 68] (fun _ _ _ _ _ s43 _ wx => ∃ (p : Nat) (cs : Array Value), s43 = .int .i64 (p : Nat) ∧ p ≤ q ∧ Hid (Fl2 w wx sb tb A n c s1 s2 s3 ch pa q pc ra rc c1 V rb i p Td cs)) (fun _ _ _ _ _ s43 _ _ => q - (intOf s43).toNat)
      case atStart => exact ⟨0, _, rfl, Nat.zero_le _, H2⟩
      case round =>
        clear H2
        obtain ⟨p, cs, rfl, hpq, H2⟩ := hrel
        by_cases hlp : p < q
        · have i1 : (p : Int) < (q : Int) := by omega
          have hslt := H2.out.S.slt
          have htlt := H2.out.F.lt
          have hrlt := H2.out.O.lt
          have htc := H2.out.F.cell H2.out.tc
          obtain ⟨⟨ov, oc⟩, of⟩ := H2.out.O.store hlp
          obtain ⟨v0, v1, v2, v3, v4, v5, v6, v7, vf⟩ := cells8 H2.out.S.sbx
          have hmk := run_mkIntW c1 (by omega) wr.drew
          go_upto_region 9 with fail
          go_region
          clear hmk oc of v0 v1 v2 v3 v4 v5 v6 v7 vf htc
          obtain ⟨w1, hw1⟩ : ∃ w1, ((wr.setCell ⟨rb, p, none⟩ (.slice (some ⟨wr.heap.size, 0, none⟩) c1 c1)).alloc (.cells (madeCells #[Value.int .i64 0] c1) 3)).drew = w1 := ⟨_, rfl⟩
          have H3 := Lib.hid (H2.out.next hlp hw1)
          rw [hw1]
          obtain ⟨cb, hcb⟩ : ∃ cb, wr.heap.size = cb := ⟨_, rfl⟩
          obtain ⟨ct, hct⟩ : ∃ ct, cs.set! p (.slice (some ⟨wr.heap.size, 0, none⟩) c1 c1) = ct := ⟨_, rfl⟩
          rw [hct, hcb] at H3
          rw [hcb]
          clear hw1 hcb hct hslt htlt hrlt H2
          have hslt := H3.out.S.slt
          obtain ⟨v0, v1, v2, v3, v4, v5, v6, v7, vf⟩ := cells8 H3.out.S.sbx
          go_wp2_with fail
          clear hslt v0 v1 v2 v3 v4 v5 v6 v7 vf
          go_loopw [5, 6, 7, 8, 68] (fun _ _ _ _ s68 wy => ∃ (l : Nat), s68 = .int .i64 (l : Nat) ∧ l ≤ c1 ∧ Hid (Fl3 w wy sb tb A n c s1 s2 s3 ch pa q pc ra rc c1 V rb cb i p l Td ct)) (fun _ _ _ _ s68 _ => c1 - (intOf s68).toNat)
          case atStart => exact ⟨0, rfl, Nat.zero_le _, H3⟩
          case round =>
            clear H3
            obtain ⟨l, rfl, hlc, H3⟩ := hrel
            by_cases hll : l < c1
            · have i2 : (l : Int) < (c1 : Int) := by omega
              have hslt := H3.out.S.slt
              obtain ⟨v0, v1, v2, v3, v4, v5, v6, v7, vf⟩ := cells8 H3.out.S.sbx
              obtain ⟨b, o, b', o', c', hra, hbl, hbl', q0, q1⟩ := Hpr.out wr H3.out.S.kx i (by omega)
              have q2 := q1 p hlp
              rw [hra] at v6
              obtain ⟨prv, hprv⟩ : ∃ prv, pr i p = prv := ⟨_, rfl⟩
              obtain ⟨g1, g2⟩ := Hrg.out i p (by omega) hlp
              rw [hprv] at q2 g1 g2
              have Hprv := Lib.hid hprv
              clear q1 hprv hra
              go_upto_region 14 with fail
              by_cases h1 : prv = -1
              · have hv : (-1 : Int) = V i p l := by
                  rw [← HV.out]
                  dsimp only
                  by_cases he : i + 1 = n
                  · rw [vF_last he, Hprv.out, h1]
                  · rw [vF_step (by omega), Hprv.out, if_pos h1]
                have Hn := Lib.hid (H3.out.set hll hv)
                obtain ⟨⟨ov, oc⟩, of⟩ := H3.out.R.cell hll
                have htc := H3.out.F.cell H3.out.tc
                have hck := H3.out.O.cell H3.out.ck
                have htlt := H3.out.F.lt
                have hrlt := H3.out.O.lt
                have hclt := H3.out.R.lt
                subst h1
                clear hv
                go_wp2_with fail
                exact ⟨⟨l + 1, by go_num, by omega, Hn⟩, by simp [intOf]; omega⟩
              · have h1b : (prv != -1) = true := by simpa using h1
                by_cases he : i + 1 = n
                · have hv : prv = V i p l := by
                    rw [← HV.out]
                    dsimp only
                    rw [vF_last he, Hprv.out]
                  have Hn := Lib.hid (H3.out.set hll hv)
                  have i5 : ¬ (i : Int) < (n : Int) - 1 := by omega
                  obtain ⟨⟨ov, oc⟩, of⟩ := H3.out.R.cell hll
                  have htc := H3.out.F.cell H3.out.tc
                  have hck := H3.out.O.cell H3.out.ck
                  have htlt := H3.out.F.lt
                  have hrlt := H3.out.O.lt
                  have hclt := H3.out.R.lt
                  clear hv he
                  go_wp2_with fail
                  exact ⟨⟨l + 1, by go_num, by omega, Hn⟩, by simp [intOf]; omega⟩
                · have hi2 : i + 1 < n := by omega
                  have i5 : (i : Int) < (n : Int) - 1 := by omega
                  obtain ⟨rb', hon⟩ := H3.out.onr hi2 (Hp.out wr H3.out.S.kx)
                  have Hon := Lib.hid (onward_any sb tb rb' pa q pc n c1 k (V (i + 1)) i p l wr hon hi2 (by omega) hlp (by omega) hll (by omega))
                  obtain ⟨r, hr⟩ : ∃ r, onF (V (i + 1)) k p l q = r := ⟨_, rfl⟩
                  rw [hr] at Hon
                  obtain ⟨x, y⟩ := r
                  have hx : -1 ≤ x ∧ x ≤ 4000000000000000 * 96 := by
                    have h := onF_rng (f := V (i + 1)) (k := k) (from' := p) (left := l) (B := 4000000000000000 * 96) q (fun t l' ht _ => by
                      rw [← HV.out]
                      dsimp only
                      have h := vF_rng (k := k) Hrg.out (n - 1 - (i + 1)) t l' (by omega) ht
                      omega) (by omega)
                    rw [hr] at h
                    exact ⟨h.1, h.2.1⟩
                  have Hv := Lib.hid (show V i p l = if x = -1 then -1 else prv + x from by
                    have e : onF (fun p l => vF pr k q n (n - 1 - (i + 1)) p l) k p l q = (x, y) := by
                      rw [← hr, ← HV.out]
                    rw [← HV.out]
                    dsimp only
                    rw [vF_step hi2, Hprv.out, if_neg h1, show onF (vF pr k q n (n - 1 - (i + 1))) k p l q = (x, y) from e])
                  dsimp only at Hon
                  obtain ⟨x1, x2⟩ := hx
                  clear hon hr he
                  go_upto_region 16 with ((with_reducible refine Hon.out.mono ?_); rintro e w3 ⟨rfl, hb3⟩; have H4 := Lib.hid (H3.out.below hb3); clear hb3)
                  clear hslt v0 v1 v2 v3 v4 v5 v6 v7 vf q0 q2 hbl hbl'
                  by_cases h2 : x = -1
                  · have hv : (-1 : Int) = V i p l := by rw [Hv.out, if_pos h2]
                    have Hn := Lib.hid (H4.out.set hll hv)
                    obtain ⟨⟨ov, oc⟩, of⟩ := H4.out.R.cell hll
                    have htc := H4.out.F.cell H4.out.tc
                    have hck := H4.out.O.cell H4.out.ck
                    have htlt := H4.out.F.lt
                    have hrlt := H4.out.O.lt
                    have hclt := H4.out.R.lt
                    have hslt := H4.out.S.slt
                    obtain ⟨v0, v1, v2, v3, v4, v5, v6, v7, vf⟩ := cells8 H4.out.S.sbx
                    subst h2
                    clear hv
                    go_wp2_with fail
                    exact ⟨⟨l + 1, by go_num, by omega, Hn⟩, by simp [intOf]; omega⟩
                  · have hv : prv + x = V i p l := by rw [Hv.out, if_neg h2]
                    have Hn := Lib.hid (H4.out.set hll hv)
                    have h2b : (x == -1) = false := by simpa using h2
                    obtain ⟨⟨ov, oc⟩, of⟩ := H4.out.R.cell hll
                    have htc := H4.out.F.cell H4.out.tc
                    have hck := H4.out.O.cell H4.out.ck
                    have htlt := H4.out.F.lt
                    have hrlt := H4.out.O.lt
                    have hclt := H4.out.R.lt
                    have hslt := H4.out.S.slt
                    obtain ⟨v0, v1, v2, v3, v4, v5, v6, v7, vf⟩ := cells8 H4.out.S.sbx
                    clear hv
                    go_wp2_with fail
                    exact ⟨⟨l + 1, by go_num, by omega, Hn⟩, by simp [intOf]; omega⟩
            · obtain rfl : c1 = l := by omega
              have i2 : ¬ (c1 : Int) < (c1 : Int) := by omega
              go_wp2_with fail
              exact ⟨⟨p + 1, ct, by go_num, by omega, Lib.hid H3.out.done⟩, by simp [intOf]; omega⟩
        · obtain rfl : q = p := by omega
          have i1 : ¬ (q : Int) < (q : Int) := by omega
          obtain ⟨hS, hF⟩ := H2.out.done
          have HS := Lib.hid hS
          have HF := Lib.hid hF
          clear hS hF
          go_wp2_with fail
          exact ⟨⟨i, (i : Int) - 1, Td, by go_num, by omega, by omega, HS, HF⟩, by simp [intOf]⟩
    · obtain rfl : i1 = 0 := by omega
      go_wp2_with fail
      refine ⟨rfl, .tuple #[], ?_, HR.out.out _ _ ⟨rfl, tb, Tc, HS.out, HF.out⟩⟩
      simp [results, Tryz.results17, go_sem]
end
end
section
section
open Go.RowKit
/-- The least of the first costs, and its pick. -/
def beF (f : Nat → Nat → Int) (l : Nat) : Nat → Int × Nat
  | 0 => (-1, 0)
  | t + 1 => if f t l ≠ -1 ∧ ((beF f l t).1 = -1 ∨ f t l < (beF f l t).1) then (f t l, t) else beF f l t
theorem beF_no {f : Nat → Nat → Int} {l t : Nat} (h : ¬ (f t l ≠ -1 ∧ ((beF f l t).1 = -1 ∨ f t l < (beF f l t).1))) : beF f l (t + 1) = beF f l t := by rw [beF, if_neg h]
theorem beF_yes {f : Nat → Nat → Int} {l t : Nat} (h : f t l ≠ -1 ∧ ((beF f l t).1 = -1 ∨ f t l < (beF f l t).1)) : beF f l (t + 1) = (f t l, t) := by rw [beF, if_pos h]
theorem beF_ok (f : Nat → Nat → Int) (l : Nat) : ∀ q, (beF f l q).1 ≠ -1 → (beF f l q).2 < q ∧ f (beF f l q).2 l = (beF f l q).1
  | 0, h => absurd rfl h
  | q + 1, h => by
    unfold beF at h ⊢
    split at h
    · rename_i hc
      rw [if_pos hc]
      exact ⟨Nat.lt_succ_self _, rfl⟩
    · rename_i hc
      rw [if_neg hc]
      obtain ⟨h1, h2⟩ := beF_ok f l q h
      exact ⟨Nat.lt_succ_of_lt h1, h2⟩
/-- The pick and the changes that are left, by courses. -/
def stF (V : Nat → Nat → Nat → Int) (k q p0 l0 : Nat) : Nat → Nat × Nat
  | 0 => (p0, l0)
  | i + 1 => ((onF (V (i + 1)) k (stF V k q p0 l0 i).1 (stF V k q p0 l0 i).2 q).2, (leftF (stF V k q p0 l0 i).1 (stF V k q p0 l0 i).2 (onF (V (i + 1)) k (stF V k q p0 l0 i).1 (stF V k q p0 l0 i).2 q).2).toNat)
theorem sumL_snoc (l : List Int) (a : Int) : sumL (l ++ [a]) = sumL l + a := by
  induction l with
  | nil => simp [sumL]
  | cons b l ih => rw [List.cons_append, sumL_cons, sumL_cons, ih]; omega
theorem stF_ok {pr : Nat → Nat → Int} {k q n p0 l0 : Nat} (hp0 : p0 < q) (_hn : 1 ≤ n) (h0 : vF pr k q n (n - 1) p0 l0 ≠ -1) :
    ∀ i, i < n → (stF (fun i => vF pr k q n (n - 1 - i)) k q p0 l0 i).1 < q ∧ (stF (fun i => vF pr k q n (n - 1 - i)) k q p0 l0 i).2 ≤ l0 ∧
      vF pr k q n (n - 1 - i) (stF (fun i => vF pr k q n (n - 1 - i)) k q p0 l0 i).1 (stF (fun i => vF pr k q n (n - 1 - i)) k q p0 l0 i).2 ≠ -1 ∧
      pr i (stF (fun i => vF pr k q n (n - 1 - i)) k q p0 l0 i).1 ≠ -1 ∧
      (i + 1 < n → (onF (vF pr k q n (n - 1 - (i + 1))) k (stF (fun i => vF pr k q n (n - 1 - i)) k q p0 l0 i).1 (stF (fun i => vF pr k q n (n - 1 - i)) k q p0 l0 i).2 q).1 ≠ -1) ∧
      vF pr k q n (n - 1) p0 l0 = sumL ((List.range i).map fun j => pr j (stF (fun i => vF pr k q n (n - 1 - i)) k q p0 l0 j).1) + vF pr k q n (n - 1 - i) (stF (fun i => vF pr k q n (n - 1 - i)) k q p0 l0 i).1 (stF (fun i => vF pr k q n (n - 1 - i)) k q p0 l0 i).2 := by
  intro i
  generalize hg : stF (fun i => vF pr k q n (n - 1 - i)) k q p0 l0 = g
  have hV : ∀ i p l, i < n → vF pr k q n (n - 1 - i) p l ≠ -1 → pr i p ≠ -1 ∧ (i + 1 < n → (onF (vF pr k q n (n - 1 - (i + 1))) k p l q).1 ≠ -1 ∧ vF pr k q n (n - 1 - i) p l = pr i p + (onF (vF pr k q n (n - 1 - (i + 1))) k p l q).1) := by
    intro i p l hi h
    rcases Nat.lt_or_ge (i + 1) n with h1 | h1
    · rw [vF_step h1] at h
      by_cases a : pr i p = -1
      · rw [if_pos a] at h; exact absurd rfl h
      rw [if_neg a] at h
      by_cases b : (onF (vF pr k q n (n - 1 - (i + 1))) k p l q).1 = -1
      · rw [if_pos b] at h; exact absurd rfl h
      exact ⟨a, fun _ => ⟨b, by rw [vF_step h1, if_neg a, if_neg b]⟩⟩
    · rw [vF_last (by omega)] at h
      exact ⟨h, fun h2 => by omega⟩
  induction i with
  | zero =>
    intro hi
    have e : g 0 = (p0, l0) := by rw [← hg]; rfl
    rw [e]
    obtain ⟨a, b⟩ := hV 0 p0 l0 hi h0
    exact ⟨hp0, Nat.le_refl _, h0, a, fun h => (b h).1, by simp [sumL]⟩
  | succ i ih =>
    intro hi
    obtain ⟨a1, a2, a3, a4, a5, a6⟩ := ih (by omega)
    have e : g (i + 1) = ((onF (vF pr k q n (n - 1 - (i + 1))) k (g i).1 (g i).2 q).2, (leftF (g i).1 (g i).2 (onF (vF pr k q n (n - 1 - (i + 1))) k (g i).1 (g i).2 q).2).toNat) := by rw [← hg]; rfl
    obtain ⟨b1, b2, b3⟩ := onF_ok _ k (g i).1 (g i).2 q (a5 hi)
    have hne : vF pr k q n (n - 1 - (i + 1)) (g (i + 1)).1 (g (i + 1)).2 ≠ -1 := by rw [e]; dsimp only; rw [b3]; exact a5 hi
    obtain ⟨c1, c2⟩ := hV (i + 1) _ _ hi hne
    refine ⟨by rw [e]; exact b1, ?_, hne, c1, fun h => (c2 h).1, ?_⟩
    · rw [e]
      dsimp only
      unfold leftF at b2 ⊢
      split <;> omega
    · rw [a6, (hV i _ _ (by omega) a3).2 hi |>.2, List.range_succ, List.map_append, List.map_singleton, sumL_snoc, Int.add_assoc]
      congr 2
      rw [e]
      exact b3.symm
theorem stF_sum {pr : Nat → Nat → Int} {k q n p0 l0 : Nat} (hp0 : p0 < q) (hn : 1 ≤ n) (h0 : vF pr k q n (n - 1) p0 l0 ≠ -1) : vF pr k q n (n - 1) p0 l0 = sumL ((List.range n).map fun j => pr j (stF (fun i => vF pr k q n (n - 1 - i)) k q p0 l0 j).1) := by
  have h := (stF_ok hp0 hn h0 (n - 1) (by omega)).2.2.2.2.2
  rw [h, vF_last (i := n - 1) (by omega)]
  obtain ⟨d, rfl⟩ : ∃ d, n = d + 1 := ⟨n - 1, by omega⟩
  rw [Nat.add_sub_cancel, List.range_succ, List.map_append, List.map_singleton, sumL_snoc]
/-- What a pick costs for a course, by places. -/
def prN (x : Sc) (k i p : Nat) : Int := prc x (x.co.getD i ⟨0, 0, 0, 0⟩) (p / k, p % k)
theorem prN_rng {x : Sc} (h : ScOk x) {i p : Nat} (hi : i < x.co.length) (hp : p < x.me.length * x.ga.length) : -1 ≤ prN x x.ga.length i p ∧ prN x x.ga.length i p ≤ 4000000000000000 := by
  have hk := h.k
  have h1 : p / x.ga.length < x.me.length := Nat.div_lt_of_lt_mul (by rw [Nat.mul_comm]; exact hp)
  have h2 : p % x.ga.length < x.ga.length := Nat.mod_lt _ (by omega)
  obtain ⟨mt, s, g, hpk⟩ := h.pk _ _ h1 h2
  have hy : x.co[i]? = some (x.co[i]'hi) := List.getElem?_eq_getElem hi
  have hy2 : x.co.getD i ⟨0, 0, 0, 0⟩ = x.co[i]'hi := by rw [List.getD_eq_getElem?_getD, hy]; rfl
  unfold prN
  rw [hy2, prc_eq hpk]
  have hr := pric_range (d := mt.D) (g := g) hpk.D.2 hpk.gr.2 (h.co _ (List.getElem_mem hi))
  split
  · omega
  · omega
theorem lkp_pr {w W W' : World} {A B G : Option Addr} {n c m d k e : Nat} {x : Sc} {pa ra : Option Addr} {pc rc sb : Nat} {outer : List Value} (h : LkP w W A n c B m d G k e x pa pc ra rc outer) (hs : sb = w.heap.size + 1) (hk : Kx (fun j => j = sb) W W') (hq : 0 < m * k) : PrR W' ra n (m * k) (prN x k) := by
  have t := TblR.slr ⟨outer, h.tb.kxW hk (fun j hj e => by omega)⟩
  obtain ⟨hl, hr⟩ := t
  intro i hi
  obtain ⟨b, o, rfl, hb, hc⟩ := hr (by omega)
  rw [List.length_map] at hl
  have hy : x.co[i]? = some (x.co[i]'(by omega)) := List.getElem?_eq_getElem (by omega)
  have hy2 : x.co.getD i ⟨0, 0, 0, 0⟩ = x.co[i]'(by omega) := by rw [List.getD_eq_getElem?_getD, hy]; rfl
  obtain ⟨Ai, ci, h1, h2⟩ := hc i _ (by rw [List.getElem?_map, hy]; rfl)
  have hlen : ((pks k (m * k)).map (prc x (x.co[i]'(by omega)))).length = m * k := by rw [List.length_map, pks_len]
  rw [hlen] at h1 h2
  obtain ⟨b', o', rfl, hb', hc'⟩ := h2.2.2 hq
  refine ⟨b, o, b', o', ci, rfl, hb, hb', h1, fun p hp => ?_⟩
  refine hc' p _ ?_
  have e : (((pks k (m * k)).map (prc x (x.co[i]'(by omega)))).flatMap intE) = ((pks k (m * k)).map (prc x (x.co[i]'(by omega)))).map (fun v => Value.int .i64 v) := flat_one _ _
  rw [e, List.getElem?_map, List.getElem?_map, pks_get hp]
  unfold prN
  rw [hy2]
  rfl
end
end
end Go.Proofs.YtojbldoekalbnaaGreatDoor
