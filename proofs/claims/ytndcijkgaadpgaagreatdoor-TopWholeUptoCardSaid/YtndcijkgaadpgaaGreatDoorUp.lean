/-
  (*House).reply at a command; conditions: the line is no try, its words are words, the tables lie below a block. (*House).Line at a line that is replied to; conditions: the line before its first newline is not empty, no remark, not too long; what reply answers is a premise. (*House).Line at a command of the table, and at a line that is too long; conditions: the line's words, the tables lie below a block.
-/
import Derived.Test.YtndcijkgaadpgaaGreatDoorUo
namespace Go.Proofs.YtndcijkgaadpgaaGreatDoor
section
section
open Go.RowKit Go.Shelf
theorem splitc_any (s p : ByteArray) (w : World) (b : Nat) (ht : Gl b w) (hs : s.size < 4294967281) (hp : 1 ≤ p.size) :
    Calls Tryz.prog 48 #[.string s, .string p] w fun e w' => ∃ n, e = .returned (.slice (some ⟨w.heap.size, 0, none⟩) n n) ∧ SlE strE 1 w' (some ⟨w.heap.size, 0, none⟩) n (strL (Lib.split s.data.toList p.data.toList)) ∧ n ≤ s.size + 1 ∧ Below w.heap.size w w' := by
  obtain ⟨m, hm⟩ := ht.mx
  refine (Any.strings_Split splitSLays infoStr s p m w hs hm hp).mono ?_
  rintro e w' ⟨rfl, rfl⟩
  have e : Lib.splitB p 0 (Lib.countB s p) s = strL (Lib.split s.data.toList p.data.toList) := by
    refine strs_data ?_
    rw [Lib.splitB_data]
    rfl
  have hl := Lib.splitB_all p hp 0 _ s rfl
  have hle := Lib.countB_le p hp s.size s (Nat.le_refl _)
  rw [e] at hl ⊢
  refine ⟨_, rfl, ?_, by omega, below_new w _⟩
  rw [← hl]
  exact str_new w _
theorem run_store_fn {P : Program} {w : World} {a : Addr} {m : Mode} (f : Fn) (x y : Array Value) : (store a (.func f x y) m).run P w = stored P w a (.func f x y) m := run_store P w a _ m rfl
attribute [local go_sem] run_store_fn
theorem str_cmp (x y : List UInt8) : ((⟨x.toArray⟩ : ByteArray).toList == (⟨y.toArray⟩ : ByteArray).toList) = decide (x = y) := by
  rw [Lib.toList_data, Lib.toList_data]
  rw [Bool.eq_iff_iff, beq_iff_eq, decide_eq_true_eq]
set_option maxRecDepth 8000 in
set_option maxHeartbeats 8000000 in
theorem reply_any (w : World) (h : Nat) (s : ByteArray) (hs : s.size ≤ 4096) (ht : Lib.hasPrefix s.data.toList [116, 114, 121, 32] = false) (hw : [] ∉ spl s.data.toList) (nm fo : List UInt8) (f : FuncId) (ws : List (List UInt8)) (hsp : spl s.data.toList = nm :: ws) (i : Nat) (hi : cmdT[i]? = some (nm, fo, f)) (hfirst : ∀ j x, j < i → cmdT[j]? = some x → x.1 ≠ nm)
    (hfo : fo.length ≤ 1000) (hfa : ∀ (j : Nat) b, fo[j]? = some b → b.toNat < 128) (hfk : ∀ k ∈ Lib.fields fo, k.length ≤ 1000) (hfl : (Lib.fields fo).length ≤ 1000) (eg : ∀ args w, (callFunc f args).run Tryz.prog w = .ok (.enter f args) w) (bg : Nat) (hg : Gl bg w) (hb : bg ≤ w.heap.size) (R : Value → World → Prop)
    (hno : (readP fo ws).2.2 = false → ∀ W, Below w.heap.size w W → R (.iface 61 (.int .i64 2)) W)
    (hyes : (readP fo ws).2.2 = true → ∀ W A1 c1 n1 A2 c2 n2, Below w.heap.size w W → ArgsW w.heap.size W A1 n1 c1 A2 n2 c2 (readP fo ws).1 (readP fo ws).2.1 → Calls Tryz.prog f #[.pointer (some ⟨h, 0, none⟩), .agg #[.slice A1 n1 c1, .slice A2 n2 c2]] W fun e w' => ∃ v, e = .returned v ∧ R v w') :
    Calls Tryz.prog 22 #[.pointer (some ⟨h, 0, none⟩), .string s] w fun e w' => ∃ v, e = .returned v ∧ R v w' := by
  refine calls_cps ?_
  intro Q hQ
  have HG := Lib.hid hg
  have Hno := Lib.hid hno
  have Hyes := Lib.hid hyes
  have Hsp := Lib.hid hsp
  have Hw := Lib.hid hw
  have Hi := Lib.hid hi
  have Hf1 := Lib.hid hfirst
  have HP := Lib.hid (cutp_any s ⟨#[116, 114, 121, 32]⟩ w)
  rw [show Lib.hasPrefix s.data.toList (⟨#[116, 114, 121, 32]⟩ : ByteArray).data.toList = false from ht] at HP
  have HS := Lib.hid (splitc_any s ⟨#[32]⟩ w bg hg (by omega) (by decide))
  clear hg hno hyes hsp hw hi hfirst ht
  go_enter Tryz.func22, Tryz.ntmps22
  go_wp2_with (go_at_call 47; (with_reducible refine HP.out.mono ?_); rintro e w1 ⟨rfl, rfl⟩)
  refine HS.out.mono ?_
  rintro e w1 ⟨n, rfl, hx, hn, hb1⟩
  have hspl : Lib.split s.data.toList (⟨#[32]⟩ : ByteArray).data.toList = nm :: ws := (split_spl s.data.toList).trans Hsp.out
  rw [hspl] at hx
  have HX := Lib.hid hx
  have HB1 := Lib.hid hb1
  have HIn := Lib.hid (inS_any _ n n _ ⟨#[]⟩ w1 hx (by omega))
  have hin : Lib.containsS (strL (nm :: ws)) (⟨#[]⟩ : ByteArray) = false := by
    have h1 := containsS_L (nm :: ws) []
    rw [show (⟨#[]⟩ : ByteArray) = ⟨([] : List UInt8).toArray⟩ from rfl, h1, ← Hsp.out]
    simpa using Hw.out
  rw [hin] at HIn
  clear hx hb1 hspl hin
  go_wp2_with (go_at_call 49; go_loud (refine HIn.out.mono ?_; rintro e w2 ⟨rfl, rfl⟩))
  refine (commands_any w1).mono ?_
  rintro e w2 ⟨cc, rfl, hc2, hb2⟩
  have HC := Lib.hid hc2
  have HB2 := Lib.hid (HB1.out.trans (hb2.mono HB1.out.size))
  have HX2 := Lib.hid (HX.out.below hb2)
  clear hc2 hb2
  go_wp2_with fail
  have hi40 : i < 40 := by
    have := (List.getElem?_eq_some_iff.1 Hi.out).1
    rw [cmdT_len] at this
    exact this
  go_loopw [46] (fun s46 wr => ∃ k : Nat, k ≤ i ∧ s46 = .int .i64 (k : Int) ∧ Hid (Below w.heap.size w wr) ∧ Hid (SlE strE 1 wr (some ⟨w.heap.size, 0, none⟩) n (strL (nm :: ws))) ∧ Hid (SlE cmdE 3 wr (some ⟨w1.heap.size, 0, none⟩) 40 cmdT)) (fun s46 _ => 40 - (intOf s46).toNat)
  case atStart => exact ⟨0, Nat.zero_le _, rfl, HB2, HX2, HC⟩
  case round =>
    obtain ⟨k, hk, rfl, Hb, Hx, Hc⟩ := hrel
    obtain ⟨b0, o0, x, e0, hb0, hxk, hcell⟩ := Hc.out.at_ cmdE_len (k := k) (by omega)
    cases e0
    have q0 := hcell 0 _ rfl
    have q1 := hcell 1 _ rfl
    have q2 := hcell 2 _ rfl
    rw [Nat.zero_add] at q0 q1 q2
    rw [Nat.add_zero] at q0
    obtain ⟨b1, o1, y, e1, hb1, hy, q3⟩ := strs_at Hx.out (k := 0) (by rw [Hx.out.1]; simp [strL])
    cases e1
    have hy2 : y = ⟨nm.toArray⟩ := by
      have : (strL (nm :: ws))[0]? = some ⟨nm.toArray⟩ := rfl
      rw [this] at hy
      exact (Option.some.inj hy).symm
    subst hy2
    obtain ⟨xn, xf, xg⟩ := x
    have i1 : (k : Int) < 40 := by omega
    have hn1 : 1 ≤ n := by rw [Hx.out.1]; simp [strL]
    have hbox := heap_alloc_new wr (.cells #[.string ⟨xn.toArray⟩, .string ⟨xf.toArray⟩, .func (.func xg) #[] #[]] 130)
    obtain ⟨p0, p1, p2, -⟩ := cells3 hbox
    have q3' := (World.cell?_alloc_lt wr (.cells #[.string ⟨xn.toArray⟩, .string ⟨xf.toArray⟩, .func (.func xg) #[] #[]] 130) ⟨w.heap.size, 0 + 0, none⟩ (by dsimp only; omega)).trans q3
    rw [Nat.add_zero] at q3'
    have Hxk := Lib.hid hxk
    dsimp only at q0 q1 q2
    have Hbb := Lib.hid (below_al1' (Below.refl _ wr) (.cells #[.string ⟨xn.toArray⟩, .string ⟨xf.toArray⟩, .func (.func xg) #[] #[]] 130))
    obtain ⟨W3, hW3⟩ : ∃ W3, wr.alloc (.cells #[.string ⟨xn.toArray⟩, .string ⟨xf.toArray⟩, .func (.func xg) #[] #[]] 130) = W3 := ⟨_, rfl⟩
    have HW3 := Lib.hid hW3
    rw [hW3] at p0 p1 p2 q3' Hbb
    by_cases hki : k < i
    · have hne : xn ≠ nm := Hf1.out k _ hki hxk
      have hcmp : (xn == nm) = false := beq_eq_false_iff_ne.2 hne
      clear hcell hxk hy hbox q3 hW3
      go_wp2_with fail
      rw [HW3.out]
      go_region
      have hbd := below_drewn (w := W3) 1
      have hb3 : Below wr.heap.size wr (W3.drewN 1) := Hbb.out.trans (hbd.mono Hbb.out.size)
      have HB3 := Lib.hid hb3
      clear hbd hb3
      go_wp2_with fail
      exact ⟨⟨k + 1, by omega, by go_num, Lib.hid (Hb.out.trans (HB3.out.mono Hb.out.size)), Lib.hid (Hx.out.below HB3.out), Lib.hid (Hc.out.below HB3.out)⟩, by simp [intOf] <;> omega⟩
    · have hki2 : k = i := by omega
      subst hki2
      have hxe := Hi.out
      rw [hxk] at hxe
      simp only [Option.some.injEq, Prod.mk.injEq] at hxe
      obtain ⟨rfl, rfl, rfl⟩ := hxe
      have hnl : n = ws.length + 1 := by
        have := Hx.out.1
        simpa [strL] using this
      obtain ⟨A', hA'⟩ : ∃ A' : Option Addr, (if n = 1 then some ⟨w.heap.size, 0, none⟩ else some ⟨w.heap.size, 1, none⟩) = A' := ⟨_, rfl⟩
      have hb3 : Below wr.heap.size wr W3 := Hbb.out
      have hxt : SlE strE 1 W3 A' (n - 1) (strL ws) := by
        have h3 := Hx.out.below hb3
        by_cases h1 : n = 1
        · have : ws = [] := List.eq_nil_of_length_eq_zero (by omega)
          subst this
          rw [h1]
          exact SlE.nil _ _
        · rw [if_neg h1] at hA'
          subst hA'
          rw [hnl] at h3
          rw [hnl]
          exact strs_tail h3
      have Hxt := Lib.hid hxt
      have Hb3 := Lib.hid (Hb.out.trans (hb3.mono Hb.out.size))
      have HRd := Lib.hid (show ∀ W, Below W3.heap.size W3 W → Calls Tryz.prog 51 #[.string ⟨xf.toArray⟩, .slice A' (n - 1) (n - 1)] W (fun e w' => ∃ A1 c1 A2 c2 n1 n2, e = .returned (.tuple #[.agg #[.slice A1 n1 c1, .slice A2 n2 c2], .bool (readP xf ws).2.2]) ∧ ArgsW W.heap.size w' A1 n1 c1 A2 n2 c2 (readP xf ws).1 (readP xf ws).2.1 ∧ Below W3.heap.size W3 w' ∧ Below W.heap.size W w') from fun W hW => (hread_any ⟨xf.toArray⟩ A' (n - 1) (n - 1) ws W (Hxt.out.below hW) (Nat.le_refl _) ⟨by dsimp only; simp only [List.length_nil]; omega, fun x hx => by
          have h1 := spl_sub (l := s.data.toList) (w := x) (by rw [Hsp.out]; exact List.mem_cons_of_mem _ hx)
          have h2 := ba_size s
          omega⟩ (by rw [ba_size]; exact hfo) hfa hfk hfl bg ((HG.out.on (Hb3.out.mono hb)).on (hW.mono (by have := Hb3.out.size; omega))) (by have := Hb3.out.size; have := hW.size; omega)).mono fun e w' ⟨A1, c1, A2, c2, n1, n2, q1, q2, q4⟩ => ⟨A1, c1, A2, c2, n1, n2, q1, q2, hW.trans (q4.mono hW.size), q4⟩)
      have Hnl := Lib.hid hnl
      have hl3 : wr.heap.size < W3.heap.size := by rw [← HW3.out]; simp
      clear hcell hxk hy hbox q3 hW3 hxt hb3 hnl
      go_wp2_with fail
      rw [HW3.out]
      go_region
      have hne3 : W3.heap.size ≠ wr.heap.size := by omega
      have hne3' : wr.heap.size ≠ W3.heap.size := by omega
      have p1' : W3.drew.cell? ⟨wr.heap.size, 1, none⟩ = some (.string ⟨xf.toArray⟩) := p1
      obtain ⟨res, hres⟩ : ∃ res, (readP xf ws).2.2 = res := ⟨_, rfl⟩
      have Hres := Lib.hid hres
      rw [hres] at HRd
      clear hres
      by_cases h1 : n = 1
      · rw [if_pos h1] at hA'
        subst hA'
        subst h1
        simp only [Nat.sub_self] at HRd
        go_upto_region 14 with fail
        go_region_held3 (fun w' => w'.cell? ⟨wr.heap.size, 1, none⟩ = some (.string ⟨xf.toArray⟩))
          (first
          | exact p1'
          | exact pX
          | go_keep)
          (first
          | (go_at_call 51; (refine (HRd.out _ (by first | exact below_drewn 2 | exact (below_drewn (w := W3) 2).alloc (Nat.le_refl _) _)).mono ?_); rintro e w5 ⟨A1, c1, A2, c2, n1, n2, rfl, hx1, hb5, hbW⟩; (first | (have hy := (hbW.block W3.heap.size (by simp)).trans (heap_alloc_new W3.drew.drew _); have hcl := cells2 hy; obtain ⟨y0, y1, yf⟩ := hcl; have yf0 := yf 0; have yf1 := yf 1; have Hy := Lib.hid hy; clear hy yf) | skip); have pX := (hb5.cell (p := ⟨wr.heap.size, 1, none⟩) hl3).trans p1; have HX1 := Lib.hid hx1; have HB5 := Lib.hid hb5; clear hx1 hb5 hbW))
        · obtain ⟨Wf, hWf⟩ : ∃ Wf, w5.alloc (.cells #[.slice A1 n1 c1, .slice A2 n2 c2] 76) = Wf := ⟨_, rfl⟩
          have hr : Wf.heap[w5.heap.size]? = some (.cells #[.slice A1 n1 c1, .slice A2 n2 c2] 76 (0, 0)) := hWf ▸ heap_alloc_new w5 _
          have hbf : Below W3.heap.size W3 Wf := hWf ▸ HB5.out.alloc HB5.out.size _
          have hxf : Below w5.heap.size w5 Wf := hWf ▸ below_new w5 _
          have HX1' := Lib.hid ((HX1.out.below hxf).mono (B' := w.heap.size) (by have := Hb3.out.size; simp; omega))
          rw [hWf]
          obtain ⟨r0, r1, -⟩ := cells2 hr
          have p2' := (hbf.cell (p := ⟨wr.heap.size, 2, none⟩) hl3).trans p2
          have HBf := Lib.hid (Hb3.out.trans (hbf.mono (by have := Hb3.out.size; omega)))
          clear hWf hr hbf hxf
          cases res
          · go_wp2
            exact hQ.out _ _ ⟨_, rfl, Hno.out Hres.out _ HBf.out⟩
          · have HD := Lib.hid (Hyes.out Hres.out Wf A1 c1 n1 A2 c2 n2 HBf.out HX1'.out)
            go_wp2_with fail
            refine HD.out.mono ?_
            rintro e w9 ⟨v, rfl, hv⟩
            have HV := Lib.hid hv
            clear hv
            go_wp2
            exact hQ.out _ _ ⟨v, rfl, HV.out⟩
        · have h9 := hset (i := 1) (v := .slice A2 n2 c2) (hset (i := 0) (v := .slice A1 n1 c1) Hy.out)
          obtain ⟨Wf, hWf⟩ : ∃ Wf, (w5.setCell ⟨W3.heap.size, 0, none⟩ (.slice A1 n1 c1)).setCell ⟨W3.heap.size, 1, none⟩ (.slice A2 n2 c2) = Wf := ⟨_, rfl⟩
          rw [hWf] at h9
          have hr : Wf.heap[W3.heap.size]? = some (.cells #[.slice A1 n1 c1, .slice A2 n2 c2] 76 (0, 0)) := h9
          have hxk : Kx (fun j => j = W3.heap.size) w5 Wf := hWf ▸ kx_set (S := fun j => j = W3.heap.size) (kx_set (S := fun j => j = W3.heap.size) (Kx.refl _ w5) rfl 0 _) rfl 1 _
          have hbf : Below W3.heap.size W3 Wf := hxk.low HB5.out (fun j hj => by omega) HB5.out.size
          have hxf := True.intro
          have hy9 := Hy.out
          have HX1' := Lib.hid ((HX1.out.kx hxk (fun j e => by subst e; simp)).mono (B' := w.heap.size) (by have := Hb3.out.size; simp; omega))
          rw [hWf]
          clear hy9
          obtain ⟨r0, r1, -⟩ := cells2 hr
          have p2' := (hbf.cell (p := ⟨wr.heap.size, 2, none⟩) hl3).trans p2
          have HBf := Lib.hid (Hb3.out.trans (hbf.mono (by have := Hb3.out.size; omega)))
          clear hWf hr hbf hxf
          cases res
          · go_wp2
            exact hQ.out _ _ ⟨_, rfl, Hno.out Hres.out _ HBf.out⟩
          · have HD := Lib.hid (Hyes.out Hres.out Wf A1 c1 n1 A2 c2 n2 HBf.out HX1'.out)
            go_wp2_with fail
            refine HD.out.mono ?_
            rintro e w9 ⟨v, rfl, hv⟩
            have HV := Lib.hid hv
            clear hv
            go_wp2
            exact hQ.out _ _ ⟨v, rfl, HV.out⟩
      · rw [if_neg h1] at hA'
        subst hA'
        have hn2 : 1 < n := by omega
        have i5 : (1 : Int) ≤ (n : Int) := by omega
        have i6 : (0 : Int) ≤ (1 : Int) := by decide
        go_upto_region 14 with fail
        go_region_held3 (fun w' => w'.cell? ⟨wr.heap.size, 1, none⟩ = some (.string ⟨xf.toArray⟩))
          (first
          | exact p1'
          | exact pX
          | go_keep)
          (first
          | (go_at_call 51; (refine (HRd.out _ (by first | exact below_drewn 2 | exact (below_drewn (w := W3) 2).alloc (Nat.le_refl _) _)).mono ?_); rintro e w5 ⟨A1, c1, A2, c2, n1, n2, rfl, hx1, hb5, hbW⟩; (first | (have hy := (hbW.block W3.heap.size (by simp)).trans (heap_alloc_new W3.drew.drew _); have hcl := cells2 hy; obtain ⟨y0, y1, yf⟩ := hcl; have yf0 := yf 0; have yf1 := yf 1; have Hy := Lib.hid hy; clear hy yf) | skip); have pX := (hb5.cell (p := ⟨wr.heap.size, 1, none⟩) hl3).trans p1; have HX1 := Lib.hid hx1; have HB5 := Lib.hid hb5; clear hx1 hb5 hbW))
        · obtain ⟨Wf, hWf⟩ : ∃ Wf, w5.alloc (.cells #[.slice A1 n1 c1, .slice A2 n2 c2] 76) = Wf := ⟨_, rfl⟩
          have hr : Wf.heap[w5.heap.size]? = some (.cells #[.slice A1 n1 c1, .slice A2 n2 c2] 76 (0, 0)) := hWf ▸ heap_alloc_new w5 _
          have hbf : Below W3.heap.size W3 Wf := hWf ▸ HB5.out.alloc HB5.out.size _
          have hxf : Below w5.heap.size w5 Wf := hWf ▸ below_new w5 _
          have HX1' := Lib.hid ((HX1.out.below hxf).mono (B' := w.heap.size) (by have := Hb3.out.size; simp; omega))
          rw [hWf]
          obtain ⟨r0, r1, -⟩ := cells2 hr
          have p2' := (hbf.cell (p := ⟨wr.heap.size, 2, none⟩) hl3).trans p2
          have HBf := Lib.hid (Hb3.out.trans (hbf.mono (by have := Hb3.out.size; omega)))
          clear hWf hr hbf hxf
          cases res
          · go_wp2
            exact hQ.out _ _ ⟨_, rfl, Hno.out Hres.out _ HBf.out⟩
          · have HD := Lib.hid (Hyes.out Hres.out Wf A1 c1 n1 A2 c2 n2 HBf.out HX1'.out)
            go_wp2_with fail
            refine HD.out.mono ?_
            rintro e w9 ⟨v, rfl, hv⟩
            have HV := Lib.hid hv
            clear hv
            go_wp2
            exact hQ.out _ _ ⟨v, rfl, HV.out⟩
        · have h9 := hset (i := 1) (v := .slice A2 n2 c2) (hset (i := 0) (v := .slice A1 n1 c1) Hy.out)
          obtain ⟨Wf, hWf⟩ : ∃ Wf, (w5.setCell ⟨W3.heap.size, 0, none⟩ (.slice A1 n1 c1)).setCell ⟨W3.heap.size, 1, none⟩ (.slice A2 n2 c2) = Wf := ⟨_, rfl⟩
          rw [hWf] at h9
          have hr : Wf.heap[W3.heap.size]? = some (.cells #[.slice A1 n1 c1, .slice A2 n2 c2] 76 (0, 0)) := h9
          have hxk : Kx (fun j => j = W3.heap.size) w5 Wf := hWf ▸ kx_set (S := fun j => j = W3.heap.size) (kx_set (S := fun j => j = W3.heap.size) (Kx.refl _ w5) rfl 0 _) rfl 1 _
          have hbf : Below W3.heap.size W3 Wf := hxk.low HB5.out (fun j hj => by omega) HB5.out.size
          have hxf := True.intro
          have hy9 := Hy.out
          have HX1' := Lib.hid ((HX1.out.kx hxk (fun j e => by subst e; simp)).mono (B' := w.heap.size) (by have := Hb3.out.size; simp; omega))
          rw [hWf]
          clear hy9
          obtain ⟨r0, r1, -⟩ := cells2 hr
          have p2' := (hbf.cell (p := ⟨wr.heap.size, 2, none⟩) hl3).trans p2
          have HBf := Lib.hid (Hb3.out.trans (hbf.mono (by have := Hb3.out.size; omega)))
          clear hWf hr hbf hxf
          cases res
          · go_wp2
            exact hQ.out _ _ ⟨_, rfl, Hno.out Hres.out _ HBf.out⟩
          · have HD := Lib.hid (Hyes.out Hres.out Wf A1 c1 n1 A2 c2 n2 HBf.out HX1'.out)
            go_wp2_with fail
            refine HD.out.mono ?_
            rintro e w9 ⟨v, rfl, hv⟩
            have HV := Lib.hid hv
            clear hv
            go_wp2
            exact hQ.out _ _ ⟨v, rfl, HV.out⟩
end
end
section
section
open Go.RowKit Go.Shelf
/-- An answer whose text is t, and what holds behind it. -/
def AnsW (bg : Nat) (Q : List UInt8 → World → Prop) (v : Value) (W : World) : Prop :=
  (∃ c, v = .iface 61 (.int .i64 c) ∧ i64B c ∧ Gl bg W ∧ ∀ W', Below W.heap.size W W' → Q (bangL c) W') ∨
  (∃ A n cp L, v = .iface 137 (.slice A n cp) ∧ SlE strE 1 W A n L ∧ n ≤ 1000000 ∧ n ≤ cp ∧ (linesL (L.map (·.data.toList))).length ≤ 140737488355328 ∧ ∀ W', Below W.heap.size W W' → Q (linesL (L.map (·.data.toList))) W')
set_option maxRecDepth 100000 in
set_option maxHeartbeats 4000000 in
theorem line_any (w : World) (h : Nat) (hm : w.cell? ⟨h, 0, none⟩ = some (.bool true)) (_hl : h < w.heap.size) (s : ByteArray) (hs : s.size < 4294967281) (c : UInt8) (r : List UInt8) (hf : fstL s.data.toList = c :: r) (hc : c ≠ 35) (hlen : r.length < 4096) (bg : Nat) (hg : Gl bg w) (Q : List UInt8 → World → Prop)
    (hrep : ∀ W, Below w.heap.size w W → Calls Tryz.prog 22 #[.pointer (some ⟨h, 0, none⟩), .string ⟨(c :: r).toArray⟩] W fun e w' => ∃ v, e = .returned v ∧ AnsW bg Q v w') :
    Calls Tryz.prog 7 #[.pointer (some ⟨h, 0, none⟩), .string s] w fun e w' => ∃ t, e = .returned (.string ⟨t.toArray⟩) ∧ Q t w' := by
  refine calls_cps ?_
  intro R hR
  have HC := Lib.hid (cut_any s ⟨#[10]⟩ w bg hg hs)
  have HRep := Lib.hid hrep
  obtain ⟨S, hS⟩ : ∃ S : ByteArray, (⟨(c :: r).toArray⟩ : ByteArray) = S := ⟨_, rfl⟩
  have hSL : S.data.toList = c :: r := by rw [← hS]
  have hsz : S.size = r.length + 1 := by rw [ba_size, hSL, List.length_cons]
  have hp : 0 < S.size := by omega
  have i1 : ¬ (4096 : Int) < (S.size : Int) := by omega
  have i3 : (S.toList == []) = false := by rw [Lib.toList_data, hSL]; rfl
  have h0 : S[0]'hp = c := by
    subst hS
    rfl
  have i2 : (((S[0]'hp).toNat : Int) == 35) = false := by
    rw [h0, beq_eq_false_iff_ne]
    intro e
    exact hc (UInt8.toNat_inj.1 (by have h35 : (35 : UInt8).toNat = 35 := by decide
                                    omega))
  rw [show (⟨(Lib.cut s.data.toList (⟨#[10]⟩ : ByteArray).data.toList).1.toArray⟩ : ByteArray) = S from by rw [← hS, show (Lib.cut s.data.toList (⟨#[10]⟩ : ByteArray).data.toList).1 = c :: r from (cut_fst s.data.toList).trans hf]] at HC
  rw [hS] at HRep
  clear hS hSL h0 hsz
  clear hg hrep hf hc
  go_enter Tryz.func7, Tryz.ntmps7
  go_wp2_with (go_at_call 21; go_loud (refine HC.out.mono ?_; rintro e w1 ⟨rfl, hb1⟩; have HB1 := Lib.hid hb1; clear hb1))
  refine (HRep.out w1 HB1.out).mono ?_
  rintro e w2 ⟨v, rfl, hv⟩
  rcases hv with ⟨c2, rfl, h1, h2, h3⟩ | ⟨A, n, cp, L, rfl, h1, h2, h3, h4, h5⟩
  · have HT := Lib.hid (rtext_any c2 w2 h1 bg h2)
    have H3 := Lib.hid h3
    have hm2 := meth_refusal
    clear h1 h2 h3
    go_wp2_with fail
    refine HT.out.mono ?_
    rintro e w3 ⟨rfl, hb3⟩
    have HQ := Lib.hid (H3.out w3 hb3)
    clear hb3
    go_wp2
    exact hR.out _ _ ⟨_, rfl, HQ.out⟩
  · have HT := Lib.hid (ltext_any A n cp L w2 h1 h2 h3 h4)
    have H3 := Lib.hid h5
    have hm2 := meth_lines
    clear h1 h2 h3 h4 h5
    go_wp2_with fail
    refine HT.out.mono ?_
    rintro e w3 ⟨rfl, hb3⟩
    have HQ := Lib.hid (H3.out w3 hb3)
    clear hb3
    go_wp2
    exact hR.out _ _ ⟨_, rfl, HQ.out⟩
end
end
section
section
open Go.RowKit Go.Shelf
theorem spl_cons' (x : UInt8) (l : List UInt8) (h : x ≠ 32) : spl (x :: l) = (x :: (spl l).headD []) :: (spl l).tail := by rw [spl, if_neg h]
/-- The first byte of a line is its first word's. -/
theorem spl_first {l nm : List UInt8} {ws : List (List UInt8)} {c : UInt8} (h : spl l = (c :: nm) :: ws) : ∃ r, l = c :: r := by
  cases l with
  | nil => simp [spl] at h
  | cons x r =>
    by_cases hx : x = 32
    · rw [spl, if_pos hx] at h
      simp at h
    · rw [spl_cons' x r hx] at h
      simp only [List.cons.injEq] at h
      rw [h.1.1]
      exact ⟨r, rfl⟩
theorem spl_try {l nm : List UInt8} {ws : List (List UInt8)} (h : spl l = nm :: ws) (hn : nm ≠ [116, 114, 121]) : Lib.hasPrefix l [116, 114, 121, 32] = false := by
  cases hp : Lib.hasPrefix l [116, 114, 121, 32] with
  | false => rfl
  | true =>
    exfalso
    unfold Lib.hasPrefix at hp
    obtain ⟨r, hr⟩ := List.isPrefixOf_iff_prefix.1 hp
    have h2 := spl_word [116, 114, 121] r (by decide)
    have h3 : l = [116, 114, 121] ++ 32 :: r := by rw [← hr]; rfl
    rw [h3, h2] at h
    exact hn (by injection h with h _; exact h.symm)
theorem first_of {i : Nat} {nm : List UInt8} (h : ((cmdT.take i).any fun x => decide (x.1 = nm)) = false) : ∀ j x, j < i → cmdT[j]? = some x → x.1 ≠ nm := by
  intro j x hj hx e
  rw [List.any_eq_false] at h
  have hm : x ∈ cmdT.take i := by
    obtain ⟨h1, rfl⟩ := List.getElem?_eq_some_iff.1 hx
    rw [List.mem_take_iff_getElem]
    exact ⟨j, by omega, rfl⟩
  exact h x hm (by simpa using e)
set_option maxRecDepth 8000 in
set_option maxHeartbeats 4000000 in
theorem cline_any (w : World) (h : Nat) (hm : w.cell? ⟨h, 0, none⟩ = some (.bool true)) (hl : h < w.heap.size) (s : ByteArray) (hs : s.size < 4294967281) (c : UInt8) (nm fo : List UInt8) (f : FuncId) (ws : List (List UInt8)) (hsp : spl (fstL s.data.toList) = (c :: nm) :: ws) (hw : [] ∉ spl (fstL s.data.toList)) (hlen : (fstL s.data.toList).length ≤ 4096) (hc : c ≠ 35) (hnt : c :: nm ≠ [116, 114, 121]) (i : Nat) (hi : cmdT[i]? = some (c :: nm, fo, f)) (hfirst : ((cmdT.take i).any fun x => decide (x.1 = c :: nm)) = false)
    (hfo : fo.length ≤ 1000) (hfa : (fo.all fun b => decide (b.toNat < 128)) = true) (hfk : ((Lib.fields fo).all fun k => decide (k.length ≤ 1000)) = true) (hfl : (Lib.fields fo).length ≤ 1000) (eg : ∀ args w, (callFunc f args).run Tryz.prog w = .ok (.enter f args) w) (bg : Nat) (hg : Gl bg w) (hb : bg ≤ w.heap.size) (Q : List UInt8 → World → Prop)
    (hno : (readP fo ws).2.2 = false → ∀ W, Below w.heap.size w W → Q (bangL 2) W)
    (hyes : (readP fo ws).2.2 = true → ∀ W A1 c1 n1 A2 c2 n2, Below w.heap.size w W → ArgsW w.heap.size W A1 n1 c1 A2 n2 c2 (readP fo ws).1 (readP fo ws).2.1 → Calls Tryz.prog f #[.pointer (some ⟨h, 0, none⟩), .agg #[.slice A1 n1 c1, .slice A2 n2 c2]] W fun e w' => ∃ v, e = .returned v ∧ AnsW bg Q v w') :
    Calls Tryz.prog 7 #[.pointer (some ⟨h, 0, none⟩), .string s] w fun e w' => ∃ t, e = .returned (.string ⟨t.toArray⟩) ∧ Q t w' := by
  obtain ⟨r, hr⟩ := spl_first hsp
  refine line_any w h hm hl s hs c r hr hc (by rw [hr, List.length_cons] at hlen; omega) bg hg Q ?_
  intro W hW
  have hd : (⟨(c :: r).toArray⟩ : ByteArray).data.toList = fstL s.data.toList := by rw [hr]
  refine reply_any W h ⟨(c :: r).toArray⟩ ?_ ?_ ?_ (c :: nm) fo f ws ?_ i hi (first_of hfirst) hfo (fun j b hb => ?_) (fun k hk => ?_) hfl eg bg (hg.on (hW.mono hb)) (Nat.le_trans hb hW.size) (AnsW bg Q) (fun hz W' hW' => ?_) (fun hz W' A1 c1 n1 A2 c2 n2 hW' hA => ?_)
  · rw [ba_size, hd]; exact hlen
  · rw [hd]; exact spl_try hsp hnt
  · rw [hd]; exact hw
  · rw [hd]; exact hsp
  · have := List.all_eq_true.1 hfa b (List.mem_of_getElem? hb)
    simpa using this
  · have := List.all_eq_true.1 hfk k hk
    simpa using this
  · have h2 := hW.trans (hW'.mono hW.size)
    exact .inl ⟨2, rfl, ⟨by decide, by decide⟩, hg.on (h2.mono hb), fun W'' hW'' => hno hz W'' (h2.trans (hW''.mono h2.size))⟩
  · exact hyes hz W' A1 c1 n1 A2 c2 n2 (hW.trans (hW'.mono hW.size)) (hA.mono hW.size)
set_option maxRecDepth 8000 in
set_option maxHeartbeats 4000000 in
theorem line_long (w : World) (h : Nat) (hm : w.cell? ⟨h, 0, none⟩ = some (.bool true)) (_hl : h < w.heap.size) (s : ByteArray) (hs : s.size < 4294967281) (hlen : 4096 < (fstL s.data.toList).length) (bg : Nat) (hg : Gl bg w) (hb : bg ≤ w.heap.size) :
    Calls Tryz.prog 7 #[.pointer (some ⟨h, 0, none⟩), .string s] w fun e w' => e = .returned (.string ⟨(bangL 3).toArray⟩) ∧ Below w.heap.size w w' := by
  refine calls_cps ?_
  intro R hR
  have HC := Lib.hid (cut_any s ⟨#[10]⟩ w bg hg hs)
  obtain ⟨S, hS⟩ : ∃ S : ByteArray, (⟨(fstL s.data.toList).toArray⟩ : ByteArray) = S := ⟨_, rfl⟩
  have i1 : (4096 : Int) < (S.size : Int) := by
    rw [← hS, ba_size]
    show (4096 : Int) < ((fstL s.data.toList).length : Int)
    omega
  rw [show (⟨(Lib.cut s.data.toList (⟨#[10]⟩ : ByteArray).data.toList).1.toArray⟩ : ByteArray) = S from by rw [← hS, show (Lib.cut s.data.toList (⟨#[10]⟩ : ByteArray).data.toList).1 = fstL s.data.toList from cut_fst s.data.toList]] at HC
  have HG := Lib.hid hg
  clear hS hg hlen
  go_enter Tryz.func7, Tryz.ntmps7
  go_wp2_with (go_at_call 21; go_loud (refine HC.out.mono ?_; rintro e w1 ⟨rfl, hb1⟩; have HB1 := Lib.hid hb1; clear hb1))
  have HT := Lib.hid (rtext_any 3 w1 ⟨by decide, by decide⟩ bg (HG.out.on (HB1.out.mono hb)))
  refine HT.out.mono ?_
  rintro e w2 ⟨rfl, hb2⟩
  have hf := hR.out _ _ ⟨rfl, HB1.out.trans (hb2.mono HB1.out.size)⟩
  have HF := Lib.hid hf
  clear hf hb2 hR
  go_wp2
  exact HF.out
end
end
end Go.Proofs.YtndcijkgaadpgaaGreatDoor
