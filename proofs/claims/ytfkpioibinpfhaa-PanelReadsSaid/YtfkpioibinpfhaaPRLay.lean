/-
  The contract of clavecinref08.Layout: the pieces of a plan by the document, or none; condition: the panel is valid and the plan is short.
-/
import Derived.Test.YtfkpioibinpfhaaPWorth
import Derived.Test.YtfkpioibinpfhaaPLeaf3
import Derived.Test.YtfkpioibinpfhaaPFew
import Derived.Test.YtfkpioibinpfhaaPBrief
import Derived.Deep.RegionHeld3
import Derived.Deep.LoopGhost
import Derived.Deep.QuietTactic
import Derived.BigQuiet
namespace Go.Proofs.Ytfkpioibinpfhaa
open Go.RowKit

def rsE (q : Rs) : List Value := [.int .i64 q.X, .int .i64 q.Y, .int .i64 q.W, .int .i64 q.H]
theorem rsE_len (q : Rs) : (rsE q).length = 4 := rfl
theorem elemRs : ElemOk Try.prog 97 96 4 32 := ElemOk.of (z := .agg #[.int .i64 0, .int .i64 0, .int .i64 0, .int .i64 0]) Try.underlying97 (by kernel_rfl) rfl (by omega)
theorem rs_one (l : List Rs) : ∀ u ∈ l.flatMap rsE, u.oneCell' = true := by
  intro u hu
  obtain ⟨s, _, hs⟩ := List.mem_flatMap.1 hu
  simp only [rsE, List.mem_cons, List.not_mem_nil, or_false] at hs
  rcases hs with rfl | rfl | rfl | rfl <;> rfl
theorem one4 (a b c d : Int) : ∀ u ∈ [Value.int .i64 a, .int .i64 b, .int .i64 c, .int .i64 d], u.oneCell' = true := by
  intro u hu; simp at hu; rcases hu with rfl | rfl | rfl | rfl <;> rfl
theorem one5 (a b c d e : Int) : ∀ u ∈ [Value.int .i64 a, .int .i64 b, .int .i64 c, .int .i64 d, .int .i64 e], u.oneCell' = true := by
  intro u hu; simp at hu; rcases hu with rfl | rfl | rfl | rfl | rfl <;> rfl
theorem SlE.last {w : World} {A : Option Addr} {k : Nat} {q : Rs} {stk : List Rs} (h : SlE rsE 4 w A (k + 1) (q :: stk).reverse) :
    ∃ b o, A = some ⟨b, o, none⟩ ∧ b < w.heap.size ∧ w.cell? ⟨b, o + k * 4, none⟩ = some (.int .i64 q.X) ∧ w.cell? ⟨b, o + k * 4 + 1, none⟩ = some (.int .i64 q.Y) ∧
      w.cell? ⟨b, o + k * 4 + 2, none⟩ = some (.int .i64 q.W) ∧ w.cell? ⟨b, o + k * 4 + 3, none⟩ = some (.int .i64 q.H) := by
  obtain ⟨b, o, x, hA, hb, hx, hc⟩ := h.at_ rsE_len (Nat.lt_succ_self k)
  have hk : stk.length = k := by have := h.1; simp at this; omega
  rw [List.reverse_cons, List.getElem?_append_right (by simp [hk])] at hx
  simp [hk] at hx
  subst hx
  exact ⟨b, o, hA, hb, by simpa using hc 0 _ rfl, by simpa [Nat.add_assoc] using hc 1 _ rfl, by simpa [Nat.add_assoc] using hc 2 _ rfl, by simpa [Nat.add_assoc] using hc 3 _ rfl⟩
theorem SlE.butLast {w : World} {A : Option Addr} {k : Nat} {q : Rs} {stk : List Rs} (h : SlE rsE 4 w A (k + 1) (q :: stk).reverse) : SlE rsE 4 w A k stk.reverse := by
  have h1 := SlE.cut rsE_len h (k := k) (by omega)
  have hk : stk.length = k := by have := h.1; simp at this; omega
  rwa [List.reverse_cons, List.take_append_of_le_length (by simp [hk]), List.take_of_length_le (by simp [hk])] at h1
/-- A rectangle within the panel. -/
def Rok (q : Rs) : Prop := 0 ≤ q.X ∧ 0 ≤ q.Y ∧ 1 ≤ q.W ∧ 1 ≤ q.H ∧ q.X + q.W ≤ 64 ∧ q.Y + q.H ≤ 64
/-- The state at a round's head. -/
structure LI (w wr : World) (k : Int) (ss : List Shp) (L0 : Option (List Pc)) (rest : Cuts) (i : Nat) (stk : List Rs) (pcs : List Pc) (A1 : Option Addr) (n1 c1 : Nat) (A2 : Option Addr) (n2 c2 : Nat) : Prop where
  o1 : wr.ownsRow w.heap.size 96 4 (.slice A1 n1 c1) n1 (stk.reverse.flatMap rsE)
  o2 : wr.ownsRow w.heap.size 59 5 (.slice A2 n2 c2) n2 (pcs.flatMap pcE)
  bel : Below w.heap.size w wr
  l1 : n1 = stk.length
  l2 : n2 = pcs.length
  b1 : n1 ≤ i + 1
  b2 : n2 ≤ i
  ok : ∀ q ∈ stk, Rok q
  eq : Hid (L0 = (lay k ss stk rest).map (pcs ++ ·))
theorem lay_none {L0 : Option (List Pc)} {k : Int} {ss : List Shp} {q : Rs} {stk : List Rs} {pcs : List Pc} {c a : Int} {r : Cuts} (h : L0 = (lay k ss (q :: stk) ((c, a) :: r)).map (pcs ++ ·)) (hs : stepR k ss q c a = none) : L0 = none := by
  rw [h]; simp [lay, hs]
theorem lay_some {L0 : Option (List Pc)} {k : Int} {ss : List Shp} {q : Rs} {stk : List Rs} {pcs : List Pc} {c a : Int} {r : Cuts} {rs : List Rs} {ps : List Pc} (h : L0 = (lay k ss (q :: stk) ((c, a) :: r)).map (pcs ++ ·)) (hs : stepR k ss q c a = some (rs, ps)) :
    L0 = (lay k ss (rs ++ stk) r).map ((pcs ++ ps) ++ ·) := by
  rw [h]; simp [lay, hs, Function.comp_def]
/-- What the document's Layout hands back. -/
def RefLay (w : World) (res : Option (List Pc)) (e : Ending) (w' : World) : Prop :=
  Below w.heap.size w w' ∧ ∃ A n c, (res = none ∧ e = .returned (.tuple #[.slice A n c, .bool false])) ∨
    ∃ p, res = some p ∧ e = .returned (.tuple #[.slice A n c, .bool true]) ∧ n = p.length ∧ w'.ownsRow w.heap.size 59 5 (.slice A n c) n (p.flatMap pcE)
theorem LI.below {w wr W1 : World} {k : Int} {ss : List Shp} {L0 : Option (List Pc)} {rest : Cuts} {i : Nat} {stk : List Rs} {pcs : List Pc} {A1 : Option Addr} {n1 c1 : Nat} {A2 : Option Addr} {n2 c2 : Nat} (h : LI w wr k ss L0 rest i stk pcs A1 n1 c1 A2 n2 c2) (hb : Below wr.heap.size wr W1) : LI w W1 k ss L0 rest i stk pcs A1 n1 c1 A2 n2 c2 :=
  ⟨ownsRow_below h.o1 hb, ownsRow_below h.o2 hb, h.bel.trans (hb.mono h.bel.size), h.l1, h.l2, h.b1, h.b2, h.ok, h.eq⟩
theorem LI.next {w w5 : World} {k : Int} {ss : List Shp} {L0 : Option (List Pc)} {rest : Cuts} {i B' : Nat} {stk : List Rs} {pcs : List Pc} {A1 : Option Addr} {n1 c1 : Nat} {A2 : Option Addr} {n2 c2 : Nat} (o1 : w5.ownsRow B' 96 4 (.slice A1 n1 c1) n1 (stk.reverse.flatMap rsE)) (hB : w.heap.size ≤ B')
    (o2 : w5.ownsRow w.heap.size 59 5 (.slice A2 n2 c2) n2 (pcs.flatMap pcE)) (bel : Below w.heap.size w w5) (l1 : n1 = stk.length) (l2 : n2 = pcs.length) (b1 : n1 ≤ i + 1 + 1) (b2 : n2 ≤ i + 1) (ok : ∀ q ∈ stk, Rok q) (eq : Hid (L0 = (lay k ss stk rest).map (pcs ++ ·))) :
    LI w w5 k ss L0 rest (i + 1) stk pcs A1 n1 c1 A2 n2 c2 := ⟨own_low o1 hB, o2, bel, l1, l2, b1, b2, ok, eq⟩
theorem push {w wx wy w5 : World} {b n1 n2 : Nat} {v1 v2 : Value} {xs ys : List Value} (p1 : wy.ownsRow wx.heap.size 96 4 v1 n1 xs) (p2 : wy.ownsRow b 59 5 v2 n2 ys) (pb : Below wx.heap.size wx wy) (bel : Below w.heap.size w wx) (o : Obj)
    (hg : (wy.alloc o).grownBy w5 v1.ownBlock) : w5.ownsRow b 59 5 v2 n2 ys ∧ Below wx.heap.size wx w5 ∧ Below w.heap.size w w5 := by
  have hb : Below wx.heap.size wx w5 := below_own (pb.alloc pb.size _) (p1.alloc o) (Nat.le_refl _) (by have := pb.size; simp; omega) hg
  exact ⟨(p2.alloc o).kept hg (own_ne (p2.alloc o) (p1.alloc o) (by decide)), hb, bel.trans (hb.mono bel.size)⟩
theorem pushP {w wx wy w5 : World} {n1 n2 : Nat} {v1 v2 : Value} {xs ys : List Value} (p1 : wy.ownsRow wx.heap.size 96 4 v1 n1 xs) (p2 : wy.ownsRow w.heap.size 59 5 v2 n2 ys) (pb : Below wx.heap.size wx wy) (bel : Below w.heap.size w wx) (o : Obj)
    (hg : (wy.alloc o).grownBy w5 v2.ownBlock) : w5.ownsRow w.heap.size 96 4 v1 n1 xs ∧ Below w.heap.size w w5 := by
  have hb0 : Below w.heap.size w wy := bel.trans (pb.mono bel.size)
  have hb : Below w.heap.size w w5 := below_own (hb0.alloc hb0.size _) (p2.alloc o) (Nat.le_refl _) (by have := hb0.size; simp; omega) hg
  exact ⟨own_low ((p1.alloc o).kept hg (own_ne (p1.alloc o) (p2.alloc o) (by decide))) bel.size, hb⟩
theorem own_cap {w : World} {base sz n c : Nat} {e : TypeId} {A : Option Addr} {xs : List Value} (h : w.ownsRow base e sz (.slice A n c) n xs) : n ≤ c ∧ c ≤ 9223372036854775807 := by
  obtain ⟨A', c', hv, h1, h2, _⟩ := own_slice h
  simp only [Value.slice.injEq, true_and] at hv
  obtain ⟨_, rfl⟩ := hv
  unfold maxLen at h2
  exact ⟨h1, by omega⟩
theorem two_boxes (w : World) (o1 o2 : Obj) : ((w.alloc o1).alloc o2).drew.heap[w.heap.size]? = some o1 ∧ ((w.alloc o1).alloc o2).drew.heap[w.heap.size + 1]? = some o2 ∧ Below w.heap.size w ((w.alloc o1).alloc o2).drew := by
  refine ⟨(Below.heap_alloc _ _ _ (by simp)).trans (heap_alloc_new w _), ?_, (below_two w o1 o2).drew⟩
  have := heap_alloc_new (w.alloc o1) o2
  rwa [World.size_alloc] at this
theorem asB_rdAs (w h : Int) (s : Shp) (t : Bool) : asB w h s t = rdAs w h s t := by
  rw [Bool.eq_iff_iff]
  cases t <;> simp [asB, rdAs] <;> constructor <;> intro h <;> simp_all
theorem in_left (v lo hi : Int) (w : World) (n : Nat) : Calls Try.prog 40 #[.int .i64 v, .int .i64 lo, .int .i64 hi] (w.drewN n) fun e w' => e = .returned (.bool (inB v lo hi)) ∧ ∃ m, w' = w.drewN m :=
  (in_any v lo hi (w.drewN n)).mono fun _ _ ⟨he, hm⟩ => ⟨he, n, hm.symm⟩
set_option maxRecDepth 100000 in
set_option maxHeartbeats 16000000 in
theorem refLay_any (W H k : Int) (B A : Option Addr) (m d n c : Nat) (ss : List Shp) (l : Cuts) (w : World) (hS : SlE Shp.enc 4 w B m ss) (hL : SlE cutE 2 w A n l) (hn : n ≤ 1000) (hp : panOk W H k ss = true) :
    Calls Try.prog 34 #[.int .i64 W, .int .i64 H, .int .i64 k, .slice B m d, .slice A n c] w (RefLay w (planOut k ss W H l)) := by
  refine calls_cps ?_
  intro R hR
  obtain ⟨hW1, hW2, hH1, hH2, hk0, hk8, hss, hok⟩ := panOk_ok hp
  have hm16 : m ≤ 16 := by rw [hS.1]; exact hss
  obtain ⟨L0, hL0⟩ : ∃ r, planOut k ss W H l = r := ⟨_, rfl⟩
  rw [hL0] at hR
  rw [← lay_planOut] at hL0
  have HL0 := Lib.hid hL0
  have Hln := Lib.hid hL.1
  have Hmn := Lib.hid hS.1
  have Hno := Lib.hid (show ∀ A n c W', L0 = none → Below w.heap.size w W' → R (.returned (.tuple #[.slice A n c, .bool false])) W' from fun A n c W' h hb => hR.out _ _ ⟨hb, A, n, c, .inl ⟨h, rfl⟩⟩)
  have Hok := Lib.hid hok
  clear hL0 hp hok hss
  go_enter Try.func34, Try.ntmps34
  go_wp2_with fail
  go_loopg [12, 13, 14] n (fun gk s12 s13 s14 wr => ∃ i stk pcs A1 n1 c1 A2 n2 c2, i + gk = n ∧ s12 = .slice A1 n1 c1 ∧ s13 = .slice A2 n2 c2 ∧ s14 = .int .i64 ((i : Nat) : Int) ∧ LI w wr k ss L0 (l.drop i) i stk pcs A1 n1 c1 A2 n2 c2)
  case atStart =>
    refine ⟨0, [⟨0, 0, W, H⟩], [], _, 1, 1, _, 0, 0, by omega, rfl, rfl, rfl, ?_⟩
    exact ⟨(own_new w _ _ 4 1 _ rfl (Nat.le_refl _) (by unfold maxLen; omega)).alloc _, own_newAt _ _ _ 5 0 _ rfl (by simp) (by unfold maxLen; omega) (by simp), below_two _ _ _, rfl, rfl, by omega, by omega, by
      intro q hq; simp at hq; subst hq; exact ⟨by simp, by simp, hW1, hH1, by simp; omega, by simp; omega⟩, Lib.hid (by rw [← HL0.out]; simp)⟩
  case round =>
    obtain ⟨i, stk, pcs, A1, n1, c1, A2, n2, c2, hgk, rfl, rfl, rfl, hI⟩ := hrel
    by_cases hlt : i < n
    · cases stk with
      | nil =>
        obtain rfl : n1 = 0 := hI.l1
        have hnone : L0 = none := by
          have := hI.eq.out
          have hil : i < l.length := by rw [← Hln.out]; exact hlt
          rw [List.drop_eq_getElem_cons hil, lay_nil, if_neg (List.cons_ne_nil _ _)] at this
          simpa using this
        have hbel := hI.bel
        have Hnone := Lib.hid hnone
        clear hI hnone
        go_wp2
        exact Hno.out _ _ _ _ Hnone.out hbel
      | cons q stk =>
        obtain ⟨n1, rfl⟩ : ∃ k, n1 = k + 1 := ⟨stk.length, hI.l1⟩
        obtain ⟨b, o, x, rfl, hbl, hx, x0, x1⟩ := (hL.below hI.bel).at2 hlt
        obtain ⟨ck, ca⟩ := x
        dsimp only at x0 x1
        have hq := SlE.of_own hI.o1 (by rw [hI.l1]; simp)
        have hqb := hq.butLast
        obtain ⟨bq, oq, rfl, hbq, y0, y1, y2, y3⟩ := hq.last
        have hn1 : n1 ≤ 1000 := by have := hI.b1; omega
        have hlay : L0 = (lay k ss (q :: stk) ((ck, ca) :: l.drop (i + 1))).map (pcs ++ ·) := by
          have := hI.eq.out
          obtain ⟨hil, hx'⟩ := List.getElem?_eq_some_iff.1 hx
          rwa [List.drop_eq_getElem_cons hil, hx'] at this
        have Hlay := Lib.hid hlay
        have HI := Lib.hid hI
        have Hb := Lib.hid hqb
        obtain ⟨g1, g2, g3, g4, g5, g6⟩ := hI.ok q (by simp)
        clear hx hq hlay hqb
        obtain ⟨wi, rfl⟩ : ∃ wi : World, wi = wr := ⟨_, rfl⟩
        clear hI
        go_upto_region 8 with fail
        go_cut [15, 16] (fun s15 s16 wx => ∃ b15 b16, s15 = .pointer (some ⟨b15, 0, none⟩) ∧ s16 = .pointer (some ⟨b16, 0, none⟩) ∧ wx.heap[b15]? = some (.cells #[.int .i64 q.X, .int .i64 q.Y, .int .i64 q.W, .int .i64 q.H] 96 (0, 0)) ∧
          wx.heap[b16]? = some (.cells #[.int .i64 ck, .int .i64 ca] 81 (0, 0)) ∧ Below wi.heap.size wi wx)
        case first =>
          have f1 : IntKind.i64.wrap ((n1 : Int) + 1 - 1) = n1 := by rw [show (n1 : Int) + 1 - 1 = n1 by omega]; exact IntWalk.i64_in _ (by omega)
          have f2 : IntKind.i64.wrap (n1 : Int) = n1 := IntWalk.i64_in _ (by omega)
          have f3 : (0 : Int) ≤ (n1 : Int) := by omega
          have f4 : (n1 : Int) < (n1 : Int) + 1 := by omega
          have f5 : (i : Int) < (n : Int) := by omega
          go_region_held3 (fun w' => w'.cell? ⟨bq, oq + n1 * 4, none⟩ = some (.int .i64 q.X) ∧ w'.cell? ⟨bq, oq + n1 * 4 + 1, none⟩ = some (.int .i64 q.Y) ∧ w'.cell? ⟨bq, oq + n1 * 4 + 2, none⟩ = some (.int .i64 q.W) ∧ w'.cell? ⟨bq, oq + n1 * 4 + 3, none⟩ = some (.int .i64 q.H) ∧ w'.cell? ⟨b, o + i * 2, none⟩ = some (.int .i64 ck) ∧ w'.cell? ⟨b, o + i * 2 + 1, none⟩ = some (.int .i64 ca)) (go_keep) (fail)
          all_goals
            go_wp2_with fail
            go_meet
            first
              | exact ⟨_, _, rfl, rfl, (two_boxes _ _ _).1, (two_boxes _ _ _).2.1, (two_boxes _ _ _).2.2⟩
              | exact ⟨_, _, rfl, rfl, (two_boxes _ _ _).2.1, (two_boxes _ _ _).1, (two_boxes _ _ _).2.2⟩
        case rest =>
          obtain ⟨b15, b16, e1, e2, hb15, hb16, hbx⟩ := hcut
          subst e1 e2
          obtain ⟨wx, rfl⟩ : ∃ wx : World, wx = wc := ⟨_, rfl⟩
          have hI := HI.out.below hbx
          have hbel := hI.bel
          have hqb := Hb.out.below hbx
          obtain ⟨hc1, hc2⟩ := own_cap hI.o1
          clear x0 x1 y0 y1 y2 y3 hbl hbq
          go_upto_region 9 with fail
          go_cut [12] (fun s12 wy => ∃ A' c', s12 = .slice A' n1 c' ∧ wy.ownsRow wx.heap.size 96 4 (.slice A' n1 c') n1 (stk.reverse.flatMap rsE) ∧ Below wx.heap.size wx wy)
          case first =>
            clear hI
            go_wp2_with (at_builtin; refine wpList_app rfl (.tmp 41) (.tmp 46) _ rfl elemRs wx.heap.size _ _ _ rfl (own_new _ _ _ 4 0 _ (by simp) (Nat.le_refl _) (by unfold maxLen; omega)) _ _ _ _ rfl (hqb.2.alloc _) (rs_one _) (by unfold maxLen; omega) (by omega) (by simp) ?_; intro A3 c3 w3 ho3 hg3 _; rw [Nat.zero_add, List.nil_append] at ho3; have hb3 := app_below1 rfl hg3; clear hg3)
            go_meet
            exact ⟨A3, c3, rfl, ho3, hb3⟩
          case rest => 
            obtain ⟨A', c', e3, p1, pb⟩ := hcut
            subst e3
            obtain ⟨wy, rfl⟩ : ∃ wy : World, wy = wc := ⟨_, rfl⟩
            have p2 := ownsRow_below hI.o2 pb
            have hz1 := hbel.size
            have hz2 := pb.size
            have hbel2 : Below w.heap.size w wy := hbel.trans (pb.mono hz1)
            have h15 := (Array.getElem?_eq_some_iff.1 hb15).1
            have h16 := (Array.getElem?_eq_some_iff.1 hb16).1
            obtain ⟨v0, v1, v2, v3, v4⟩ := cells4 (below_cells pb h15 hb15)
            obtain ⟨u0, u1, u2⟩ := cells2 (below_cells pb h16 hb16)
            have hl1 : n1 = stk.length := by have := hI.l1; simp at this; omega
            have hl2 := hI.l2
            have hi1 := hI.b1
            have hi2 := hI.b2
            have Hokq := Lib.hid (show ∀ x ∈ stk, Rok x from fun x hx => hI.ok x (by simp [hx]))
            have Hl1 := Lib.hid hl1
            have Hl2 := Lib.hid hl2
            clear hI hl1 hl2 hqb
            go_upto_region 10 with fail
            by_cases c0 : ck = 0
            · subst c0
              as_aux_lemma =>
                by_cases hca : ca = 0
                · subst hca
                  have he := lay_some Hlay.out (show stepR k ss q 0 0 = some ([], []) from by simp [stepR])
                  rw [List.nil_append, List.append_nil] at he
                  have HE := Lib.hid he
                  clear he
                  go_wp2
                  go_roundg (gk - 1)
                  case measure => omega
                  case rel =>
                    exact ⟨i + 1, stk, pcs, _, n1, _, _, n2, _, by omega, rfl, rfl, by go_num, LI.next (B' := wx.heap.size) p1 hz1 p2 hbel2 Hl1.out Hl2.out (by omega) (by omega) Hokq.out (Lib.hid HE.out)⟩
                · have hst : stepR k ss q 0 ca = none := by simp [stepR, hca]
                  have Hst := Lib.hid hst
                  have hc0 : (ca != 0) = true := by simp [hca]
                  clear hst hca
                  go_wp2
                  exact Hno.out _ _ _ _ (lay_none Hlay.out Hst.out) hbel2
            · have d0 : (ck == 0) = false := by simp [c0]
              by_cases c1 : ck = 1
              · subst c1
                have f1 : IntKind.i64.wrap ((m : Int) - 1) = (m : Int) - 1 := IntWalk.i64_in _ (by omega)
                by_cases hr : 0 ≤ ca ∧ ca < (m : Int)
                · obtain ⟨j, rfl⟩ : ∃ j : Nat, ca = j := ⟨ca.toNat, by omega⟩
                  have hin : inB (j : Int) 0 ((m : Int) - 1) = true := by unfold inB; simp; omega
                  obtain ⟨bs, os, sh, rfl, hbs, hsh, r0, r1, r2, r3⟩ := (hS.below hbel2).at4 (k := j) (by omega)
                  have hvs := (Hok.out sh (List.mem_of_getElem? hsh)).2.2
                  have hrd := rdSh_eq hsh q.W q.H false
                  have hjm : (j : Int) < (m : Int) := hr.2
                  have hj0 : (0 : Int) ≤ (j : Int) := by omega
                  obtain ⟨x, hx⟩ : ∃ x, asV q.W q.H sh false = x := ⟨_, rfl⟩
                  have hxr : (rdSh ss (j : Int) q.W q.H false = true ∧ 0 ≤ x ∧ x ≤ 1000000) ∨ (rdSh ss (j : Int) q.W q.H false = false ∧ x = -1) := by
                    rw [hrd, ← asB_rdAs]
                    unfold asV at hx
                    cases hb : asB q.W q.H sh false
                    · rw [hb] at hx; right; exact ⟨rfl, hx.symm⟩
                    · rw [hb] at hx; left; refine ⟨rfl, ?_⟩; rw [if_pos rfl] at hx; omega
                  have HX := Lib.hid hx
                  clear hrd hr hsh hx hvs
                  rcases hxr with ⟨hrt, hx0, hx1⟩ | ⟨hrt, rfl⟩
                  · have he := lay_some Hlay.out (show stepR k ss q 1 j = some ([], [⟨q.X, q.Y, q.W, q.H, j⟩]) from by simp [stepR, hrt])
                    rw [List.nil_append] at he
                    have HE := Lib.hid he
                    have hxd : decide (x < 0) = false := by simp; omega
                    clear he hrt
                    go_upto_region 17 with fail
                    go_cut [80] (fun s80 wz => s80 = .bool false ∧ Below wy.heap.size wy wz)
                    case first =>
                      as_aux_lemma =>
                        have k15 : b15 < wy.heap.size := by omega
                        have k16 : b16 < wy.heap.size := by omega
                        go_region_held3 (fun w' => w'.cell? ⟨b15, 2, none⟩ = some (.int .i64 q.W) ∧ w'.cell? ⟨b15, 3, none⟩ = some (.int .i64 q.H) ∧ w'.cell? ⟨b16, 0, none⟩ = some (.int .i64 1) ∧ w'.cell? ⟨b16, 1, none⟩ = some (.int .i64 (j : Int)) ∧ w'.cell? ⟨bs, os + j * 4, none⟩ = some (.int .i64 sh.W) ∧ w'.cell? ⟨bs, os + j * 4 + 1, none⟩ = some (.int .i64 sh.H) ∧ w'.cell? ⟨bs, os + j * 4 + 2, none⟩ = some (.int .i64 sh.V) ∧ w'.cell? ⟨bs, os + j * 4 + 3, none⟩ = some (.bool sh.T)) (first | go_keep | exact ⟨(hbs1.cell (p := ⟨b15, 2, none⟩) k15).trans v2, (hbs1.cell (p := ⟨b15, 3, none⟩) k15).trans v3, (hbs1.cell (p := ⟨b16, 0, none⟩) k16).trans u0, (hbs1.cell (p := ⟨b16, 1, none⟩) k16).trans u1, (hbs1.cell (p := ⟨bs, os + j * 4, none⟩) hbs).trans r0, (hbs1.cell (p := ⟨bs, os + j * 4 + 1, none⟩) hbs).trans r1, (hbs1.cell (p := ⟨bs, os + j * 4 + 2, none⟩) hbs).trans r2, (hbs1.cell (p := ⟨bs, os + j * 4 + 3, none⟩) hbs).trans r3⟩)
                          (first
                          | (go_at_call 40; refine (in_any _ _ _ _).mono ?_; rintro e w' ⟨rfl, rfl⟩)
                          | (go_at_call 49; refine (as_any q.W q.H sh false _).mono ?_; rw [HX.out]; rintro e w1 ⟨rfl, hb1⟩; have hbs1 : Below wy.heap.size wy w1 := ⟨hb1.os, hb1.tape, hb1.output, hb1.size, fun j hj => hb1.block j hj⟩))
                        go_wp2_with fail
                        go_meet
                        exact ⟨rfl, hbs1⟩
                    case rest =>
                      obtain ⟨e4, hbz⟩ := hcut
                      subst e4
                      obtain ⟨wz, rfl⟩ : ∃ wz : World, wz = wc := ⟨_, rfl⟩
                      clear v0 v1 v2 v3 v4 u0 u1 u2 r0 r1 r2 r3
                      have hz3 := hbz.size
                      have p3 := ownsRow_below p1 hbz
                      have p4 := ownsRow_below p2 hbz
                      have pz := pb.trans (hbz.mono hz2)
                      obtain ⟨v0, v1, v2, v3, v4⟩ := cells4 (below_cells pz h15 hb15)
                      obtain ⟨u0, u1, u2⟩ := cells2 (below_cells pz h16 hb16)
                      clear hbz pb
                      go_wp2_with (at_builtin; refine wpList_app rfl (.tmp 81) (.tmp 93) _ rfl elemPc w.heap.size _ _ _ rfl (p4.alloc _) _ _ _ _ rfl (Sl.new _ _ _ 5 1 rfl) (one5 _ _ _ _ _) (by unfold maxLen; omega) (by omega) (by simp; omega) ?_; intro A5 c5 w5 ho5 hg5 _; obtain ⟨p5, hbel5⟩ := pushP p3 p4 pz hbel _ hg5; clear v0 v1 v2 v3 v4 u0 u1 u2 hg5)
                      go_roundg (gk - 1)
                      case measure => omega
                      case rel =>
                        exact ⟨i + 1, stk, (pcs ++ [⟨q.X, q.Y, q.W, q.H, j⟩]), _, n1, _, _, (n2 + 1), _, by omega, rfl, rfl, by go_num, LI.next (B' := w.heap.size) p5 (Nat.le_refl _) (by simpa [pcE] using ho5) hbel5 Hl1.out (by simp [Hl2.out]) (by omega) (by omega) Hokq.out (Lib.hid HE.out)⟩
                  · have hst : stepR k ss q 1 j = none := by simp [stepR, hrt]
                    have Hst := Lib.hid hst
                    clear hst hrt
                    go_upto_region 17 with fail
                    go_cut [80] (fun s80 wz => s80 = .bool true ∧ Below wy.heap.size wy wz)
                    case first =>
                      as_aux_lemma =>
                        have k15 : b15 < wy.heap.size := by omega
                        have k16 : b16 < wy.heap.size := by omega
                        go_region_held3 (fun w' => w'.cell? ⟨b15, 2, none⟩ = some (.int .i64 q.W) ∧ w'.cell? ⟨b15, 3, none⟩ = some (.int .i64 q.H) ∧ w'.cell? ⟨b16, 0, none⟩ = some (.int .i64 1) ∧ w'.cell? ⟨b16, 1, none⟩ = some (.int .i64 (j : Int)) ∧ w'.cell? ⟨bs, os + j * 4, none⟩ = some (.int .i64 sh.W) ∧ w'.cell? ⟨bs, os + j * 4 + 1, none⟩ = some (.int .i64 sh.H) ∧ w'.cell? ⟨bs, os + j * 4 + 2, none⟩ = some (.int .i64 sh.V) ∧ w'.cell? ⟨bs, os + j * 4 + 3, none⟩ = some (.bool sh.T)) (first | go_keep | exact ⟨(hbs1.cell (p := ⟨b15, 2, none⟩) k15).trans v2, (hbs1.cell (p := ⟨b15, 3, none⟩) k15).trans v3, (hbs1.cell (p := ⟨b16, 0, none⟩) k16).trans u0, (hbs1.cell (p := ⟨b16, 1, none⟩) k16).trans u1, (hbs1.cell (p := ⟨bs, os + j * 4, none⟩) hbs).trans r0, (hbs1.cell (p := ⟨bs, os + j * 4 + 1, none⟩) hbs).trans r1, (hbs1.cell (p := ⟨bs, os + j * 4 + 2, none⟩) hbs).trans r2, (hbs1.cell (p := ⟨bs, os + j * 4 + 3, none⟩) hbs).trans r3⟩)
                          (first
                          | (go_at_call 40; refine (in_any _ _ _ _).mono ?_; rintro e w' ⟨rfl, rfl⟩)
                          | (go_at_call 49; refine (as_any q.W q.H sh false _).mono ?_; rw [HX.out]; rintro e w1 ⟨rfl, hb1⟩; have hbs1 : Below wy.heap.size wy w1 := ⟨hb1.os, hb1.tape, hb1.output, hb1.size, fun j hj => hb1.block j hj⟩))
                        go_wp2_with fail
                        go_meet
                        exact ⟨rfl, hbs1⟩
                    case rest =>
                      obtain ⟨e4, hbz⟩ := hcut
                      subst e4
                      have hbz2 := hbel2.trans (hbz.mono (by omega))
                      clear v0 v1 v2 v3 v4 u0 u1 u2 r0 r1 r2 r3 hbz
                      go_wp2
                      exact Hno.out _ _ _ _ (lay_none Hlay.out Hst.out) hbz2
                · have hin : inB ca 0 ((m : Int) - 1) = false := by unfold inB; simp; omega
                  have hst : stepR k ss q 1 ca = none := by
                    have : rdSh ss ca q.W q.H false = false := rdSh_out (by rw [← Hmn.out]; exact hr)
                    simp [stepR, this]
                  have Hst := Lib.hid hst
                  clear hst hr
                  go_upto_region 17 with fail
                  go_quiet ((go_at_call 40; exact in_left _ _ _ _ _))
                  go_wp2
                  exact Hno.out _ _ _ _ (lay_none Hlay.out Hst.out) (below_drewN hbel2 _)
              · have d1 : (ck == 1) = false := by simp [c1]
                by_cases c2 : ck = 2
                · subst c2
                  have f1 : IntKind.i64.wrap ((m : Int) - 1) = (m : Int) - 1 := IntWalk.i64_in _ (by omega)
                  by_cases hr : 0 ≤ ca ∧ ca < (m : Int)
                  · obtain ⟨j, rfl⟩ : ∃ j : Nat, ca = j := ⟨ca.toNat, by omega⟩
                    have hin : inB (j : Int) 0 ((m : Int) - 1) = true := by unfold inB; simp; omega
                    obtain ⟨bs, os, sh, rfl, hbs, hsh, r0, r1, r2, r3⟩ := (hS.below hbel2).at4 (k := j) (by omega)
                    have hvs := (Hok.out sh (List.mem_of_getElem? hsh)).2.2
                    have hrd := rdSh_eq hsh q.W q.H true
                    have hjm : (j : Int) < (m : Int) := hr.2
                    have hj0 : (0 : Int) ≤ (j : Int) := by omega
                    obtain ⟨x, hx⟩ : ∃ x, asV q.W q.H sh true = x := ⟨_, rfl⟩
                    have hxr : (rdSh ss (j : Int) q.W q.H true = true ∧ 0 ≤ x ∧ x ≤ 1000000) ∨ (rdSh ss (j : Int) q.W q.H true = false ∧ x = -1) := by
                      rw [hrd, ← asB_rdAs]
                      unfold asV at hx
                      cases hb : asB q.W q.H sh true
                      · rw [hb] at hx; right; exact ⟨rfl, hx.symm⟩
                      · rw [hb] at hx; left; refine ⟨rfl, ?_⟩; rw [if_pos rfl] at hx; omega
                    have HX := Lib.hid hx
                    clear hrd hr hsh hx hvs
                    rcases hxr with ⟨hrt, hx0, hx1⟩ | ⟨hrt, rfl⟩
                    · have he := lay_some Hlay.out (show stepR k ss q 2 j = some ([], [⟨q.X, q.Y, q.W, q.H, j⟩]) from by simp [stepR, hrt])
                      rw [List.nil_append] at he
                      have HE := Lib.hid he
                      have hxd : decide (x < 0) = false := by simp; omega
                      clear he hrt
                      go_upto_region 17 with fail
                      go_cut [80] (fun s80 wz => s80 = .bool false ∧ Below wy.heap.size wy wz)
                      case first =>
                        as_aux_lemma =>
                          have k15 : b15 < wy.heap.size := by omega
                          have k16 : b16 < wy.heap.size := by omega
                          go_region_held3 (fun w' => w'.cell? ⟨b15, 2, none⟩ = some (.int .i64 q.W) ∧ w'.cell? ⟨b15, 3, none⟩ = some (.int .i64 q.H) ∧ w'.cell? ⟨b16, 0, none⟩ = some (.int .i64 2) ∧ w'.cell? ⟨b16, 1, none⟩ = some (.int .i64 (j : Int)) ∧ w'.cell? ⟨bs, os + j * 4, none⟩ = some (.int .i64 sh.W) ∧ w'.cell? ⟨bs, os + j * 4 + 1, none⟩ = some (.int .i64 sh.H) ∧ w'.cell? ⟨bs, os + j * 4 + 2, none⟩ = some (.int .i64 sh.V) ∧ w'.cell? ⟨bs, os + j * 4 + 3, none⟩ = some (.bool sh.T)) (first | go_keep | exact ⟨(hbs1.cell (p := ⟨b15, 2, none⟩) k15).trans v2, (hbs1.cell (p := ⟨b15, 3, none⟩) k15).trans v3, (hbs1.cell (p := ⟨b16, 0, none⟩) k16).trans u0, (hbs1.cell (p := ⟨b16, 1, none⟩) k16).trans u1, (hbs1.cell (p := ⟨bs, os + j * 4, none⟩) hbs).trans r0, (hbs1.cell (p := ⟨bs, os + j * 4 + 1, none⟩) hbs).trans r1, (hbs1.cell (p := ⟨bs, os + j * 4 + 2, none⟩) hbs).trans r2, (hbs1.cell (p := ⟨bs, os + j * 4 + 3, none⟩) hbs).trans r3⟩)
                            (first
                            | (go_at_call 40; refine (in_any _ _ _ _).mono ?_; rintro e w' ⟨rfl, rfl⟩)
                            | (go_at_call 49; refine (as_any q.W q.H sh true _).mono ?_; rw [HX.out]; rintro e w1 ⟨rfl, hb1⟩; have hbs1 : Below wy.heap.size wy w1 := ⟨hb1.os, hb1.tape, hb1.output, hb1.size, fun j hj => hb1.block j hj⟩))
                          go_wp2_with fail
                          go_meet
                          exact ⟨rfl, hbs1⟩
                      case rest =>
                        obtain ⟨e4, hbz⟩ := hcut
                        subst e4
                        obtain ⟨wz, rfl⟩ : ∃ wz : World, wz = wc := ⟨_, rfl⟩
                        clear v0 v1 v2 v3 v4 u0 u1 u2 r0 r1 r2 r3
                        have hz3 := hbz.size
                        have p3 := ownsRow_below p1 hbz
                        have p4 := ownsRow_below p2 hbz
                        have pz := pb.trans (hbz.mono hz2)
                        obtain ⟨v0, v1, v2, v3, v4⟩ := cells4 (below_cells pz h15 hb15)
                        obtain ⟨u0, u1, u2⟩ := cells2 (below_cells pz h16 hb16)
                        clear hbz pb
                        go_wp2_with (at_builtin; refine wpList_app rfl (.tmp 81) (.tmp 93) _ rfl elemPc w.heap.size _ _ _ rfl (p4.alloc _) _ _ _ _ rfl (Sl.new _ _ _ 5 1 rfl) (one5 _ _ _ _ _) (by unfold maxLen; omega) (by omega) (by simp; omega) ?_; intro A5 c5 w5 ho5 hg5 _; obtain ⟨p5, hbel5⟩ := pushP p3 p4 pz hbel _ hg5; clear v0 v1 v2 v3 v4 u0 u1 u2 hg5)
                        go_roundg (gk - 1)
                        case measure => omega
                        case rel =>
                          exact ⟨i + 1, stk, (pcs ++ [⟨q.X, q.Y, q.W, q.H, j⟩]), _, n1, _, _, (n2 + 1), _, by omega, rfl, rfl, by go_num, LI.next (B' := w.heap.size) p5 (Nat.le_refl _) (by simpa [pcE] using ho5) hbel5 Hl1.out (by simp [Hl2.out]) (by omega) (by omega) Hokq.out (Lib.hid HE.out)⟩
                    · have hst : stepR k ss q 2 j = none := by simp [stepR, hrt]
                      have Hst := Lib.hid hst
                      clear hst hrt
                      go_upto_region 17 with fail
                      go_cut [80] (fun s80 wz => s80 = .bool true ∧ Below wy.heap.size wy wz)
                      case first =>
                        as_aux_lemma =>
                          have k15 : b15 < wy.heap.size := by omega
                          have k16 : b16 < wy.heap.size := by omega
                          go_region_held3 (fun w' => w'.cell? ⟨b15, 2, none⟩ = some (.int .i64 q.W) ∧ w'.cell? ⟨b15, 3, none⟩ = some (.int .i64 q.H) ∧ w'.cell? ⟨b16, 0, none⟩ = some (.int .i64 2) ∧ w'.cell? ⟨b16, 1, none⟩ = some (.int .i64 (j : Int)) ∧ w'.cell? ⟨bs, os + j * 4, none⟩ = some (.int .i64 sh.W) ∧ w'.cell? ⟨bs, os + j * 4 + 1, none⟩ = some (.int .i64 sh.H) ∧ w'.cell? ⟨bs, os + j * 4 + 2, none⟩ = some (.int .i64 sh.V) ∧ w'.cell? ⟨bs, os + j * 4 + 3, none⟩ = some (.bool sh.T)) (first | go_keep | exact ⟨(hbs1.cell (p := ⟨b15, 2, none⟩) k15).trans v2, (hbs1.cell (p := ⟨b15, 3, none⟩) k15).trans v3, (hbs1.cell (p := ⟨b16, 0, none⟩) k16).trans u0, (hbs1.cell (p := ⟨b16, 1, none⟩) k16).trans u1, (hbs1.cell (p := ⟨bs, os + j * 4, none⟩) hbs).trans r0, (hbs1.cell (p := ⟨bs, os + j * 4 + 1, none⟩) hbs).trans r1, (hbs1.cell (p := ⟨bs, os + j * 4 + 2, none⟩) hbs).trans r2, (hbs1.cell (p := ⟨bs, os + j * 4 + 3, none⟩) hbs).trans r3⟩)
                            (first
                            | (go_at_call 40; refine (in_any _ _ _ _).mono ?_; rintro e w' ⟨rfl, rfl⟩)
                            | (go_at_call 49; refine (as_any q.W q.H sh true _).mono ?_; rw [HX.out]; rintro e w1 ⟨rfl, hb1⟩; have hbs1 : Below wy.heap.size wy w1 := ⟨hb1.os, hb1.tape, hb1.output, hb1.size, fun j hj => hb1.block j hj⟩))
                          go_wp2_with fail
                          go_meet
                          exact ⟨rfl, hbs1⟩
                      case rest =>
                        obtain ⟨e4, hbz⟩ := hcut
                        subst e4
                        have hbz2 := hbel2.trans (hbz.mono (by omega))
                        clear v0 v1 v2 v3 v4 u0 u1 u2 r0 r1 r2 r3 hbz
                        go_wp2
                        exact Hno.out _ _ _ _ (lay_none Hlay.out Hst.out) hbz2
                  · have hin : inB ca 0 ((m : Int) - 1) = false := by unfold inB; simp; omega
                    have hst : stepR k ss q 2 ca = none := by
                      have : rdSh ss ca q.W q.H true = false := rdSh_out (by rw [← Hmn.out]; exact hr)
                      simp [stepR, this]
                    have Hst := Lib.hid hst
                    clear hst hr
                    go_upto_region 17 with fail
                    go_quiet ((go_at_call 40; exact in_left _ _ _ _ _))
                    go_wp2
                    exact Hno.out _ _ _ _ (lay_none Hlay.out Hst.out) (below_drewN hbel2 _)
                · have d2 : (ck == 2) = false := by simp [c2]
                  by_cases c3 : ck = 3
                  · subst c3
                    as_aux_lemma =>
                      by_cases hr : 1 ≤ ca ∧ ca < q.W
                      · have hin : inB ca 1 (q.W - 1) = true := by unfold inB; simp; omega
                        obtain ⟨hr1, hr2⟩ := hr
                        by_cases hrest : 1 ≤ q.W - ca - k
                        · have he := lay_some Hlay.out (show stepR k ss q 3 ca = some ([⟨q.X, q.Y, ca, q.H⟩, ⟨q.X + ca + k, q.Y, q.W - ca - k, q.H⟩], []) from by simp [stepR, hr1, hr2, hrest])
                          rw [List.append_nil] at he
                          have HE := Lib.hid he
                          clear he
                          go_wp2_with (first
                            | (go_at_call 40; refine (in_any _ _ _ _).mono ?_; rintro e w' ⟨rfl, rfl⟩)
                            | (at_builtin; refine wpList_app rfl (.tmp 112) (.tmp 132) _ rfl elemRs wx.heap.size _ _ _ rfl (p1.alloc _) _ _ _ _ rfl (Sl.new _ _ _ 4 1 rfl) (one4 _ _ _ _) (by unfold maxLen; omega) (by omega) (by simp; omega) ?_; intro A5 c5 w5 ho5 hg5 _; obtain ⟨p25, pb5, hbel5⟩ := push p1 p2 pb hbel _ hg5; clear v0 v1 v2 v3 v4 u0 u1 u2 hg5; obtain ⟨v0, v1, v2, v3, v4⟩ := cells4 (below_cells pb5 h15 hb15); obtain ⟨u0, u1, u2⟩ := cells2 (below_cells pb5 h16 hb16); have hz5 := pb5.size)
                            | (at_builtin; refine wpList_app rfl (.tmp 134) (.tmp 144) _ rfl elemRs wx.heap.size _ _ _ rfl (ho5.alloc _) _ _ _ _ rfl (Sl.new _ _ _ 4 1 rfl) (one4 _ _ _ _) (by unfold maxLen; omega) (by omega) (by simp; omega) ?_; intro A6 c6 w6 ho6 hg6 _; obtain ⟨p26, pb6, hbel6⟩ := push ho5 p25 pb5 hbel _ hg6; clear v0 v1 v2 v3 v4 u0 u1 u2 hg6))
                          go_roundg (gk - 1)
                          case measure => omega
                          case rel =>
                            exact ⟨i + 1, (⟨q.X, q.Y, ca, q.H⟩ :: ⟨q.X + ca + k, q.Y, q.W - ca - k, q.H⟩ :: stk), pcs, _, (n1 + 1 + 1), _, _, n2, _, by omega, rfl, rfl, by go_num, LI.next (B' := wx.heap.size) (by simpa [rsE] using ho6) hz1 p26 hbel6 (by simp [Hl1.out]) Hl2.out (by omega) (by omega) (List.forall_mem_cons.2 ⟨⟨by dsimp only; omega, by dsimp only; omega, by dsimp only; omega, by dsimp only; omega, by dsimp only; omega, by dsimp only; omega⟩, List.forall_mem_cons.2 ⟨⟨by dsimp only; omega, by dsimp only; omega, by dsimp only; omega, by dsimp only; omega, by dsimp only; omega, by dsimp only; omega⟩, Hokq.out⟩⟩) (Lib.hid HE.out)⟩
                        · have he := lay_some Hlay.out (show stepR k ss q 3 ca = some ([⟨q.X, q.Y, ca, q.H⟩], []) from by simp [stepR, hr1, hr2, hrest])
                          rw [List.append_nil] at he
                          have HE := Lib.hid he
                          clear he
                          have hrest' : q.W - ca - k < 1 := by omega
                          clear hrest
                          go_wp2_with (first
                            | (go_at_call 40; refine (in_any _ _ _ _).mono ?_; rintro e w' ⟨rfl, rfl⟩)
                            | (at_builtin; refine wpList_app rfl (.tmp 134) (.tmp 144) _ rfl elemRs wx.heap.size _ _ _ rfl (p1.alloc _) _ _ _ _ rfl (Sl.new _ _ _ 4 1 rfl) (one4 _ _ _ _) (by unfold maxLen; omega) (by omega) (by simp; omega) ?_; intro A6 c6 w6 ho6 hg6 _; obtain ⟨p26, pb6, hbel6⟩ := push p1 p2 pb hbel _ hg6; clear v0 v1 v2 v3 v4 u0 u1 u2 hg6))
                          go_roundg (gk - 1)
                          case measure => omega
                          case rel =>
                            exact ⟨i + 1, (⟨q.X, q.Y, ca, q.H⟩ :: stk), pcs, _, (n1 + 1), _, _, n2, _, by omega, rfl, rfl, by go_num, LI.next (B' := wx.heap.size) (by simpa [rsE] using ho6) hz1 p26 hbel6 (by simp [Hl1.out]) Hl2.out (by omega) (by omega) (List.forall_mem_cons.2 ⟨⟨by dsimp only; omega, by dsimp only; omega, by dsimp only; omega, by dsimp only; omega, by dsimp only; omega, by dsimp only; omega⟩, Hokq.out⟩) (Lib.hid HE.out)⟩
                      · have hin : inB ca 1 (q.W - 1) = false := by unfold inB; simp; omega
                        have hst : stepR k ss q 3 ca = none := by simp [stepR, hr]
                        have Hst := Lib.hid hst
                        clear hst hr
                        go_wp2_with (go_at_call 40; refine (in_any _ _ _ _).mono ?_; rintro e w' ⟨rfl, rfl⟩)
                        exact Hno.out _ _ _ _ (lay_none Hlay.out Hst.out) hbel2
                  · have d3 : (ck == 3) = false := by simp [c3]
                    by_cases c4 : ck = 4
                    · subst c4
                      as_aux_lemma =>
                        by_cases hr : 1 ≤ ca ∧ ca < q.H
                        · have hin : inB ca 1 (q.H - 1) = true := by unfold inB; simp; omega
                          obtain ⟨hr1, hr2⟩ := hr
                          by_cases hrest : 1 ≤ q.H - ca - k
                          · have he := lay_some Hlay.out (show stepR k ss q 4 ca = some ([⟨q.X, q.Y, q.W, ca⟩, ⟨q.X, q.Y + ca + k, q.W, q.H - ca - k⟩], []) from by simp [stepR, hr1, hr2, hrest])
                            rw [List.append_nil] at he
                            have HE := Lib.hid he
                            clear he
                            go_wp2_with (first
                              | (go_at_call 40; refine (in_any _ _ _ _).mono ?_; rintro e w' ⟨rfl, rfl⟩)
                              | (at_builtin; refine wpList_app rfl (.tmp 163) (.tmp 183) _ rfl elemRs wx.heap.size _ _ _ rfl (p1.alloc _) _ _ _ _ rfl (Sl.new _ _ _ 4 1 rfl) (one4 _ _ _ _) (by unfold maxLen; omega) (by omega) (by simp; omega) ?_; intro A5 c5 w5 ho5 hg5 _; obtain ⟨p25, pb5, hbel5⟩ := push p1 p2 pb hbel _ hg5; clear v0 v1 v2 v3 v4 u0 u1 u2 hg5; obtain ⟨v0, v1, v2, v3, v4⟩ := cells4 (below_cells pb5 h15 hb15); obtain ⟨u0, u1, u2⟩ := cells2 (below_cells pb5 h16 hb16); have hz5 := pb5.size)
                              | (at_builtin; refine wpList_app rfl (.tmp 185) (.tmp 195) _ rfl elemRs wx.heap.size _ _ _ rfl (ho5.alloc _) _ _ _ _ rfl (Sl.new _ _ _ 4 1 rfl) (one4 _ _ _ _) (by unfold maxLen; omega) (by omega) (by simp; omega) ?_; intro A6 c6 w6 ho6 hg6 _; obtain ⟨p26, pb6, hbel6⟩ := push ho5 p25 pb5 hbel _ hg6; clear v0 v1 v2 v3 v4 u0 u1 u2 hg6))
                            go_roundg (gk - 1)
                            case measure => omega
                            case rel =>
                              exact ⟨i + 1, (⟨q.X, q.Y, q.W, ca⟩ :: ⟨q.X, q.Y + ca + k, q.W, q.H - ca - k⟩ :: stk), pcs, _, (n1 + 1 + 1), _, _, n2, _, by omega, rfl, rfl, by go_num, LI.next (B' := wx.heap.size) (by simpa [rsE] using ho6) hz1 p26 hbel6 (by simp [Hl1.out]) Hl2.out (by omega) (by omega) (List.forall_mem_cons.2 ⟨⟨by dsimp only; omega, by dsimp only; omega, by dsimp only; omega, by dsimp only; omega, by dsimp only; omega, by dsimp only; omega⟩, List.forall_mem_cons.2 ⟨⟨by dsimp only; omega, by dsimp only; omega, by dsimp only; omega, by dsimp only; omega, by dsimp only; omega, by dsimp only; omega⟩, Hokq.out⟩⟩) (Lib.hid HE.out)⟩
                          · have he := lay_some Hlay.out (show stepR k ss q 4 ca = some ([⟨q.X, q.Y, q.W, ca⟩], []) from by simp [stepR, hr1, hr2, hrest])
                            rw [List.append_nil] at he
                            have HE := Lib.hid he
                            clear he
                            have hrest' : q.H - ca - k < 1 := by omega
                            clear hrest
                            go_wp2_with (first
                              | (go_at_call 40; refine (in_any _ _ _ _).mono ?_; rintro e w' ⟨rfl, rfl⟩)
                              | (at_builtin; refine wpList_app rfl (.tmp 185) (.tmp 195) _ rfl elemRs wx.heap.size _ _ _ rfl (p1.alloc _) _ _ _ _ rfl (Sl.new _ _ _ 4 1 rfl) (one4 _ _ _ _) (by unfold maxLen; omega) (by omega) (by simp; omega) ?_; intro A6 c6 w6 ho6 hg6 _; obtain ⟨p26, pb6, hbel6⟩ := push p1 p2 pb hbel _ hg6; clear v0 v1 v2 v3 v4 u0 u1 u2 hg6))
                            go_roundg (gk - 1)
                            case measure => omega
                            case rel =>
                              exact ⟨i + 1, (⟨q.X, q.Y, q.W, ca⟩ :: stk), pcs, _, (n1 + 1), _, _, n2, _, by omega, rfl, rfl, by go_num, LI.next (B' := wx.heap.size) (by simpa [rsE] using ho6) hz1 p26 hbel6 (by simp [Hl1.out]) Hl2.out (by omega) (by omega) (List.forall_mem_cons.2 ⟨⟨by dsimp only; omega, by dsimp only; omega, by dsimp only; omega, by dsimp only; omega, by dsimp only; omega, by dsimp only; omega⟩, Hokq.out⟩) (Lib.hid HE.out)⟩
                        · have hin : inB ca 1 (q.H - 1) = false := by unfold inB; simp; omega
                          have hst : stepR k ss q 4 ca = none := by simp [stepR, hr]
                          have Hst := Lib.hid hst
                          clear hst hr
                          go_wp2_with (go_at_call 40; refine (in_any _ _ _ _).mono ?_; rintro e w' ⟨rfl, rfl⟩)
                          exact Hno.out _ _ _ _ (lay_none Hlay.out Hst.out) hbel2
                    · have d4 : (ck == 4) = false := by simp [c4]
                      have hst : stepR k ss q ck ca = none := by simp [stepR, c0, c1, c2, c3, c4]
                      have Hst := Lib.hid hst
                      clear hst c0 c1 c2 c3 c4
                      go_wp2
                      exact Hno.out _ _ _ _ (lay_none Hlay.out Hst.out) hbel2
    · obtain rfl : i = n := by omega
      have he := hI.eq.out
      rw [List.drop_of_length_le (by rw [← Hln.out]; exact Nat.le_refl _)] at he
      have hbel := hI.bel
      have ho2 := hI.o2
      have hl2 := hI.l2
      cases stk with
      | nil =>
        obtain rfl : n1 = 0 := hI.l1
        have hs : L0 = some pcs := by rw [he]; simp [lay]
        have Hfin := Lib.hid (hR.out (.returned (.tuple #[.slice A2 n2 c2, .bool true])) wr ⟨hbel, A2, n2, c2, .inr ⟨pcs, hs, rfl, hl2, ho2⟩⟩)
        clear hI he hs hl2
        go_wp2
        exact Hfin.out
      | cons q stk =>
        obtain ⟨n1, rfl⟩ : ∃ k, n1 = k + 1 := ⟨stk.length, hI.l1⟩
        have hs : L0 = none := by rw [he]; simp [lay]
        have Hfin := Lib.hid (Hno.out A2 n2 c2 wr hs hbel)
        have hn0 : ((n1 : Int) + 1 == 0) = false := by simp; omega
        have hb1 := hI.b1
        clear hI he hs hl2
        go_wp2
        exact Hfin.out
end Go.Proofs.Ytfkpioibinpfhaa
