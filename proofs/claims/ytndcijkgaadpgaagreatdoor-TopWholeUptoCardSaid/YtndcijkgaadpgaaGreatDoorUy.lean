/-
  Words for the walk of (*saw).plan: its boxes, the row that grows, the plan of a way; no condition but those that each lemma states. The contract of (*saw).plan: the plan that the document names is appended; condition: the saw's table is filled, the rectangle lies in it. The contract of panel.Best: the plan that the document names, and its value, or ErrArg; no condition but that the shapes read.
-/
import Derived.Test.YtndcijkgaadpgaaGreatDoorPFill2
import Derived.Test.YtndcijkgaadpgaaGreatDoorUw
namespace Go.Proofs.YtndcijkgaadpgaaGreatDoor
section
open Go.RowKit Go.Shelf
attribute [local go_sem] Oper.semAt_some

theorem wpListIn_app {F : Fence} {n0 : Nat} {P : Program} (hF : ∀ f, F.fn f) {w : World} {ops : Array Oper} {rest : List Oper} {o : Oper} {a : Act} {Q : Exit → Act → World → Prop} (hgd : o.guard = none) (s x : Operand) (t : TypeId)
    (ho : o.op = .call { callee := .builtin .append, args := #[s, x], argTypes := #[t, t] })
    {e : TypeId} {sz bytes : Nat} (hE : ElemOk P t e sz bytes) (base : Nat)
    (v : Value) (n : Nat) (xs : List Value) (hs : a.eval s = v) (hown : w.ownsRow base e sz v n xs) (A : Option Addr) (m c : Nat) (news : List Value) (hx : a.eval x = .slice A m c) (hr : Sl w sz A m news) (h1 : ∀ u ∈ news, u.oneCell' = true)
    (h63 : n + m ≤ maxLen) (hbytes : (n + m) * bytes ≤ 140737488355328) (hbase : base ≤ w.heap.size)
    (h : ∀ A' c' w', w'.ownsRow base e sz (.slice A' (n + m) c') (n + m) (xs ++ news) → w.grownBy w' v.ownBlock → ((Value.slice A' (n + m) c').ownBlock = v.ownBlock ∨ (Value.slice A' (n + m) c').ownBlock = some w.heap.size) →
      wpListIn F n0 P ops Q rest (a.put o.dst (.slice A' (n + m) c')) w') : wpListIn F n0 P ops Q (o :: rest) a w := by
  refine wpListIn_plain hgd fun K hK => ?_
  obtain ⟨A', c', w', hrun, h2, h3, h4⟩ := run_app (P := P) w hE base o.type v n xs hown A m c news hr h1 h63 hbytes hbase
  refine ⟨fun f _ => hF f, ?_⟩
  rw [Oper.semAt_plain F _ _ (by rw [ho]; intro c hc'; cases hc')]
  unfold execOp
  simp only [ho, resolve, invoke, builtin, Sem.run_bind, Sem.run_pure, Result.andThen_ok, List.map_toArray, List.map_cons, List.map_nil, hs, hx, hrun]
  exact hK _ _ (h A' c' w' h2 h3 h4)

theorem gtrans {A B C : World} {row row' : Option Nat} (h : A.grownBy B row) (k : B.grownBy C row') (hr : ∀ b, row' = some b → row = some b ∨ A.heap.size ≤ b) : A.grownBy C row :=
  ⟨k.os.trans h.os, k.tape.trans h.tape, k.output.trans h.output, Nat.le_trans h.size k.size, fun j hj hne => (k.block j (Nat.lt_of_lt_of_le hj h.size) (fun e => by
    rcases hr j e.symm with h' | h'
    · exact hne h'.symm
    · omega)).trans (h.block j hj hne)⟩
theorem blk_not_row {W : World} {b base e sz n : Nat} {t : TypeId} {cs : Array Value} {v : Value} {xs : List Value} (hb : W.heap[b]? = some (.cells cs t (0, 0))) (h : W.ownsRow base e sz v n xs) (hne : t ≠ e) : some b ≠ v.ownBlock := by
  intro hh
  rcases h.2 with ⟨rfl, _⟩ | ⟨g, c, cur, rfl, _, hg, _⟩
  · simp [Value.ownBlock] at hh
  · have : b = g := by simpa [Value.ownBlock] using hh
    subst this
    rw [hg] at hb
    simp only [Option.some.injEq, Obj.cells.injEq] at hb
    exact hne hb.2.1.symm
theorem own_cells {W : World} {base e sz n : Nat} {v : Value} {xs : List Value} (h : W.ownsRow base e sz v n xs) : ∀ (j : Nat) (o : Obj), v.ownBlock = some j → W.heap[j]? = some o → o.isCells = true := by
  intro j o hj ho
  rcases h.2 with ⟨rfl, _⟩ | ⟨g, c, cur, rfl, _, hg, _⟩
  · simp [Value.ownBlock] at hj
  · have : g = j := by simpa [Value.ownBlock] using hj
    subst this
    rw [hg] at ho
    injection ho with ho
    subst ho
    rfl
theorem own_set {W : World} {b base e sz n : Nat} {t : TypeId} {u0 : Value} {v : Value} {xs : List Value} (h : W.ownsRow base e sz v n xs) (hb : Boxed W b t u0) (hne : t ≠ e) (u : Value) : (W.setCell ⟨b, 0, none⟩ u).ownsRow base e sz v n xs :=
  h.kept (row := some b) (grownBy_setCell' W b u) (.inr fun e' => blk_not_row hb h hne e'.symm)

/-- The boxes of a call of plan, the way that is looked at, and that nothing else has turned. -/
structure RS (w W : World) (p x y : Nat) (v0 : Value) (Bx : Nat) (z : Way) (vb : Value) : Prop where
  b0 : Boxed W w.heap.size 367 (.pointer (some ⟨p, 0, none⟩))
  b1 : Boxed W (w.heap.size + 1) 253 vb
  b2 : Boxed W (w.heap.size + 1 + 1) 3 (.int .i64 x)
  b3 : Boxed W (w.heap.size + 1 + 1 + 1) 3 (.int .i64 y)
  bx : W.heap[Bx]? = some (.cells #[.int .i64 z.1.1, .int .i64 z.1.2, .int .i64 z.2] 455 (0, 0))
  lx : w.heap.size + 1 + 1 + 1 < Bx
  g : w.grownBy W v0.ownBlock
theorem RS.step {w W W' : World} {p x y : Nat} {v0 : Value} {Bx : Nat} {z : Way} {vb v : Value} {base n : Nat} {xs : List Value} (h : RS w W p x y v0 Bx z vb) (hg : W.grownBy W' v.ownBlock) (ho : W.ownsRow base 453 2 v n xs)
    (hob : ∀ b, v.ownBlock = some b → v0.ownBlock = some b ∨ w.heap.size ≤ b) : RS w W' p x y v0 Bx z vb :=
  ⟨h.b0.kept hg (blk_not_row h.b0 ho (by decide)), h.b1.kept hg (blk_not_row h.b1 ho (by decide)), h.b2.kept hg (blk_not_row h.b2 ho (by decide)), h.b3.kept hg (blk_not_row h.b3 ho (by decide)),
   (hg.block Bx (Array.getElem?_eq_some_iff.1 h.bx).1 (blk_not_row h.bx ho (by decide))).trans h.bx, h.lx, gtrans h.g hg hob⟩
theorem RS.same {w W W' : World} {p x y : Nat} {v0 : Value} {Bx : Nat} {z : Way} {vb : Value} (h : RS w W p x y v0 Bx z vb) (hg : W.grownBy W' none) : RS w W' p x y v0 Bx z vb :=
  ⟨h.b0.kept hg (by simp), h.b1.kept hg (by simp), h.b2.kept hg (by simp), h.b3.kept hg (by simp), (hg.block Bx (Array.getElem?_eq_some_iff.1 h.bx).1 (by simp)).trans h.bx, h.lx, gtrans h.g hg (fun b e => by cases e)⟩
theorem RS.set {w W : World} {p x y : Nat} {v0 : Value} {Bx : Nat} {z : Way} {vb : Value} (h : RS w W p x y v0 Bx z vb) (u : Value) : RS w (W.setCell ⟨w.heap.size + 1, 0, none⟩ u) p x y v0 Bx z u :=
  ⟨h.b0.other (by omega) u, h.b1.set u, h.b2.other (by omega) u, h.b3.other (by omega) u, (Below.heap_setCell _ _ _ _ (by have := h.lx; dsimp only; omega)).trans h.bx, h.lx,
   gtrans h.g (grownBy_setCell' W _ u) (fun b e => by cases e; exact .inr (by omega))⟩
/-- The cells that the walk of a round asks for. -/
theorem RS.facts {w W : World} {p x y : Nat} {v0 : Value} {Bx : Nat} {z : Way} {vb : Value} (h : RS w W p x y v0 Bx z vb) :
    W.cell? ⟨w.heap.size, 0, none⟩ = some (.pointer (some ⟨p, 0, none⟩)) ∧ W.cell? ⟨w.heap.size + 1, 0, none⟩ = some vb ∧ W.frozen? ⟨w.heap.size + 1, 0, none⟩ = false ∧ W.cell? ⟨w.heap.size + 1 + 1, 0, none⟩ = some (.int .i64 x) ∧
    W.cell? ⟨w.heap.size + 1 + 1 + 1, 0, none⟩ = some (.int .i64 y) ∧ W.cell? ⟨Bx, 0, none⟩ = some (.int .i64 z.1.1) ∧ W.cell? ⟨Bx, 1, none⟩ = some (.int .i64 z.1.2) ∧ W.cell? ⟨Bx, 2, none⟩ = some (.int .i64 z.2) :=
  ⟨h.b0.cell, h.b1.cell, h.b1.frozen, h.b2.cell, h.b3.cell, by rw [cell_of_row _ _ 0 _ _ (0, 0) h.bx]; rfl, by rw [cell_of_row _ _ 1 _ _ (0, 0) h.bx]; rfl, by rw [cell_of_row _ _ 2 _ _ (0, 0) h.bx]; rfl⟩

/-- The boxes alone. -/
structure R4 (w W : World) (p x y : Nat) (v0 vb : Value) : Prop where
  b0 : Boxed W w.heap.size 367 (.pointer (some ⟨p, 0, none⟩))
  b1 : Boxed W (w.heap.size + 1) 253 vb
  b2 : Boxed W (w.heap.size + 1 + 1) 3 (.int .i64 x)
  b3 : Boxed W (w.heap.size + 1 + 1 + 1) 3 (.int .i64 y)
  g : w.grownBy W v0.ownBlock
theorem RS.r4 {w W : World} {p x y : Nat} {v0 : Value} {Bx : Nat} {z : Way} {vb : Value} (h : RS w W p x y v0 Bx z vb) : R4 w W p x y v0 vb := ⟨h.b0, h.b1, h.b2, h.b3, h.g⟩
theorem R4.rs {w W : World} {p x y : Nat} {v0 : Value} {Bx : Nat} {z : Way} {vb : Value} (h : R4 w W p x y v0 vb) (hbx : W.heap[Bx]? = some (.cells #[.int .i64 z.1.1, .int .i64 z.1.2, .int .i64 z.2] 455 (0, 0))) (hlx : w.heap.size + 1 + 1 + 1 < Bx) : RS w W p x y v0 Bx z vb :=
  ⟨h.b0, h.b1, h.b2, h.b3, hbx, hlx, h.g⟩
theorem R4.own {w W W' : World} {p x y : Nat} {v0 vb : Value} {row : Option Nat} (h : R4 w W p x y v0 vb) (hg : W.grownBy W' row) (hr : ∀ r, row = some r → w.heap.size ≤ r ∧ ∃ o : Obj, W.heap[r]? = some o ∧ o.isCells = false) : R4 w W' p x y v0 vb :=
  have key : ∀ b t u, Boxed W b t u → Boxed W' b t u := fun b t u hb => hb.kept hg (fun e => by
    obtain ⟨_, o, ho, hc⟩ := hr b e.symm
    rw [show W.heap[b]? = _ from hb] at ho
    injection ho with ho
    subst ho
    cases hc)
  ⟨key _ _ _ h.b0, key _ _ _ h.b1, key _ _ _ h.b2, key _ _ _ h.b3, gtrans h.g hg (fun b e => .inr (hr b e).1)⟩
theorem ownsRow_own {W W' : World} {base e sz n : Nat} {v : Value} {xs : List Value} {row : Option Nat} (h : W.ownsRow base e sz v n xs) (hg : W.grownBy W' row) (hr : ∀ r, row = some r → ∃ o : Obj, W.heap[r]? = some o ∧ o.isCells = false) : W'.ownsRow base e sz v n xs := by
  refine h.kept hg ?_
  cases hv : v.ownBlock with
  | none => exact .inl rfl
  | some b =>
    refine .inr fun e' => ?_
    obtain ⟨o, ho, hc⟩ := hr b e'.symm
    rcases h.2 with ⟨rfl, _⟩ | ⟨g, c, cur, rfl, _, hgg, _⟩
    · simp [Value.ownBlock] at hv
    · have : g = b := by simpa [Value.ownBlock] using hv
      subst this
      rw [hgg] at ho
      injection ho with ho
      subst ho
      cases hc
theorem alloc3 (W : World) (o1 o2 o3 : Obj) : (((W.alloc o1).alloc o2).alloc o3).heap[W.heap.size]? = some o1 ∧ (((W.alloc o1).alloc o2).alloc o3).heap[W.heap.size + 1]? = some o2 ∧
    (((W.alloc o1).alloc o2).alloc o3).heap[W.heap.size + 1 + 1]? = some o3 ∧ (((W.alloc o1).alloc o2).alloc o3).heap.size = W.heap.size + 3 ∧ Below W.heap.size W (((W.alloc o1).alloc o2).alloc o3) := by
  refine ⟨?_, ?_, ?_, by simp, (((Below.refl _ _).alloc (Nat.le_refl _) _).alloc (by simp) _).alloc (by simp <;> omega) _⟩
  · rw [Below.heap_alloc _ _ _ (by simp <;> omega), Below.heap_alloc _ _ _ (by simp), heap_alloc_new]
  · rw [Below.heap_alloc _ _ _ (by simp)]
    have h := heap_alloc_new (W.alloc o1) o2
    rwa [World.size_alloc] at h
  · have h := heap_alloc_new ((W.alloc o1).alloc o2) o3
    rwa [World.size_alloc, World.size_alloc] at h
theorem grown_of_below {A B : World} (h : Below A.heap.size A B) : A.grownBy B none := ⟨h.os, h.tape, h.output, h.size, fun j hj _ => h.block j hj⟩
/-- The plan that begins with a way. -/
def planZ (k : Int) (ss : List Shp) (w h : Int) (z : Way) : List (Int × Int) :=
  z.1 :: (if z.1.1 = 3 then planL k ss z.1.2 h ++ planL k ss (w - z.1.2 - k) h else if z.1.1 = 4 then planL k ss w z.1.2 ++ planL k ss w (h - z.1.2 - k) else [])
theorem planZ_eq (k : Int) (ss : List Shp) (hk : 0 ≤ k) (w h : Int) (hw : 1 ≤ w) (hh : 1 ≤ h) (pre : List Way) (z : Way) (hp : pre ++ [z] <+: ways (val k ss) k ss w h) (hn : ∀ y ∈ pre, y.2 ≠ val k ss w h) (hz : z.2 = val k ss w h) : planL k ss w h = planZ k ss w h z := by
  obtain ⟨rest, hr⟩ := hp
  have hpick : pick k ss w h = some z := by
    rw [pick, ← hr, List.append_assoc, List.find?_append, List.find?_eq_none.2 (by intro y hy; simp [hn y hy])]
    simp [hz]
  obtain ⟨⟨c, a⟩, v⟩ := z
  exact planL_eq k ss hk w h hw hh hpick
theorem bnd1 {a x y : Nat} (h : a < x) (hy : 1 ≤ y) : 1 + 2 * (a * y) ≤ 2 * (x * y) := by
  have h1 : (a + 1) * y ≤ x * y := Nat.mul_le_mul_right y h
  rw [Nat.add_mul] at h1
  omega
theorem bnd2 {a r x y la : Nat} (h : la + 1 ≤ 2 * (a * y)) (hr : a + r ≤ x) : 1 + la + 2 * (r * y) ≤ 2 * (x * y) := by
  have h1 : (a + r) * y ≤ x * y := Nat.mul_le_mul_right y hr
  rw [Nat.add_mul] at h1
  omega
theorem planL_nat (k : Int) (ss : List Shp) (hk : 0 ≤ k) (x y : Nat) (hx : 1 ≤ x) (hy : 1 ≤ y) : (planL k ss x y).length + 1 ≤ 2 * (x * y) := by
  have h := planL_len k ss hk _ (x : Int) (y : Int) (Nat.le_refl _) (by omega) (by omega)
  have e : ((x * y : Nat) : Int) = (x : Int) * y := Int.natCast_mul x y
  omega
/-- Between two rounds of plan: nothing has been found yet. -/
def PI (w : World) (p x y : Nat) (v0 : Value) (base n0 : Nat) (xs : List Value) (vv : Int) (pre : List Way) (Wz : World) : Prop :=
  R4 w Wz p x y v0 v0 ∧ Wz.ownsRow base 453 2 v0 n0 xs ∧ ∀ z ∈ pre, z.2 ≠ vv
/-- A round of plan has found a way, and has cut by it. -/
def PX (w : World) (p x y : Nat) (v0 : Value) (base n0 : Nat) (xs : List Value) (vv : Int) (k : Int) (ss : List Shp) (c : Code) (pre : List Way) (Wz : World) : Prop :=
  c = .exit 0 ∧ ∃ (pre' : List Way) (z : Way) (A : Option Addr) (n1 c1 : Nat) (xs1 : List Value), pre = pre' ++ [z] ∧ (∀ z' ∈ pre', z'.2 ≠ vv) ∧ z.2 = vv ∧ R4 w Wz p x y v0 (.slice A n1 c1) ∧ Wz.ownsRow base 453 2 (.slice A n1 c1) n1 xs1 ∧
        n1 = n0 + (planZ k ss x y z).length ∧ xs1 = xs ++ (planZ k ss x y z).flatMap cutE ∧ ∀ b, (Value.slice A n1 c1).ownBlock = some b → v0.ownBlock = some b ∨ w.heap.size ≤ b
/-- What a call of plan leaves: the row of cuts has grown by the plan, and nothing else has turned. -/
structure PlanPost (base : Nat) (w w' : World) (v : Value) (n : Nat) (xs : List Value) (l : List (Int × Int)) (v' : Value) : Prop where
  own : w'.ownsRow base 453 2 v' (n + l.length) (xs ++ l.flatMap cutE)
  g : w.grownBy w' v.ownBlock
  ob : ∀ b, v'.ownBlock = some b → v.ownBlock = some b ∨ w.heap.size ≤ b
theorem RS.call {w W W3 : World} {p x y : Nat} {v0 : Value} {Bx : Nat} {z : Way} {v v3 : Value} {base n : Nat} {xs : List Value} {l : List (Int × Int)} (h : RS w W p x y v0 Bx z v) (ho : W.ownsRow base 453 2 v n xs)
    (hob : ∀ b, v.ownBlock = some b → v0.ownBlock = some b ∨ w.heap.size ≤ b) (hp : PlanPost base W W3 v n xs l v3) : RS w W3 p x y v0 Bx z v ∧ (∀ b, v3.ownBlock = some b → v0.ownBlock = some b ∨ w.heap.size ≤ b) ∧ KeepsOthers W W3 := by
  refine ⟨h.step hp.g ho hob, fun b hb => ?_, KeepsOthers.of_grownBy hp.g (own_cells ho)⟩
  rcases hp.ob b hb with h' | h'
  · exact hob b h'
  · have := h.g.size
    exact .inr (by omega)
end
section
open Go.RowKit Go.Shelf
attribute [local go_sem] Oper.semAt_some

set_option maxRecDepth 100000 in
set_option maxHeartbeats 8000000 in
theorem plan_any (W H : Nat) (hW : W ≤ 64) (hH : H ≤ 64) (k : Int) (ss : List Shp) (hk0 : 0 ≤ k) (hk8 : k ≤ 8) (hss : ss.length ≤ 16) (hok : ∀ s ∈ ss, 1 ≤ s.W ∧ 1 ≤ s.H ∧ 0 ≤ s.V ∧ s.V ≤ 1000000)
    (B : Option Addr) (m d p base : Nat) (C : Array Value) (hsaw : SawC C k B m d ss H (W + 1) 1) (hpb : p < base) (hsb : 0 < m → ∀ a, B = some a → a.block < base) :
    ∀ (f x y : Nat) (A0 : Option Addr) (n0 c0 : Nat) (xs : List Value) (w : World), x + y ≤ f → 1 ≤ x → x ≤ W → 1 ≤ y → y ≤ H → w.heap[p]? = some (.cells C 374 (0, 0)) → SlE Shp.enc 4 w B m ss → base ≤ w.heap.size →
    w.ownsRow base 453 2 (.slice A0 n0 c0) n0 xs → n0 + 2 * (x * y) ≤ 100000 →
    Calls Tryz.prog 242 #[.pointer (some ⟨p, 0, none⟩), .slice A0 n0 c0, .int .i64 x, .int .i64 y] w fun e w' => ∃ v', e = .returned v' ∧ PlanPost base w w' (.slice A0 n0 c0) n0 xs (planL k ss x y) v' := by
  intro f
  induction f with
  | zero => intro x y A0 n0 c0 xs w hf hx1 hxW hy1 hyH; omega
  | succ f ih =>
    intro x y A0 n0 c0 xs w hf hx1 hxW hy1 hyH hblk hS hbase hown hn0
    obtain ⟨n, hn⟩ : ∃ n : Nat, 3 ≤ n := ⟨3, Nat.le_refl _⟩
    have h1n : 1 ≤ n := by omega
    refine (callsIn_wide (n := n)).1 ?_
    refine callsIn_cps ?_
    intro R hR
    have IH := Lib.hid ih
    clear ih
    obtain ⟨vv, hvv⟩ : ∃ vv, val k ss x y = vv := ⟨_, rfl⟩
    have Hvv := Lib.hid hvv
    clear hvv
    have hcv : ∀ Wz : World, Wz.heap[p]? = some (.cells C 374 (0, 0)) → Wz.cell? ⟨p, 0, none⟩ = some (.int .i64 k) ∧ Wz.cell? ⟨p, 2 + x * 65 + y, none⟩ = some (.int .i64 vv) := fun Wz h =>
      ⟨by rw [cell_of_row _ _ 0 _ _ (0, 0) h]; exact hsaw.c0, by rw [cell_of_row _ _ _ _ _ (0, 0) h, hsaw.cv x y (by omega) (by omega) (by omega), Hvv.out]⟩
    have HCV := Lib.hid hcv
    have hgp : ∀ Wz, w.grownBy Wz (Value.slice A0 n0 c0).ownBlock → Wz.heap[p]? = some (.cells C 374 (0, 0)) ∧ SlE Shp.enc 4 Wz B m ss ∧ base ≤ Wz.heap.size := fun Wz hg => by
      have hlt := hown.lt
      refine ⟨(hg.block p (by omega) (fun e => by have := hlt p e.symm; omega)).trans hblk, hS.grown hg (fun hm a ha e => ?_), Nat.le_trans hbase hg.size⟩
      have h1 := hlt _ e.symm
      have h2 := hsb (by omega) a ha
      omega
    have HGP := Lib.hid hgp
    clear hcv hgp
    refine callsIn_of_wp_marks Tryz.func242 rfl trivial ?_ rfl
    simp only [Tryz.ntmps242, List.size_toArray, List.length_cons, List.length_nil, Nat.reduceAdd, Nat.reduceSub, Array.replicate_succ, Array.replicate_zero, List.push_toArray, List.append_toArray, List.nil_append, List.cons_append]
    gi_wp2_with fail
    refine ⟨trivial, ?_⟩
    refine (callsIn_wide.2 (ways_any _ _ _ _)).mono ?_
    rintro e w' ⟨rfl, rfl⟩
    obtain ⟨a0, a1, a2, a3, a4, a5, a6⟩ := alloc4 w (.cells #[.pointer (some ⟨p, 0, none⟩)] 367) (.cells #[.slice A0 n0 c0] 253) (.cells #[.int .i64 x] 3) (.cells #[.int .i64 y] 3)
    obtain ⟨wA, hwA⟩ : ∃ wA, (((w.alloc (.cells #[.pointer (some ⟨p, 0, none⟩)] 367)).alloc (.cells #[.slice A0 n0 c0] 253)).alloc (.cells #[.int .i64 (x : Int)] 3)).alloc (.cells #[.int .i64 (y : Int)] 3) = wA := ⟨_, rfl⟩
    rw [hwA] at a0 a1 a2 a3 a4 a5 a6
    rw [hwA]
    obtain ⟨d0, d1, d2, d3, d4⟩ := alloc3 wA (.cells #[.pointer (some ⟨p, 0, none⟩)] 367) (.cells #[.int .i64 (x : Int)] 3) (.cells #[.int .i64 (y : Int)] 3)
    obtain ⟨wy, hwy⟩ : ∃ wy, ((wA.alloc (.cells #[.pointer (some ⟨p, 0, none⟩)] 367)).alloc (.cells #[.int .i64 (x : Int)] 3)).alloc (.cells #[.int .i64 (y : Int)] 3) = wy := ⟨_, rfl⟩
    rw [hwy] at d0 d1 d2 d3 d4
    rw [hwy]
    have hgA : w.grownBy wy none := grown_of_below (a6.trans (d4.mono (by omega)))
    have hR4 : R4 w wy p x y (.slice A0 n0 c0) (.slice A0 n0 c0) := ⟨(d4.block _ (by omega)).trans a0, (d4.block _ (by omega)).trans a1, (d4.block _ (by omega)).trans a2, (d4.block _ (by omega)).trans a3,
      ⟨hgA.os, hgA.tape, hgA.output, hgA.size, fun j hj _ => hgA.block j hj (by simp)⟩⟩
    obtain ⟨hblk1, hS1, hbase1⟩ := HGP.out wy hR4.g
    have hown1 : wy.ownsRow base 453 2 (.slice A0 n0 c0) n0 xs := hown.kept hgA (by cases (Value.slice A0 n0 c0).ownBlock <;> simp)
    have hWM : WM wy p wA.heap.size x y k B m d ss :=
      ⟨by rw [cell_of_row _ _ 0 _ _ (0, 0) d0]; rfl, by rw [cell_of_row _ _ 0 _ _ (0, 0) d1]; rfl, by rw [cell_of_row _ _ 0 _ _ (0, 0) d2]; rfl,
       by rw [cell_of_row _ _ 0 _ _ (0, 0) hblk1]; exact hsaw.c0, by rw [cell_of_row _ _ 1 _ _ (0, 0) hblk1]; exact hsaw.c1,
       fun a ha => by rw [cell_of_row _ _ _ _ _ (0, 0) hblk1]; exact hsaw.cv a y (by omega) (by omega) (by omega),
       fun a ha => by rw [cell_of_row _ _ _ _ _ (0, 0) hblk1]; exact hsaw.cv x a (by omega) (by omega) (by omega), hS1⟩
    have hst := ways_stops (n - 1) none p wA.heap.size x y k B m d ss ⟨by simp, by simp, by simp, by simp, fun _ _ _ => by simp⟩ (by omega) hx1 (by omega) hy1 (by omega) hk0 hk8 hss hok wy (fun b hb => by cases hb) hWM
    obtain ⟨ws, hws⟩ : ∃ ws, ways (val k ss) k ss x y = ws := ⟨_, rfl⟩
    rw [hws] at hst
    have Hws := Lib.hid hws
    clear hws
    have l4 : w.heap.size + 4 ≤ wA.heap.size := by omega
    have l5 : wA.heap.size + 3 ≤ wy.heap.size := by omega
    clear a0 a1 a2 a3 a4 a5 d0 d1 d2 d3 hwA hwy
    gi_wp2_with fail
    refine wpIn_rangeFunc_ownH (α := { z : Way // z ∈ ws }) rfl h1n (gf := 377) (lb := #[.pointer (some ⟨wA.heap.size, 0, none⟩), .pointer (some ⟨wA.heap.size + 1, 0, none⟩), .pointer (some ⟨wA.heap.size + 1 + 1, 0, none⟩)]) rfl trivial
      (enters_of Tryz.func377 (by kernel_rfl) rfl) hst
      (fun h k => h.trans k) (fun W l o o' hl ho hc hw => KC.putObj W l o o' ho hc) (Below.refl _ _) (fun _ => rfl)
      (fun pre Wz => PI w p x y (.slice A0 n0 c0) base n0 xs vv (pre.map (·.1)) Wz)
      (fun c pre Wz => PX w p x y (.slice A0 n0 c0) base n0 xs vv k ss c (pre.map (·.1)) Wz) ?hI ?hIx ⟨hR4, hown1, by simp⟩
      (fun z a' Wz => ∃ Bx : Nat, w.heap.size + 1 + 1 + 1 < Bx ∧ Wz.heap[Bx]? = some (.cells #[.int .i64 z.1.1.1, .int .i64 z.1.1.2, .int .i64 z.1.2] 455 (0, 0)) ∧ a' = { tmps := #[.pointer (some ⟨p, 0, none⟩), .slice A0 n0 c0, .int .i64 x, .int .i64 y, .pointer (some ⟨w.heap.size, 0, none⟩), .pointer (some ⟨w.heap.size + 1, 0, none⟩), .pointer (some ⟨w.heap.size + 1 + 1, 0, none⟩), .pointer (some ⟨w.heap.size + 1 + 1 + 1, 0, none⟩), .slice none 0 0, .pointer (some ⟨Bx, 0, none⟩), undef, undef, undef, .pointer (some ⟨p, 0, none⟩), .int .i64 x, .int .i64 y, .func (.func 377) #[] #[.pointer (some ⟨wA.heap.size, 0, none⟩), .pointer (some ⟨wA.heap.size + 1, 0, none⟩), .pointer (some ⟨wA.heap.size + 1 + 1, 0, none⟩)], .agg #[.int .i64 z.1.1.1, .int .i64 z.1.1.2, .int .i64 z.1.2], undef, undef, undef, undef, undef, undef, undef, undef, undef, undef, undef, undef, undef, undef, undef, undef, undef, undef, undef, undef, undef, undef, undef, undef, undef, undef, undef, undef, undef, undef, undef, undef, undef, undef, undef, undef, undef, undef, undef, undef, undef, undef, undef, undef, undef, undef, undef, undef, undef, undef, undef, undef, undef, undef, undef, undef, undef, undef, undef, undef, undef, undef, undef, undef, undef, undef, undef], defers := [] }) ?hAx ?assign ?body ?done ?stop
    case hI =>
      rintro pre A1 A2 row ⟨h1, h2, h3⟩ hg hr
      exact ⟨h1.own hg (fun r e => ⟨by have := (hr r e).1; omega, (hr r e).2⟩), ownsRow_own h2 hg (fun r e => (hr r e).2), h3⟩
    case hIx =>
      rintro c pre A1 A2 row ⟨h0, pre', z, A, n1, c1, xs1, h1, h2, h3, h4, h5, h6⟩ hg hr
      exact ⟨h0, pre', z, A, n1, c1, xs1, h1, h2, h3, h4.own hg (fun r e => ⟨by have := (hr r e).1; omega, (hr r e).2⟩), ownsRow_own h5 hg (fun r e => (hr r e).2), h6⟩
    case hAx =>
      rintro z a' _ A1 A2 row ⟨Bx, h1, h2, h3⟩ hg hr
      refine ⟨Bx, h1, (hg.block Bx (Array.getElem?_eq_some_iff.1 h2).1 (fun e => ?_)).trans h2, h3⟩
      obtain ⟨_, o, ho, hc⟩ := hr _ e.symm
      rw [h2] at ho
      injection ho with ho
      subst ho
      cases hc
    case assign =>
      rintro l pre z Wr K ⟨h1, h2, h3⟩ hK
      unfold wayV
      gi_wp2_with fail
      refine hK _ _ ((KeepsOthers.alloc _ _).from _) (KC.alloc _ _) ⟨h1.own (World.grownBy_alloc Wr _ none) (fun r e => by cases e), h2.alloc _, h3⟩ ⟨Wr.heap.size, ?_, heap_alloc_new Wr _, rfl⟩
      have := h1.b3.lt
      omega
    case body =>
      rintro l pre z a' Wr hl hr ⟨h1, h2, h3⟩ ⟨Bx, hlx, hbx, rfl⟩ hlt
      obtain ⟨⟨⟨zc, za⟩, zv⟩, hzm⟩ := z
      dsimp only at hbx ⊢
      have hRS := h1.rs (z := ((zc, za), zv)) hbx hlx
      obtain ⟨q0, q1, q1f, q2, q3, r0, r1, r2⟩ := hRS.facts
      dsimp only at r0 r1 r2
      obtain ⟨hblk2, hS2, hbase2⟩ := HGP.out Wr h1.g
      obtain ⟨e0, e1⟩ := HCV.out Wr hblk2
      have i1 : (x : Int) < 65 := by omega
      have i2 : (y : Int) < 65 := by omega
      have i3 : x < 65 := by omega
      have i4 : y < 65 := by omega
      clear hr hbx
      by_cases hzv : zv = vv
      · subst hzv
        have hne : ((zv : Int) != zv) = false := by simp
        have hway := (mem_ways (val k ss) k ss x y (by omega) (by omega) ((zc, za), zv)).1 (by rw [Hws.out]; exact hzm)
        gi_wp2_with fail
        refine wpIn_region_quiet_lit (by kernel_rfl) (by kernel_rfl) (by kernel_rfl) ?_
        repeat (go_big_quiet_step (fail))
        refine wpQuiet_nil ?_
        intro _ hw'
        obtain ⟨nq, hw''⟩ := hw'
        subst hw''
        clear i1 i2 i3 i4
        clear hne q0 q1 q1f q2 q3 r0 r1 r2 e0 e1
        obtain ⟨Wd, hWd⟩ : ∃ Wd, Wr.drewN nq = Wd := ⟨_, rfl⟩
        have hKFd : KeepsFrom wy.heap.size Wr Wd := by rw [← hWd]; exact ⟨Nat.le_refl _, fun _ _ _ h _ => h⟩
        have hRSd : RS w Wd p x y (.slice A0 n0 c0) Bx ((zc, za), zv) (.slice A0 n0 c0) := by rw [← hWd]; exact hRS.same (grown_drewN' Wr nq)
        have hod : Wd.ownsRow base 453 2 (.slice A0 n0 c0) n0 xs := by rw [← hWd]; exact h2
        have hbd : base ≤ Wd.heap.size := by rw [← hWd]; exact hbase2
        rw [hWd]
        clear hWd h1 h2 hRS hblk2 hS2 hbase2
        obtain ⟨q0, q1, q1f, q2, q3, r0, r1, r2⟩ := hRSd.facts
        have Hpre := Lib.hid (show ∀ z' ∈ pre.map (·.1), z'.2 ≠ zv from h3)
        clear h3
        have hway' : (zc ≠ 3 ∧ zc ≠ 4) ∨ (zc = 3 ∧ 1 ≤ za ∧ za < x) ∨ (zc = 4 ∧ 1 ≤ za ∧ za < y) := by
          rcases hway with h | ⟨jj, s, _, ⟨_, _, h⟩ | ⟨_, _, _, h⟩⟩ | ⟨aa, ha1, ha2, h⟩ | ⟨aa, ha1, ha2, h⟩ <;> simp only [Prod.mk.injEq] at h <;> omega
        clear hway
        rcases hway' with ⟨hz3, hz4⟩ | ⟨rfl, hza1, hza2⟩ | ⟨rfl, hza1, hza2⟩
        · have hb3 : ((zc : Int) == 3) = false := by simp [hz3]
          have hb4 : ((zc : Int) == 4) = false := by simp [hz4]
          have hpz : planZ k ss x y ((zc, za), zv) = [(zc, za)] := by simp [planZ, hz3, hz4]
          have Hpz := Lib.hid hpz
          clear hz3 hz4 hpz
          gi_wp2_with (gi_at_builtin; refine wpListIn_app (fun _ => trivial) rfl (.tmp 29) (.tmp 32) _ rfl elemCut base _ _ _ rfl (hod.alloc _) _ _ _ _ rfl (Sl.new _ _ _ 2 1 rfl) (one2 _ _) (by unfold maxLen; omega) (by omega) (by simp; omega) ?_; intro A1 c1 w1 ho1 hg1 hp1; have hRS1 := (hRSd.same (World.grownBy_alloc Wd _ none)).step hg1 (hod.alloc _) (fun b e => .inl e); have hgk := gtrans (World.grownBy_alloc Wd (.cells #[.int .i64 zc, .int .i64 za] 453) (Value.slice A0 n0 c0).ownBlock) hg1 (fun b e => .inl e); have hck : ∀ (j : Nat) (o : Obj), (Value.slice A0 n0 c0).ownBlock = some j → Wd.heap[j]? = some o → o.isCells = true := own_cells hod; obtain ⟨q0, q1, q1f, q2, q3, r0, r1, r2⟩ := hRS1.facts; obtain ⟨t0, t1, t1f, t2, t3, u0, u1, u2⟩ := (hRS1.set (.slice A1 (n0 + 1) c1)).facts)
          refine ⟨(hKFd.trans ((KeepsOthers.of_grownBy hgk hck).from _)).trans ((KeepsOthers.setCell _ _ _).from _), rfl, pre.map (·.1), ((zc, za), zv), A1, n0 + 1, c1, _, by simp, Hpre.out, rfl, (hRS1.set _).r4, own_set ho1 hRS1.b1 (by decide) _, by rw [Hpz.out]; rfl, by rw [Hpz.out]; simp [cutE], fun b hb => ?_⟩
          rcases hp1 with h | h
          · rw [h] at hb; exact .inl hb
          · rw [h] at hb; injection hb with hb; subst hb; have := hRSd.b3.lt; simp; omega
        · obtain ⟨a, rfl⟩ : ∃ a : Nat, za = a := ⟨za.toNat, by omega⟩
          have hbn1 : 1 + 2 * (a * y) ≤ 2 * (x * y) := bnd1 (by omega) hy1
          have HIH1 := Lib.hid (fun A n1 c xs1 Wz h1 h2 h3 h4 h5 => IH.out a y A n1 c xs1 Wz (by omega) (by omega) (by omega) (by omega) (by omega) h1 h2 h3 h4 h5)
          gi_wp2_with (gi_at_builtin; refine wpListIn_app (fun _ => trivial) rfl (.tmp 29) (.tmp 32) _ rfl elemCut base _ _ _ rfl (hod.alloc _) _ _ _ _ rfl (Sl.new _ _ _ 2 1 rfl) (one2 _ _) (by unfold maxLen; omega) (by omega) (by simp; omega) ?_; intro A1 c1 w1 ho1 hg1 hp1; have hRS1 := (hRSd.same (World.grownBy_alloc Wd _ none)).step hg1 (hod.alloc _) (fun b e => .inl e); have hgk := gtrans (World.grownBy_alloc Wd (.cells #[.int .i64 3, .int .i64 a] 453) (Value.slice A0 n0 c0).ownBlock) hg1 (fun b e => .inl e); have hck : ∀ (j : Nat) (o : Obj), (Value.slice A0 n0 c0).ownBlock = some j → Wd.heap[j]? = some o → o.isCells = true := own_cells hod; obtain ⟨q0, q1, q1f, q2, q3, r0, r1, r2⟩ := hRS1.facts; obtain ⟨t0, t1, t1f, t2, t3, u0, u1, u2⟩ := (hRS1.set (.slice A1 (n0 + 1) c1)).facts)
          refine ⟨trivial, fun _ => by omega, ?_⟩
          obtain ⟨hblk3, hS3, hbase3⟩ := HGP.out _ (hRS1.set (.slice A1 (n0 + 1) c1)).g
          have hob2 : ∀ b, (Value.slice A1 (n0 + 1) c1).ownBlock = some b → (Value.slice A0 n0 c0).ownBlock = some b ∨ w.heap.size ≤ b := fun b hb => by
            rcases hp1 with h | h
            · rw [h] at hb; exact .inl hb
            · rw [h] at hb; injection hb with hb; subst hb; have := hRSd.b3.lt; simp; omega
          have ho2 := own_set ho1 hRS1.b1 (by decide) (.slice A1 (n0 + 1) c1)
          refine (CallsIn.inRound l (callsIn_wide.2 (HIH1.out A1 (n0 + 1) c1 _ _ hblk3 hS3 hbase3 ho2 (by omega)))).mono ?_
          rintro e w3 ⟨v3, rfl, hpost⟩
          obtain ⟨hRS3, hob3, hKO3⟩ := (hRS1.set (.slice A1 (n0 + 1) c1)).call ho2 hob2 hpost
          have ho3 := hpost.own
          obtain ⟨A3, c3, rfl, _, _, ho3⟩ := own_slice ho3
          have hKF3 : KeepsFrom wy.heap.size Wr w3 := (hKFd.trans ((KeepsOthers.of_grownBy hgk hck).from _)).trans (((KeepsOthers.setCell _ _ _).trans hKO3).from _)
          clear hpost hblk3 hS3 hbase3 t0 t1 t1f t2 t3 u0 u1 u2 q0 q1 q1f q2 q3 r0 r1 r2 hgk hck hKO3
          obtain ⟨q0, q1, q1f, q2, q3, r0, r1, r2⟩ := hRS3.facts
          obtain ⟨xs3, hxs3⟩ : ∃ xs3, (xs ++ [.int .i64 3, .int .i64 (a : Int)]) ++ (planL k ss (a : Int) (y : Int)).flatMap cutE = xs3 := ⟨_, rfl⟩
          rw [hxs3] at ho3
          have Hxs3 := Lib.hid hxs3
          clear hxs3
          obtain ⟨L3, hL3⟩ : ∃ L3, n0 + 1 + (planL k ss (a : Int) (y : Int)).length = L3 := ⟨_, rfl⟩
          rw [hL3] at ho3 hob3
          have HL3 := Lib.hid hL3
          obtain ⟨t0, t1, t1f, t2, t3, u0, u1, u2⟩ := (hRS3.set (.slice A3 L3 c3)).facts
          have ho4 := own_set ho3 hRS3.b1 (by decide) (.slice A3 L3 c3)
          have hRS4 := hRS3.set (.slice A3 L3 c3)
          have hKF4 : KeepsFrom wy.heap.size Wr (w3.setCell ⟨w.heap.size + 1, 0, none⟩ (.slice A3 L3 c3)) := hKF3.trans ((KeepsOthers.setCell _ _ _).from _)
          obtain ⟨hblk4, hS4, hbase4⟩ := HGP.out _ hRS4.g
          obtain ⟨e0, e1⟩ := HCV.out _ hblk4
          obtain ⟨ev, hev⟩ : ∃ ev, ((x : Int) - a - k) = ev := ⟨_, rfl⟩
          have w0 : IntKind.i64.wrap ((x : Int) - a) = (x : Int) - a := IntWalk.i64_in _ (by omega)
          have w1' : IntKind.i64.wrap ((x : Int) - a - k) = ev := by rw [IntWalk.i64_in _ (by omega), hev]
          rw [hL3]
          clear hL3
          by_cases hr1 : 1 ≤ ev
          · obtain ⟨r, rfl⟩ : ∃ r : Nat, ev = r := ⟨ev.toNat, by omega⟩
            have hbn2 : 1 + (planL k ss (a : Int) (y : Int)).length + 2 * (r * y) ≤ 2 * (x * y) := bnd2 (planL_nat k ss hk0 a y (by omega) hy1) (by omega)
            have HIH2 := Lib.hid (fun A n1 c xs1 Wz h1 h2 h3 h4 h5 => IH.out r y A n1 c xs1 Wz (by omega) (by omega) (by omega) (by omega) (by omega) h1 h2 h3 h4 h5)
            have hpz : planZ k ss x y ((3, (a : Int)), zv) = (3, (a : Int)) :: (planL k ss (a : Int) (y : Int) ++ planL k ss (r : Int) (y : Int)) := by
              rw [planZ, if_pos rfl, hev]
            have Hpz := Lib.hid hpz
            have hn3 : L3 + 2 * (r * y) ≤ 100000 := by rw [← HL3.out]; omega
            clear hpz hev hbn2
            gi_wp2_with fail
            refine wpIn_region_quiet_lit (by kernel_rfl) (by kernel_rfl) (by kernel_rfl) ?_
            repeat (go_big_quiet_step (fail))
            refine wpQuiet_nil ?_
            intro _ hw'
            obtain ⟨nq2, hw''⟩ := hw'
            subst hw''
            clear w0 w1'
            have hRS5 := hRS4.same (grown_drewN' (w3.setCell ⟨w.heap.size + 1, 0, none⟩ (.slice A3 L3 c3)) nq2)
            obtain ⟨W5, hW5⟩ : ∃ W5, World.drewN (w3.setCell ⟨w.heap.size + 1, 0, none⟩ (.slice A3 L3 c3)) nq2 = W5 := ⟨_, rfl⟩
            have ho5 : W5.ownsRow base 453 2 (.slice A3 L3 c3) L3 xs3 := by rw [← hW5]; exact ho4
            have hKF5 : KeepsFrom wy.heap.size Wr W5 := by rw [← hW5]; exact hKF4.trans ⟨Nat.le_refl _, fun _ _ _ h _ => h⟩
            rw [hW5] at hRS5
            rw [hW5]
            clear hW5 hRS4 ho4 hKF4 hblk4 hS4 hbase4 e0 e1 t0 t1 t1f t2 t3 u0 u1 u2 q0 q1 q1f q2 q3 r0 r1 r2
            obtain ⟨q0, q1, q1f, q2, q3, r0, r1, r2⟩ := hRS5.facts
            obtain ⟨hblk5, hS5, hbase5⟩ := HGP.out _ hRS5.g
            gi_wp2_with fail
            refine ⟨trivial, fun _ => by omega, ?_⟩
            refine (CallsIn.inRound l (callsIn_wide.2 (HIH2.out A3 L3 c3 _ _ hblk5 hS5 hbase5 ho5 hn3))).mono ?_
            rintro e w6 ⟨v6, rfl, hpost⟩
            obtain ⟨hRS6, hob6, hKO6⟩ := hRS5.call ho5 hob3 hpost
            have ho6 := hpost.own
            obtain ⟨A6, c6, rfl, _, _, ho6⟩ := own_slice ho6
            clear q0 q1 q1f q2 q3 r0 r1 r2 hpost
            obtain ⟨q0, q1, q1f, q2, q3, r0, r1, r2⟩ := hRS6.facts
            obtain ⟨L6, hL6⟩ : ∃ L6, L3 + (planL k ss (r : Int) (y : Int)).length = L6 := ⟨_, rfl⟩
            rw [hL6] at ho6 hob6
            rw [hL6]
            have HL6 := Lib.hid hL6
            clear hL6
            gi_wp2_with fail
            refine ⟨(hKF5.trans (hKO6.from _)).trans ((KeepsOthers.setCell _ _ _).from _), rfl, pre.map (·.1), ((3, (a : Int)), zv), A6, L6, c6, _, by simp, Hpre.out, rfl, (hRS6.set _).r4, own_set ho6 hRS6.b1 (by decide) _, ?_, ?_, hob6⟩
            · rw [Hpz.out, ← HL6.out, ← HL3.out]; simp; omega
            · rw [Hpz.out, ← Hxs3.out]; simp [cutE]
          · have hpz : planZ k ss x y ((3, (a : Int)), zv) = (3, (a : Int)) :: planL k ss (a : Int) (y : Int) := by
              rw [planZ, if_pos rfl, hev, planL_lt k ss ev (y : Int) (.inl (by omega)), List.append_nil]
            have Hpz := Lib.hid hpz
            clear hpz hev
            gi_wp2_with fail
            refine wpIn_region_quiet_lit (by kernel_rfl) (by kernel_rfl) (by kernel_rfl) ?_
            repeat (go_big_quiet_step (fail))
            refine wpQuiet_nil ?_
            intro _ hw'
            obtain ⟨nq2, hw''⟩ := hw'
            subst hw''
            clear w0 w1'
            have hRS5 := hRS4.same (grown_drewN' (w3.setCell ⟨w.heap.size + 1, 0, none⟩ (.slice A3 L3 c3)) nq2)
            gi_wp2_with fail
            refine ⟨hKF4.trans ⟨Nat.le_refl _, fun _ _ _ h _ => h⟩, rfl, pre.map (·.1), ((3, (a : Int)), zv), A3, L3, c3, _, by simp, Hpre.out, rfl, hRS5.r4, (by exact ho4), ?_, ?_, hob3⟩
            · rw [Hpz.out, ← HL3.out]; simp; omega
            · rw [Hpz.out, ← Hxs3.out]; simp [cutE]
        · obtain ⟨a, rfl⟩ : ∃ a : Nat, za = a := ⟨za.toNat, by omega⟩
          have hbn1 : 1 + 2 * (x * a) ≤ 2 * (x * y) := by have := bnd1 (a := a) (x := y) (y := x) (by omega) hx1; rwa [Nat.mul_comm a x, Nat.mul_comm y x] at this
          have HIH1 := Lib.hid (fun A n1 c xs1 Wz h1 h2 h3 h4 h5 => IH.out x a A n1 c xs1 Wz (by omega) (by omega) (by omega) (by omega) (by omega) h1 h2 h3 h4 h5)
          gi_wp2_with (gi_at_builtin; refine wpListIn_app (fun _ => trivial) rfl (.tmp 29) (.tmp 32) _ rfl elemCut base _ _ _ rfl (hod.alloc _) _ _ _ _ rfl (Sl.new _ _ _ 2 1 rfl) (one2 _ _) (by unfold maxLen; omega) (by omega) (by simp; omega) ?_; intro A1 c1 w1 ho1 hg1 hp1; have hRS1 := (hRSd.same (World.grownBy_alloc Wd _ none)).step hg1 (hod.alloc _) (fun b e => .inl e); have hgk := gtrans (World.grownBy_alloc Wd (.cells #[.int .i64 4, .int .i64 a] 453) (Value.slice A0 n0 c0).ownBlock) hg1 (fun b e => .inl e); have hck : ∀ (j : Nat) (o : Obj), (Value.slice A0 n0 c0).ownBlock = some j → Wd.heap[j]? = some o → o.isCells = true := own_cells hod; obtain ⟨q0, q1, q1f, q2, q3, r0, r1, r2⟩ := hRS1.facts; obtain ⟨t0, t1, t1f, t2, t3, u0, u1, u2⟩ := (hRS1.set (.slice A1 (n0 + 1) c1)).facts)
          refine ⟨trivial, fun _ => by omega, ?_⟩
          obtain ⟨hblk3, hS3, hbase3⟩ := HGP.out _ (hRS1.set (.slice A1 (n0 + 1) c1)).g
          have hob2 : ∀ b, (Value.slice A1 (n0 + 1) c1).ownBlock = some b → (Value.slice A0 n0 c0).ownBlock = some b ∨ w.heap.size ≤ b := fun b hb => by
            rcases hp1 with h | h
            · rw [h] at hb; exact .inl hb
            · rw [h] at hb; injection hb with hb; subst hb; have := hRSd.b3.lt; simp; omega
          have ho2 := own_set ho1 hRS1.b1 (by decide) (.slice A1 (n0 + 1) c1)
          refine (CallsIn.inRound l (callsIn_wide.2 (HIH1.out A1 (n0 + 1) c1 _ _ hblk3 hS3 hbase3 ho2 (by omega)))).mono ?_
          rintro e w3 ⟨v3, rfl, hpost⟩
          obtain ⟨hRS3, hob3, hKO3⟩ := (hRS1.set (.slice A1 (n0 + 1) c1)).call ho2 hob2 hpost
          have ho3 := hpost.own
          obtain ⟨A3, c3, rfl, _, _, ho3⟩ := own_slice ho3
          have hKF3 : KeepsFrom wy.heap.size Wr w3 := (hKFd.trans ((KeepsOthers.of_grownBy hgk hck).from _)).trans (((KeepsOthers.setCell _ _ _).trans hKO3).from _)
          clear hpost hblk3 hS3 hbase3 t0 t1 t1f t2 t3 u0 u1 u2 q0 q1 q1f q2 q3 r0 r1 r2 hgk hck hKO3
          obtain ⟨q0, q1, q1f, q2, q3, r0, r1, r2⟩ := hRS3.facts
          obtain ⟨xs3, hxs3⟩ : ∃ xs3, (xs ++ [.int .i64 4, .int .i64 (a : Int)]) ++ (planL k ss (x : Int) (a : Int)).flatMap cutE = xs3 := ⟨_, rfl⟩
          rw [hxs3] at ho3
          have Hxs3 := Lib.hid hxs3
          clear hxs3
          obtain ⟨L3, hL3⟩ : ∃ L3, n0 + 1 + (planL k ss (x : Int) (a : Int)).length = L3 := ⟨_, rfl⟩
          rw [hL3] at ho3 hob3
          have HL3 := Lib.hid hL3
          obtain ⟨t0, t1, t1f, t2, t3, u0, u1, u2⟩ := (hRS3.set (.slice A3 L3 c3)).facts
          have ho4 := own_set ho3 hRS3.b1 (by decide) (.slice A3 L3 c3)
          have hRS4 := hRS3.set (.slice A3 L3 c3)
          have hKF4 : KeepsFrom wy.heap.size Wr (w3.setCell ⟨w.heap.size + 1, 0, none⟩ (.slice A3 L3 c3)) := hKF3.trans ((KeepsOthers.setCell _ _ _).from _)
          obtain ⟨hblk4, hS4, hbase4⟩ := HGP.out _ hRS4.g
          obtain ⟨e0, e1⟩ := HCV.out _ hblk4
          obtain ⟨ev, hev⟩ : ∃ ev, ((y : Int) - a - k) = ev := ⟨_, rfl⟩
          have w0 : IntKind.i64.wrap ((y : Int) - a) = (y : Int) - a := IntWalk.i64_in _ (by omega)
          have w1' : IntKind.i64.wrap ((y : Int) - a - k) = ev := by rw [IntWalk.i64_in _ (by omega), hev]
          rw [hL3]
          clear hL3
          by_cases hr1 : 1 ≤ ev
          · obtain ⟨r, rfl⟩ : ∃ r : Nat, ev = r := ⟨ev.toNat, by omega⟩
            have hbn2 : 1 + (planL k ss (x : Int) (a : Int)).length + 2 * (x * r) ≤ 2 * (x * y) := by have h := planL_nat k ss hk0 x a hx1 (by omega); rw [Nat.mul_comm x a] at h; have := bnd2 (r := r) (x := y) (y := x) h (by omega); rwa [Nat.mul_comm r x, Nat.mul_comm y x] at this
            have HIH2 := Lib.hid (fun A n1 c xs1 Wz h1 h2 h3 h4 h5 => IH.out x r A n1 c xs1 Wz (by omega) (by omega) (by omega) (by omega) (by omega) h1 h2 h3 h4 h5)
            have hpz : planZ k ss x y ((4, (a : Int)), zv) = (4, (a : Int)) :: (planL k ss (x : Int) (a : Int) ++ planL k ss (x : Int) (r : Int)) := by
              rw [planZ, if_neg (show ¬ (4 : Int) = 3 by omega), if_pos rfl, hev]
            have Hpz := Lib.hid hpz
            have hn3 : L3 + 2 * (x * r) ≤ 100000 := by rw [← HL3.out]; omega
            clear hpz hev hbn2
            gi_wp2_with fail
            refine wpIn_region_quiet_lit (by kernel_rfl) (by kernel_rfl) (by kernel_rfl) ?_
            repeat (go_big_quiet_step (fail))
            refine wpQuiet_nil ?_
            intro _ hw'
            obtain ⟨nq2, hw''⟩ := hw'
            subst hw''
            clear w0 w1'
            have hRS5 := hRS4.same (grown_drewN' (w3.setCell ⟨w.heap.size + 1, 0, none⟩ (.slice A3 L3 c3)) nq2)
            obtain ⟨W5, hW5⟩ : ∃ W5, World.drewN (w3.setCell ⟨w.heap.size + 1, 0, none⟩ (.slice A3 L3 c3)) nq2 = W5 := ⟨_, rfl⟩
            have ho5 : W5.ownsRow base 453 2 (.slice A3 L3 c3) L3 xs3 := by rw [← hW5]; exact ho4
            have hKF5 : KeepsFrom wy.heap.size Wr W5 := by rw [← hW5]; exact hKF4.trans ⟨Nat.le_refl _, fun _ _ _ h _ => h⟩
            rw [hW5] at hRS5
            rw [hW5]
            clear hW5 hRS4 ho4 hKF4 hblk4 hS4 hbase4 e0 e1 t0 t1 t1f t2 t3 u0 u1 u2 q0 q1 q1f q2 q3 r0 r1 r2
            obtain ⟨q0, q1, q1f, q2, q3, r0, r1, r2⟩ := hRS5.facts
            obtain ⟨hblk5, hS5, hbase5⟩ := HGP.out _ hRS5.g
            gi_wp2_with fail
            refine ⟨trivial, fun _ => by omega, ?_⟩
            refine (CallsIn.inRound l (callsIn_wide.2 (HIH2.out A3 L3 c3 _ _ hblk5 hS5 hbase5 ho5 hn3))).mono ?_
            rintro e w6 ⟨v6, rfl, hpost⟩
            obtain ⟨hRS6, hob6, hKO6⟩ := hRS5.call ho5 hob3 hpost
            have ho6 := hpost.own
            obtain ⟨A6, c6, rfl, _, _, ho6⟩ := own_slice ho6
            clear q0 q1 q1f q2 q3 r0 r1 r2 hpost
            obtain ⟨q0, q1, q1f, q2, q3, r0, r1, r2⟩ := hRS6.facts
            obtain ⟨L6, hL6⟩ : ∃ L6, L3 + (planL k ss (x : Int) (r : Int)).length = L6 := ⟨_, rfl⟩
            rw [hL6] at ho6 hob6
            rw [hL6]
            have HL6 := Lib.hid hL6
            clear hL6
            gi_wp2_with fail
            refine ⟨(hKF5.trans (hKO6.from _)).trans ((KeepsOthers.setCell _ _ _).from _), rfl, pre.map (·.1), ((4, (a : Int)), zv), A6, L6, c6, _, by simp, Hpre.out, rfl, (hRS6.set _).r4, own_set ho6 hRS6.b1 (by decide) _, ?_, ?_, hob6⟩
            · rw [Hpz.out, ← HL6.out, ← HL3.out]; simp; omega
            · rw [Hpz.out, ← Hxs3.out]; simp [cutE]
          · have hpz : planZ k ss x y ((4, (a : Int)), zv) = (4, (a : Int)) :: planL k ss (x : Int) (a : Int) := by
              rw [planZ, if_neg (show ¬ (4 : Int) = 3 by omega), if_pos rfl, hev, planL_lt k ss (x : Int) ev (.inr (by omega)), List.append_nil]
            have Hpz := Lib.hid hpz
            clear hpz hev
            gi_wp2_with fail
            refine wpIn_region_quiet_lit (by kernel_rfl) (by kernel_rfl) (by kernel_rfl) ?_
            repeat (go_big_quiet_step (fail))
            refine wpQuiet_nil ?_
            intro _ hw'
            obtain ⟨nq2, hw''⟩ := hw'
            subst hw''
            clear w0 w1'
            have hRS5 := hRS4.same (grown_drewN' (w3.setCell ⟨w.heap.size + 1, 0, none⟩ (.slice A3 L3 c3)) nq2)
            gi_wp2_with fail
            refine ⟨hKF4.trans ⟨Nat.le_refl _, fun _ _ _ h _ => h⟩, rfl, pre.map (·.1), ((4, (a : Int)), zv), A3, L3, c3, _, by simp, Hpre.out, rfl, hRS5.r4, (by exact ho4), ?_, ?_, hob3⟩
            · rw [Hpz.out, ← HL3.out]; simp; omega
            · rw [Hpz.out, ← Hxs3.out]; simp [cutE]
      · have hne : ((zv : Int) != vv) = true := by simp [hzv]
        gi_wp2_with fail
        refine wpIn_region_quiet_lit (by kernel_rfl) (by kernel_rfl) (by kernel_rfl) ?_
        repeat (go_big_quiet_step (fail))
        refine wpQuiet_nil ?_
        intro _ hw'
        obtain ⟨nq, hw''⟩ := hw'
        subst hw''
        clear i1 i2 i3 i4
        clear hne
        gi_wp2_with fail
        refine ⟨⟨Nat.le_refl _, fun _ _ _ h _ => h⟩, KC.grown (grown_drewN' Wr nq) (fun b h => by cases h), h1.own (grown_drewN' Wr nq) (fun r e => by cases e), h2, fun z' hz' => ?_⟩
        rw [List.map_append] at hz'
        rcases List.mem_append.1 hz' with hz' | hz'
        · exact h3 z' hz'
        · simp only [List.map_cons, List.map_nil, List.mem_singleton] at hz'
          subst hz'
          exact hzv
    case done =>
      rintro D xs' Wr hD hSx ⟨h1, h2, h3⟩ hK
      exfalso
      obtain ⟨zz, _, hm, hv⟩ := pick_some k ss hk0 x y (by omega) (by omega)
      rw [Hws.out, ← hSx] at hm
      exact h3 _ hm (hv.trans Hvv.out)
    case stop =>
      rintro D c pre Wr hD hSp ⟨rfl, pre', z, A, n1, c1, xs1, h1, h2, h3, h4, h5, h6, h7, h8⟩ hK
      have hpl : planL k ss x y = planZ k ss x y z := by
        rw [h1, ← Hws.out] at hSp
        exact planZ_eq k ss hk0 x y (by omega) (by omega) pre' z hSp (by rw [Hvv.out]; exact h2) (by rw [Hvv.out]; exact h3)
      have hc1 := h4.b1.cell
      have hlD := (Array.getElem?_eq_some_iff.1 hK).1
      have hgD := grownBy_putObj' Wr D (.deferred none)
      have Hfin := Lib.hid (show R (.returned (.slice A n1 c1)) (Wr.putObj D (.deferred none)) from hR.out _ _ ⟨_, rfl, by
        have ho := ownsRow_putObj h5 (.deferred none) hK rfl
        rw [hpl]
        subst h6 h7
        exact ⟨ho, gtrans h4.g hgD (fun b e => by cases e; exact .inr (by omega)), h8⟩⟩)
      clear h6 h7
      gi_wp2_with fail
      refine ⟨by simp, .inl ⟨_, _, rfl, run_takeDeferred hK, ?_⟩⟩
      exact ⟨.slice A n1 c1, results_tmp (t := 8) rfl _ _ _, Hfin.out⟩
end
section
open Go.RowKit

set_option maxRecDepth 100000 in
set_option maxHeartbeats 4000000 in
theorem best_no (W H k : Int) (B : Option Addr) (m d : Nat) (ss : List Shp) (w : World) (hS : SlE Shp.enc 4 w B m ss) (hm : m ≤ 9223372036854775807) (hp : panOk W H k ss = false) :
    Calls Tryz.prog 170 #[.int .i64 W, .int .i64 H, .int .i64 k, .slice B m d] w fun e w' => e = .returned (.tuple #[.slice none 0 0, .int .i64 0, .int .i64 1]) ∧ Below w.heap.size w w' := by
  refine calls_cps ?_
  intro R hR
  go_enter Tryz.func170, Tryz.ntmps170
  go_wp2_with (go_at_call 240; refine (check_any _ _ _ _ _ _ ss _ hS hm).mono ?_; rw [hp]; rintro e w1 ⟨rfl, hb⟩)
  go_ret3
  exact hR.out _ _ ⟨rfl, hb⟩
set_option maxRecDepth 100000 in
set_option maxHeartbeats 4000000 in
theorem best_yes (W H : Nat) (k : Int) (B : Option Addr) (m d : Nat) (ss : List Shp) (w : World) (hS : SlE Shp.enc 4 w B m ss) (hp : panOk W H k ss = true) :
    Calls Tryz.prog 170 #[.int .i64 W, .int .i64 H, .int .i64 k, .slice B m d] w fun e w' => ∃ v, e = .returned (.tuple #[v, .int .i64 (val k ss W H), .int .i64 0]) ∧ PlanRet w' w.heap.size v (planL k ss W H) ∧ Below w.heap.size w w' := by
  refine calls_cps ?_
  intro R hR
  obtain ⟨hW1, hW2, hH1, hH2, hk0, hk8, hss, hok⟩ := panOk_ok hp
  have Hp := Lib.hid hp
  have Hok := Lib.hid hok
  have hm : m ≤ 9223372036854775807 := by rw [hS.1]; omega
  clear hok
  go_enter Tryz.func170, Tryz.ntmps170
  go_wp2_with (first
    | (go_at_call 240; refine (check_any _ _ _ _ _ _ ss _ hS hm).mono ?_; rw [hp]; rintro e w1 ⟨rfl, hb⟩; have hS1 := hS.below hb; clear hp)
    | (go_at_call 241; refine ((callsIn_wide (n := 3)).1 (fill_any 3 (Nat.le_refl _) W H k _ _ _ ss _ hS1 Hp.out)).mono ?_; rintro e w2 ⟨C, rfl, hblk, hsaw, hb2⟩))
  obtain ⟨vv, hvv⟩ : ∃ vv, val k ss W H = vv := ⟨_, rfl⟩
  have hcv : w2.cell? ⟨w1.heap.size, 2 + W * 65 + H, none⟩ = some (.int .i64 vv) := by
    rw [cell_of_row _ _ _ _ _ (0, 0) hblk, hsaw.cv W H (by omega) (by omega) (by omega), hvv]
  have Hvv := Lib.hid hvv
  clear hvv
  have hpl : w1.heap.size < w2.heap.size := (Array.getElem?_eq_some_iff.1 hblk).1
  have hS2 := hS1.below hb2
  have hsb : 0 < m → ∀ a, B = some a → a.block < w2.heap.size := fun h0 a ha => by
    obtain ⟨b, o, hB, hlt, _⟩ := hS2.2.2 h0
    rw [ha] at hB
    injection hB with hB
    subst hB
    exact hlt
  have hlen : 0 + 2 * (W * H) ≤ 100000 := by
    have := Nat.mul_le_mul (show W ≤ 64 by omega) (show H ≤ 64 by omega)
    omega
  go_upto_region 5 with fail
  go_cut [8, 9, 10] (fun s8 s9 s10 wx => ∃ v, s8 = v ∧ s9 = .int .i64 vv ∧ s10 = .int .i64 0 ∧ PlanRet wx w2.heap.size v (planL k ss W H) ∧ Below w2.heap.size w2 wx)
  case first =>
    have i1 : (W : Int) < 65 := by omega
    have i2 : (H : Int) < 65 := by omega
    have i3 : W < 65 := by omega
    have i4 : H < 65 := by omega
    go_region_held3 (fun w' => w'.cell? ⟨w1.heap.size, 2 + W * 65 + H, none⟩ = some (.int .i64 vv))
      (first | go_keep | exact ((hbp.cell (p := ⟨w1.heap.size, _, none⟩) hpl).trans hcv))
      (first | (go_at_call 242; refine (plan_any W H (by omega) (by omega) k ss hk0 hk8 hss (fun s hs => by have := Hok.out s hs; omega) B m d w1.heap.size w2.heap.size C hsaw hpl hsb (W + H) W H none 0 0 [] _ (Nat.le_refl _) (by omega) (Nat.le_refl _) (by omega) (Nat.le_refl _) (by exact hblk) (by exact hS2.drew) (by exact Nat.le_refl _) (by exact World.ownsRow_nil _ _ _ _) hlen).mono ?_; rintro e w' ⟨v, rfl, hpost⟩; have hbp : Below w2.heap.size w2.drew w' := ⟨hpost.g.os, hpost.g.tape, hpost.g.output, hpost.g.size, fun j hj => hpost.g.block j hj (by simp [Value.ownBlock])⟩))
    all_goals
      go_wp2_with fail
      go_meet
      exact ⟨_, rfl, rfl, rfl, (by have h := hpost.own; rw [Nat.zero_add] at h; exact h), ((Below.refl w2.heap.size w2).drew).trans hbp⟩
  case rest =>
    obtain ⟨v, hv8, hv9, hv10, hret, hbp⟩ := hcut
    subst hv8 hv9 hv10
    have hfin := hR.out (.returned (.tuple #[_, .int .i64 (val k ss W H), .int .i64 0])) wc ⟨_, rfl, own_base hret (Nat.le_trans hb.size hb2.size), (hb.trans (hb2.mono hb.size)).trans (hbp.mono (Nat.le_trans hb.size hb2.size))⟩
    rw [Hvv.out] at hfin
    have Hfin := Lib.hid hfin
    clear hfin
    go_wp2
    go_ret3
    exact Hfin.out
end
end Go.Proofs.YtndcijkgaadpgaaGreatDoor
