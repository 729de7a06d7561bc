/-
  Words for the walk of (*saw).plan: its boxes, the row that grows, the plan of a way; no condition but those that each lemma states.
-/
import Derived.Test.YtfkpioibinpfhaaPFill2
namespace Go.Proofs.Ytfkpioibinpfhaa
open Go.RowKit Go.Shelf
attribute [local go_sem] Oper.semAt_some

theorem wpListIn_app {F : Fence} {n0 : Nat} {P : Program} (hF : ∀ f, F.fn f) {w : World} {ops : Array Oper} {rest : List Oper} {o : Oper} {a : Act} {Q : Exit → Act → World → Prop} (hgd : o.guard = none) (s x : Operand) (t : TypeId)
    (ho : o.op = .call { callee := .builtin .append, args := #[s, x], argTypes := #[t, t] })
    {e : TypeId} {sz bytes : Nat} (hE : ElemOk P t e sz bytes) (base : Nat)
    (v : Value) (n : Nat) (xs : List Value) (hs : a.eval s = v) (hown : w.ownsRow base e sz v n xs) (A : Option Addr) (m c : Nat) (news : List Value) (hx : a.eval x = .slice A m c) (hr : Sl w sz A m news) (h1 : ∀ u ∈ news, u.oneCell' = true)
    (h63 : n + m ≤ maxLen) (hbytes : (n + m) * bytes ≤ 140737488355328) (hbase : base ≤ w.heap.size)
    (h : ∀ A' c' w', w'.ownsRow base e sz (.slice A' (n + m) c') (n + m) (xs ++ news) → w.grownBy w' v.ownBlock → ((Value.slice A' (n + m) c').ownBlock = v.ownBlock ∨ (Value.slice A' (n + m) c').ownBlock = some w.heap.size) →
      wpListIn F n0 P ops Q rest (a.put o.dst (.slice A' (n + m) c')) w') : wpListIn F n0 P ops Q (o :: rest) a w := by
  refine wpListIn_plain hgd fun K hK => ?_
  obtain ⟨A', c', w', hrun, h2, h3, h4⟩ := run_app (P := P) w hE base o.type v n xs hown A m c news hr h1 h63 hbytes hbase
  refine ⟨fun f _ => hF f, ?_⟩
  rw [Oper.semAt_plain F _ _ (by rw [ho]; intro c hc'; cases hc')]
  unfold execOp
  simp only [ho, resolve, invoke, builtin, Sem.run_bind, Sem.run_pure, Result.andThen_ok, List.map_toArray, List.map_cons, List.map_nil, hs, hx, hrun]
  exact hK _ _ (h A' c' w' h2 h3 h4)

theorem gtrans {A B C : World} {row row' : Option Nat} (h : A.grownBy B row) (k : B.grownBy C row') (hr : ∀ b, row' = some b → row = some b ∨ A.heap.size ≤ b) : A.grownBy C row :=
  ⟨k.os.trans h.os, k.tape.trans h.tape, k.output.trans h.output, Nat.le_trans h.size k.size, fun j hj hne => (k.block j (Nat.lt_of_lt_of_le hj h.size) (fun e => by
    rcases hr j e.symm with h' | h'
    · exact hne h'.symm
    · omega)).trans (h.block j hj hne)⟩
theorem blk_not_row {W : World} {b base e sz n : Nat} {t : TypeId} {cs : Array Value} {v : Value} {xs : List Value} (hb : W.heap[b]? = some (.cells cs t (0, 0))) (h : W.ownsRow base e sz v n xs) (hne : t ≠ e) : some b ≠ v.ownBlock := by
  intro hh
  rcases h.2 with ⟨rfl, _⟩ | ⟨g, c, cur, rfl, _, hg, _⟩
  · simp [Value.ownBlock] at hh
  · have : b = g := by simpa [Value.ownBlock] using hh
    subst this
    rw [hg] at hb
    simp only [Option.some.injEq, Obj.cells.injEq] at hb
    exact hne hb.2.1.symm
theorem own_cells {W : World} {base e sz n : Nat} {v : Value} {xs : List Value} (h : W.ownsRow base e sz v n xs) : ∀ (j : Nat) (o : Obj), v.ownBlock = some j → W.heap[j]? = some o → o.isCells = true := by
  intro j o hj ho
  rcases h.2 with ⟨rfl, _⟩ | ⟨g, c, cur, rfl, _, hg, _⟩
  · simp [Value.ownBlock] at hj
  · have : g = j := by simpa [Value.ownBlock] using hj
    subst this
    rw [hg] at ho
    injection ho with ho
    subst ho
    rfl
theorem own_set {W : World} {b base e sz n : Nat} {t : TypeId} {u0 : Value} {v : Value} {xs : List Value} (h : W.ownsRow base e sz v n xs) (hb : Boxed W b t u0) (hne : t ≠ e) (u : Value) : (W.setCell ⟨b, 0, none⟩ u).ownsRow base e sz v n xs :=
  h.kept (row := some b) (grownBy_setCell' W b u) (.inr fun e' => blk_not_row hb h hne e'.symm)

/-- The boxes of a call of plan, the way that is looked at, and that nothing else has turned. -/
structure RS (w W : World) (p x y : Nat) (v0 : Value) (Bx : Nat) (z : Way) (vb : Value) : Prop where
  b0 : Boxed W w.heap.size 71 (.pointer (some ⟨p, 0, none⟩))
  b1 : Boxed W (w.heap.size + 1) 26 vb
  b2 : Boxed W (w.heap.size + 1 + 1) 3 (.int .i64 x)
  b3 : Boxed W (w.heap.size + 1 + 1 + 1) 3 (.int .i64 y)
  bx : W.heap[Bx]? = some (.cells #[.int .i64 z.1.1, .int .i64 z.1.2, .int .i64 z.2] 102 (0, 0))
  lx : w.heap.size + 1 + 1 + 1 < Bx
  g : w.grownBy W v0.ownBlock
theorem RS.step {w W W' : World} {p x y : Nat} {v0 : Value} {Bx : Nat} {z : Way} {vb v : Value} {base n : Nat} {xs : List Value} (h : RS w W p x y v0 Bx z vb) (hg : W.grownBy W' v.ownBlock) (ho : W.ownsRow base 81 2 v n xs)
    (hob : ∀ b, v.ownBlock = some b → v0.ownBlock = some b ∨ w.heap.size ≤ b) : RS w W' p x y v0 Bx z vb :=
  ⟨h.b0.kept hg (blk_not_row h.b0 ho (by decide)), h.b1.kept hg (blk_not_row h.b1 ho (by decide)), h.b2.kept hg (blk_not_row h.b2 ho (by decide)), h.b3.kept hg (blk_not_row h.b3 ho (by decide)),
   (hg.block Bx (Array.getElem?_eq_some_iff.1 h.bx).1 (blk_not_row h.bx ho (by decide))).trans h.bx, h.lx, gtrans h.g hg hob⟩
theorem RS.same {w W W' : World} {p x y : Nat} {v0 : Value} {Bx : Nat} {z : Way} {vb : Value} (h : RS w W p x y v0 Bx z vb) (hg : W.grownBy W' none) : RS w W' p x y v0 Bx z vb :=
  ⟨h.b0.kept hg (by simp), h.b1.kept hg (by simp), h.b2.kept hg (by simp), h.b3.kept hg (by simp), (hg.block Bx (Array.getElem?_eq_some_iff.1 h.bx).1 (by simp)).trans h.bx, h.lx, gtrans h.g hg (fun b e => by cases e)⟩
theorem RS.set {w W : World} {p x y : Nat} {v0 : Value} {Bx : Nat} {z : Way} {vb : Value} (h : RS w W p x y v0 Bx z vb) (u : Value) : RS w (W.setCell ⟨w.heap.size + 1, 0, none⟩ u) p x y v0 Bx z u :=
  ⟨h.b0.other (by omega) u, h.b1.set u, h.b2.other (by omega) u, h.b3.other (by omega) u, (Below.heap_setCell _ _ _ _ (by have := h.lx; dsimp only; omega)).trans h.bx, h.lx,
   gtrans h.g (grownBy_setCell' W _ u) (fun b e => by cases e; exact .inr (by omega))⟩
/-- The cells that the walk of a round asks for. -/
theorem RS.facts {w W : World} {p x y : Nat} {v0 : Value} {Bx : Nat} {z : Way} {vb : Value} (h : RS w W p x y v0 Bx z vb) :
    W.cell? ⟨w.heap.size, 0, none⟩ = some (.pointer (some ⟨p, 0, none⟩)) ∧ W.cell? ⟨w.heap.size + 1, 0, none⟩ = some vb ∧ W.frozen? ⟨w.heap.size + 1, 0, none⟩ = false ∧ W.cell? ⟨w.heap.size + 1 + 1, 0, none⟩ = some (.int .i64 x) ∧
    W.cell? ⟨w.heap.size + 1 + 1 + 1, 0, none⟩ = some (.int .i64 y) ∧ W.cell? ⟨Bx, 0, none⟩ = some (.int .i64 z.1.1) ∧ W.cell? ⟨Bx, 1, none⟩ = some (.int .i64 z.1.2) ∧ W.cell? ⟨Bx, 2, none⟩ = some (.int .i64 z.2) :=
  ⟨h.b0.cell, h.b1.cell, h.b1.frozen, h.b2.cell, h.b3.cell, by rw [cell_of_row _ _ 0 _ _ (0, 0) h.bx]; rfl, by rw [cell_of_row _ _ 1 _ _ (0, 0) h.bx]; rfl, by rw [cell_of_row _ _ 2 _ _ (0, 0) h.bx]; rfl⟩

/-- The boxes alone. -/
structure R4 (w W : World) (p x y : Nat) (v0 vb : Value) : Prop where
  b0 : Boxed W w.heap.size 71 (.pointer (some ⟨p, 0, none⟩))
  b1 : Boxed W (w.heap.size + 1) 26 vb
  b2 : Boxed W (w.heap.size + 1 + 1) 3 (.int .i64 x)
  b3 : Boxed W (w.heap.size + 1 + 1 + 1) 3 (.int .i64 y)
  g : w.grownBy W v0.ownBlock
theorem RS.r4 {w W : World} {p x y : Nat} {v0 : Value} {Bx : Nat} {z : Way} {vb : Value} (h : RS w W p x y v0 Bx z vb) : R4 w W p x y v0 vb := ⟨h.b0, h.b1, h.b2, h.b3, h.g⟩
theorem R4.rs {w W : World} {p x y : Nat} {v0 : Value} {Bx : Nat} {z : Way} {vb : Value} (h : R4 w W p x y v0 vb) (hbx : W.heap[Bx]? = some (.cells #[.int .i64 z.1.1, .int .i64 z.1.2, .int .i64 z.2] 102 (0, 0))) (hlx : w.heap.size + 1 + 1 + 1 < Bx) : RS w W p x y v0 Bx z vb :=
  ⟨h.b0, h.b1, h.b2, h.b3, hbx, hlx, h.g⟩
theorem R4.own {w W W' : World} {p x y : Nat} {v0 vb : Value} {row : Option Nat} (h : R4 w W p x y v0 vb) (hg : W.grownBy W' row) (hr : ∀ r, row = some r → w.heap.size ≤ r ∧ ∃ o : Obj, W.heap[r]? = some o ∧ o.isCells = false) : R4 w W' p x y v0 vb :=
  have key : ∀ b t u, Boxed W b t u → Boxed W' b t u := fun b t u hb => hb.kept hg (fun e => by
    obtain ⟨_, o, ho, hc⟩ := hr b e.symm
    rw [show W.heap[b]? = _ from hb] at ho
    injection ho with ho
    subst ho
    cases hc)
  ⟨key _ _ _ h.b0, key _ _ _ h.b1, key _ _ _ h.b2, key _ _ _ h.b3, gtrans h.g hg (fun b e => .inr (hr b e).1)⟩
theorem ownsRow_own {W W' : World} {base e sz n : Nat} {v : Value} {xs : List Value} {row : Option Nat} (h : W.ownsRow base e sz v n xs) (hg : W.grownBy W' row) (hr : ∀ r, row = some r → ∃ o : Obj, W.heap[r]? = some o ∧ o.isCells = false) : W'.ownsRow base e sz v n xs := by
  refine h.kept hg ?_
  cases hv : v.ownBlock with
  | none => exact .inl rfl
  | some b =>
    refine .inr fun e' => ?_
    obtain ⟨o, ho, hc⟩ := hr b e'.symm
    rcases h.2 with ⟨rfl, _⟩ | ⟨g, c, cur, rfl, _, hgg, _⟩
    · simp [Value.ownBlock] at hv
    · have : g = b := by simpa [Value.ownBlock] using hv
      subst this
      rw [hgg] at ho
      injection ho with ho
      subst ho
      cases hc
theorem alloc3 (W : World) (o1 o2 o3 : Obj) : (((W.alloc o1).alloc o2).alloc o3).heap[W.heap.size]? = some o1 ∧ (((W.alloc o1).alloc o2).alloc o3).heap[W.heap.size + 1]? = some o2 ∧
    (((W.alloc o1).alloc o2).alloc o3).heap[W.heap.size + 1 + 1]? = some o3 ∧ (((W.alloc o1).alloc o2).alloc o3).heap.size = W.heap.size + 3 ∧ Below W.heap.size W (((W.alloc o1).alloc o2).alloc o3) := by
  refine ⟨?_, ?_, ?_, by simp, (((Below.refl _ _).alloc (Nat.le_refl _) _).alloc (by simp) _).alloc (by simp <;> omega) _⟩
  · rw [Below.heap_alloc _ _ _ (by simp <;> omega), Below.heap_alloc _ _ _ (by simp), heap_alloc_new]
  · rw [Below.heap_alloc _ _ _ (by simp)]
    have h := heap_alloc_new (W.alloc o1) o2
    rwa [World.size_alloc] at h
  · have h := heap_alloc_new ((W.alloc o1).alloc o2) o3
    rwa [World.size_alloc, World.size_alloc] at h
theorem grown_of_below {A B : World} (h : Below A.heap.size A B) : A.grownBy B none := ⟨h.os, h.tape, h.output, h.size, fun j hj _ => h.block j hj⟩
/-- The plan that begins with a way. -/
def planZ (k : Int) (ss : List Shp) (w h : Int) (z : Way) : List (Int × Int) :=
  z.1 :: (if z.1.1 = 3 then planL k ss z.1.2 h ++ planL k ss (w - z.1.2 - k) h else if z.1.1 = 4 then planL k ss w z.1.2 ++ planL k ss w (h - z.1.2 - k) else [])
theorem planZ_eq (k : Int) (ss : List Shp) (hk : 0 ≤ k) (w h : Int) (hw : 1 ≤ w) (hh : 1 ≤ h) (pre : List Way) (z : Way) (hp : pre ++ [z] <+: ways (val k ss) k ss w h) (hn : ∀ y ∈ pre, y.2 ≠ val k ss w h) (hz : z.2 = val k ss w h) : planL k ss w h = planZ k ss w h z := by
  obtain ⟨rest, hr⟩ := hp
  have hpick : pick k ss w h = some z := by
    rw [pick, ← hr, List.append_assoc, List.find?_append, List.find?_eq_none.2 (by intro y hy; simp [hn y hy])]
    simp [hz]
  obtain ⟨⟨c, a⟩, v⟩ := z
  exact planL_eq k ss hk w h hw hh hpick
theorem bnd1 {a x y : Nat} (h : a < x) (hy : 1 ≤ y) : 1 + 2 * (a * y) ≤ 2 * (x * y) := by
  have h1 : (a + 1) * y ≤ x * y := Nat.mul_le_mul_right y h
  rw [Nat.add_mul] at h1
  omega
theorem bnd2 {a r x y la : Nat} (h : la + 1 ≤ 2 * (a * y)) (hr : a + r ≤ x) : 1 + la + 2 * (r * y) ≤ 2 * (x * y) := by
  have h1 : (a + r) * y ≤ x * y := Nat.mul_le_mul_right y hr
  rw [Nat.add_mul] at h1
  omega
theorem planL_nat (k : Int) (ss : List Shp) (hk : 0 ≤ k) (x y : Nat) (hx : 1 ≤ x) (hy : 1 ≤ y) : (planL k ss x y).length + 1 ≤ 2 * (x * y) := by
  have h := planL_len k ss hk _ (x : Int) (y : Int) (Nat.le_refl _) (by omega) (by omega)
  have e : ((x * y : Nat) : Int) = (x : Int) * y := Int.natCast_mul x y
  omega
/-- Between two rounds of plan: nothing has been found yet. -/
def PI (w : World) (p x y : Nat) (v0 : Value) (base n0 : Nat) (xs : List Value) (vv : Int) (pre : List Way) (Wz : World) : Prop :=
  R4 w Wz p x y v0 v0 ∧ Wz.ownsRow base 81 2 v0 n0 xs ∧ ∀ z ∈ pre, z.2 ≠ vv
/-- A round of plan has found a way, and has cut by it. -/
def PX (w : World) (p x y : Nat) (v0 : Value) (base n0 : Nat) (xs : List Value) (vv : Int) (k : Int) (ss : List Shp) (c : Code) (pre : List Way) (Wz : World) : Prop :=
  c = .exit 0 ∧ ∃ (pre' : List Way) (z : Way) (A : Option Addr) (n1 c1 : Nat) (xs1 : List Value), pre = pre' ++ [z] ∧ (∀ z' ∈ pre', z'.2 ≠ vv) ∧ z.2 = vv ∧ R4 w Wz p x y v0 (.slice A n1 c1) ∧ Wz.ownsRow base 81 2 (.slice A n1 c1) n1 xs1 ∧
        n1 = n0 + (planZ k ss x y z).length ∧ xs1 = xs ++ (planZ k ss x y z).flatMap cutE ∧ ∀ b, (Value.slice A n1 c1).ownBlock = some b → v0.ownBlock = some b ∨ w.heap.size ≤ b
/-- What a call of plan leaves: the row of cuts has grown by the plan, and nothing else has turned. -/
structure PlanPost (base : Nat) (w w' : World) (v : Value) (n : Nat) (xs : List Value) (l : List (Int × Int)) (v' : Value) : Prop where
  own : w'.ownsRow base 81 2 v' (n + l.length) (xs ++ l.flatMap cutE)
  g : w.grownBy w' v.ownBlock
  ob : ∀ b, v'.ownBlock = some b → v.ownBlock = some b ∨ w.heap.size ≤ b
theorem RS.call {w W W3 : World} {p x y : Nat} {v0 : Value} {Bx : Nat} {z : Way} {v v3 : Value} {base n : Nat} {xs : List Value} {l : List (Int × Int)} (h : RS w W p x y v0 Bx z v) (ho : W.ownsRow base 81 2 v n xs)
    (hob : ∀ b, v.ownBlock = some b → v0.ownBlock = some b ∨ w.heap.size ≤ b) (hp : PlanPost base W W3 v n xs l v3) : RS w W3 p x y v0 Bx z v ∧ (∀ b, v3.ownBlock = some b → v0.ownBlock = some b ∨ w.heap.size ≤ b) ∧ KeepsOthers W W3 := by
  refine ⟨h.step hp.g ho hob, fun b hb => ?_, KeepsOthers.of_grownBy hp.g (own_cells ho)⟩
  rcases hp.ob b hb with h' | h'
  · exact hob b h'
  · have := h.g.size
    exact .inr (by omega)
end Go.Proofs.Ytfkpioibinpfhaa
