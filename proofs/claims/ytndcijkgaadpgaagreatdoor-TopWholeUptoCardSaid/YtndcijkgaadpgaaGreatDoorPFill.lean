/-
  The iterator of saw.ways as the library asks for it; the contract of panel.fill: the values of all rectangles; condition: the panel is valid.
-/
import Derived.Test.YtndcijkgaadpgaaGreatDoorPWays
namespace Go.Proofs.YtndcijkgaadpgaaGreatDoor
open Go.RowKit Go.Shelf
attribute [local go_sem] Oper.semAt_some

theorem KC.of_below {A B : World} (h : Below A.heap.size A B) : KC none A B := ⟨h.size, fun j _o hj _ _ => (h.block j (Array.getElem?_eq_some_iff.1 hj).1).trans hj⟩
theorem ways_stops (n : Nat) (mo : Option Nat) (p b1 x y : Nat) (k : Int) (B : Option Addr) (m d : Nat) (ss : List Shp) (hb : WB mo p b1 B m) (hn : 1 ≤ n) (hx1 : 1 ≤ x) (hx : x ≤ 64) (hy1 : 1 ≤ y) (hy : y ≤ 64) (hk0 : 0 ≤ k) (hk8 : k ≤ 8) (hss : ss.length ≤ 16)
    (hok : ∀ s ∈ ss, 1 ≤ s.W ∧ 1 ≤ s.H ∧ 0 ≤ s.V ∧ s.V ≤ 1000000) (w : World) (hmo : ∀ b, mo = some b → b < w.heap.size) (hM : WM w p b1 x y k B m d ss) :
    SeqStopsK Fence.wide n Tryz.prog 377 #[.pointer (some ⟨b1, 0, none⟩), .pointer (some ⟨b1 + 1, 0, none⟩), .pointer (some ⟨b1 + 1 + 1, 0, none⟩)] (fun x' : { z : Way // z ∈ ways (val k ss) k ss x y } => #[wayV x'.1]) (KC mo)
      (fun xs => xs.map (·.1) = ways (val k ss) k ss x y) (fun pre => pre.map (·.1) <+: ways (val k ss) k ss x y) (ways (val k ss) k ss x y).length w := fun l J Jx W hW hJ hJx hY h0 => by
  have hM' : WM W p b1 x y k B m d ss := hM.keep ⟨by simp, by simp, by simp, by simp, by simp⟩ (KC.of_below hW)
  refine (ways1_in n l mo p b1 x y k B m d ss hb hn hx1 hx hy1 hy hk0 hk8 hss hok (fun cur W => ∃ pre, pre.map (·.1) = cur ∧ J pre W) (fun cur W => ∃ pre, pre.map (·.1) = cur ∧ Jx pre W) ?_ ?_ W ?_ hM' ⟨[], rfl, h0⟩).mono ?_
  · rintro cur A B ⟨pre, hp, hj⟩ hg
    exact ⟨pre, hp, hJ pre A B none hj hg (fun r hr => by cases hr)⟩
  · rintro cur z rest W1 hcz ⟨pre, hp, hj⟩
    have hz : z ∈ ways (val k ss) k ss x y := by rw [← hcz]; simp
    have hl : pre.length < (ways (val k ss) k ss x y).length := by
      have e1 := congrArg List.length hcz
      have e2 := congrArg List.length hp
      simp at e1 e2
      omega
    refine (hY pre ⟨z, hz⟩ W1 hj hl).mono ?_
    rintro e W' (⟨rfl, h1, h2⟩ | ⟨rfl, h1⟩)
    · exact .inl ⟨rfl, ⟨_, by simp [hp], h1⟩, h2⟩
    · exact .inr ⟨rfl, ⟨_, by simp [hp], h1⟩⟩
  · intro b hb'
    exact Nat.lt_of_lt_of_le (hmo b hb') hW.size
  · rintro e W' ⟨hv, ⟨pre, hp, hj⟩ | ⟨cur, rest, hc, pre, hp, hj⟩⟩
    · exact ⟨hv, .inl ⟨pre, hp, hj⟩⟩
    · exact ⟨hv, .inr ⟨pre, by show pre.map (·.1) <+: _; rw [hp]; exact ⟨rest, hc⟩, hj⟩⟩

/-! ### the marks of loops over functions -/
/-- The activation's deferred calls are marks of loops that are over, whose blocks hold no call. -/
def Marks (base B : Nat) (W : World) (ds : List Deferred) : Prop := ∃ Ds : List Nat, ds = Ds.map (fun D => { target := .collected D, args := #[] }) ∧ Ds.Nodup ∧ ∀ D ∈ Ds, base ≤ D ∧ D < B ∧ W.heap[D]? = some (.deferred (some []))
theorem Marks.nil (base B : Nat) (W : World) : Marks base B W [] := ⟨[], rfl, List.nodup_nil, by simp⟩
theorem Marks.own {β : Type} {base B : Nat} {ds : List Deferred} : OwnFrom B (fun (_ : β) W => Marks base B W ds) := by
  rintro s W W' row ⟨Ds, h1, h2, h3⟩ hg hr
  refine ⟨Ds, h1, h2, fun D hD => ?_⟩
  obtain ⟨p1, p2, p3⟩ := h3 D hD
  exact ⟨p1, p2, (hg.block D (Array.getElem?_eq_some_iff.1 p3).1 (fun e => by have := (hr D e.symm).1; omega)).trans p3⟩
theorem Marks.keep {base B : Nat} {W W' : World} {ds : List Deferred} (h : Marks base B W ds) (hk : ∀ D, D < B → W.heap[D]? = some (.deferred (some [])) → W'.heap[D]? = some (.deferred (some []))) : Marks base B W' ds := by
  obtain ⟨Ds, h1, h2, h3⟩ := h
  exact ⟨Ds, h1, h2, fun D hD => ⟨(h3 D hD).1, (h3 D hD).2.1, hk D (h3 D hD).2.1 (h3 D hD).2.2⟩⟩
theorem Marks.more {base B B' : Nat} {W : World} {ds : List Deferred} (h : Marks base B W ds) (hB : B ≤ B') : Marks base B' W ds := by
  obtain ⟨Ds, h1, h2, h3⟩ := h
  exact ⟨Ds, h1, h2, fun D hD => ⟨(h3 D hD).1, by have := (h3 D hD).2.1; omega, (h3 D hD).2.2⟩⟩
theorem Marks.cons {base B : Nat} {W : World} {ds : List Deferred} (h : Marks base B W ds) {D : Nat} (hb : base ≤ B) (hD : B ≤ D) (hW : W.heap[D]? = some (.deferred (some []))) : Marks base W.heap.size W ({ target := .collected D, args := #[] } :: ds) := by
  obtain ⟨Ds, rfl, h2, h3⟩ := h
  have hl := (Array.getElem?_eq_some_iff.1 hW).1
  refine ⟨D :: Ds, rfl, List.nodup_cons.2 ⟨fun hm => by have := (h3 D hm).2.1; omega, h2⟩, fun E hE => ?_⟩
  rcases List.mem_cons.1 hE with rfl | hE
  · exact ⟨by omega, hl, hW⟩
  · exact ⟨(h3 E hE).1, by have := (h3 E hE).2.1; omega, (h3 E hE).2.2⟩
/-- At the function's return all marks are taken: the cells, and what lay below base, stay as they were. -/
theorem marks_leave {F : Fence} {n : Nat} {P : Program} {fn : Func} {tmps : Array Value} {R : Ending → World → Prop} {base B : Nat} : ∀ {ds : List Deferred} {W : World}, Marks base B W ds →
    (∀ W', KC none W W' → Below base W W' → ∃ v, (results fn tmps).run P W' = .ok v W' ∧ R (.returned v) W') → LeavesInM F n P fn tmps R ds .returning W := by
  intro ds W ⟨Ds, h1, h2, h3⟩
  subst h1
  induction Ds generalizing W with
  | nil =>
    intro hfin
    exact hfin W (KC.refl _ _) (Below.refl _ _)
  | cons D Ds ih =>
    intro hfin
    obtain ⟨p1, p2, p3⟩ := h3 D (by simp)
    have hlt := (Array.getElem?_eq_some_iff.1 p3).1
    refine ⟨by simp, .inl ⟨_, _, rfl, run_takeDeferred p3, ?_⟩⟩
    have hg := grownBy_putObj' W D (.deferred none)
    have hnd := List.nodup_cons.1 h2
    refine ih hnd.2 (fun E hE => ?_) (fun W' hk hb => ?_)
    · obtain ⟨q1, q2, q3⟩ := h3 E (by simp [hE])
      exact ⟨q1, q2, (hg.block E (Array.getElem?_eq_some_iff.1 q3).1 (fun e => by injection e with e; subst e; exact hnd.1 hE)).trans q3⟩
    · refine hfin W' ((KC.putObj W D _ _ p3 rfl).trans hk) (Below.trans ?_ hb)
      exact (Below.refl base W).grown hg (by omega) (fun k e => by cases e; exact p1)

/-! ### the saw in memory -/
def sawC (k : Int) (B : Option Addr) (m d : Nat) : Array Value := (#[Value.int .i64 k, .slice B m d] : Array Value) ++ Array.replicate 4225 (Value.int .i64 0)
theorem saw_zero : (Tryz.prog.info? 374).map (fun i => i.zero.map fun z => z.cells.toList) = some (some (Value.int .i64 0 :: .slice none 0 0 :: List.replicate 4225 (Value.int .i64 0))) := by kernel_rfl
theorem saw_places : (match Tryz.prog.underlying 374 with | some (.struct fs) => fs.toList.mapM (fun f => (Tryz.prog.info? f.type).map fun i => (f.offset, i.size)) | _ => none) = some [(0, 1), (1, 1), (2, 4225)] := by kernel_rfl
theorem fill_two (k : Int) (B : Option Addr) (m d n : Nat) : Instr.fill ([(0, 1), (1, 1), (2, n)].toArray[·]?) (Value.int .i64 0 :: .slice none 0 0 :: List.replicate n (Value.int .i64 0)).toArray [(0, .int .i64 k), (1, .slice B m d)] =
    some ((#[Value.int .i64 k, .slice B m d] : Array Value) ++ Array.replicate n (Value.int .i64 0)) := by
  simp [Instr.fill, Value.cells]
theorem saw_built (k : Int) (B : Option Addr) (m d : Nat) : Tryz.prog.built 374 [(0, .int .i64 k), (1, .slice B m d)] = some (sawC k B m d) := by
  have hz := saw_zero
  have hp := saw_places
  cases hi : Tryz.prog.info? 374 with
  | none => rw [hi] at hz; cases hz
  | some it =>
    rw [hi] at hz
    simp only [Option.map_some, Option.some.injEq] at hz
    cases hzz : it.zero with
    | none => rw [hzz] at hz; cases hz
    | some z =>
      rw [hzz] at hz
      simp only [Option.map_some, Option.some.injEq] at hz
      have hb : ∀ (fs : Array Field) (pl : List (Nat × Nat)) (parts : List (Nat × Value)), Tryz.prog.underlying 374 = some (.struct fs) → fs.toList.mapM (fun f => (Tryz.prog.info? f.type).map fun i => (f.offset, i.size)) = some pl →
          Tryz.prog.built 374 parts = Instr.fill (pl.toArray[·]?) z.cells parts := fun fs pl parts h1 h2 => by
        unfold Program.built
        simp only [hi, h1, hzz, h2]
      cases hu : Tryz.prog.underlying 374 with
      | none => rw [hu] at hp; cases hp
      | some u =>
      rw [hu] at hp
      cases u <;> simp only [reduceCtorEq] at hp
      rw [hb _ _ _ hu hp]
      have hc : z.cells = (Value.int .i64 0 :: .slice none 0 0 :: List.replicate 4225 (Value.int .i64 0)).toArray := by rw [← hz]
      rw [hc]
      exact fill_two k B m d 4225
theorem sawC_size (k : Int) (B : Option Addr) (m d : Nat) : (sawC k B m d).size = 4227 := by simp [sawC]
theorem sawC_0 (k : Int) (B : Option Addr) (m d : Nat) : (sawC k B m d)[0]? = some (.int .i64 k) := by simp [sawC]
theorem sawC_1 (k : Int) (B : Option Addr) (m d : Nat) : (sawC k B m d)[1]? = some (.slice B m d) := by simp [sawC]
theorem sawC_2 (k : Int) (B : Option Addr) (m d : Nat) (i : Nat) (hi : i < 4225) : (sawC k B m d)[2 + i]? = some (.int .i64 0) := by
  unfold sawC
  rw [Array.getElem?_append_right (by simp)]
  simp [show 2 + i - 2 = i by omega, hi]
/-- The saw's cells when the values before (i, j), row by row, are found. -/
structure SawC (C : Array Value) (k : Int) (B : Option Addr) (m d : Nat) (ss : List Shp) (h i j : Nat) : Prop where
  sz : C.size = 4227
  c0 : C[0]? = some (.int .i64 k)
  c1 : C[1]? = some (.slice B m d)
  cv : ∀ a b : Nat, a ≤ 64 → b ≤ 64 → (a = 0 ∨ b = 0 ∨ (a < i ∧ b ≤ h) ∨ (a = i ∧ b < j)) → C[2 + a * 65 + b]? = some (.int .i64 (val k ss a b))
theorem SawC.start (k : Int) (B : Option Addr) (m d : Nat) (ss : List Shp) (h : Nat) : SawC (sawC k B m d) k B m d ss h 1 1 :=
  ⟨sawC_size _ _ _ _, sawC_0 _ _ _ _, sawC_1 _ _ _ _, fun a b ha hb hab => by
    rw [show 2 + a * 65 + b = 2 + (a * 65 + b) by omega, sawC_2 k B m d _ (by omega), val_lt k ss _ _ (by omega)]⟩
theorem SawC.row {C : Array Value} {k : Int} {B : Option Addr} {m d : Nat} {ss : List Shp} {h i : Nat} (s : SawC C k B m d ss h i (h + 1)) : SawC C k B m d ss h (i + 1) 1 :=
  ⟨s.sz, s.c0, s.c1, fun a b ha hb hab => s.cv a b ha hb (by omega)⟩
theorem SawC.set {C : Array Value} {k : Int} {B : Option Addr} {m d : Nat} {ss : List Shp} {h i j : Nat} (s : SawC C k B m d ss h i j) (hi : i ≤ 64) (hj : j ≤ 64) : SawC (C.setIfInBounds (2 + i * 65 + j) (.int .i64 (val k ss i j))) k B m d ss h i (j + 1) :=
  ⟨by simp [s.sz], by rw [Array.getElem?_setIfInBounds_ne (by omega)]; exact s.c0, by rw [Array.getElem?_setIfInBounds_ne (by omega)]; exact s.c1, fun a b ha hb hab => by
    by_cases hab' : a = i ∧ b = j
    · obtain ⟨rfl, rfl⟩ := hab'
      rw [Array.getElem?_setIfInBounds_self_of_lt (by rw [s.sz]; omega)]
    · rw [Array.getElem?_setIfInBounds_ne (by omega)]
      exact s.cv a b ha hb (by omega)⟩
end Go.Proofs.YtndcijkgaadpgaaGreatDoor
