/-
  Plain: what read gives for the forms of the stock's commands; how great a number may be. A book lies in blocks of its own types; posted; conditions: the cells hold a house. (*House).posted: an entry is posted, and its number replied; conditions: the cells hold a house, the tables lie below a block, the moves lie in a row.
-/
import Derived.Test.YtndcijkgaadpgaaGreatDoorUk
import Derived.Test.YtndcijkgaadpgaaGreatDoorUp
namespace Go.Proofs.YtndcijkgaadpgaaGreatDoor
section
/-- A kind that takes one word. -/
theorem readK_one {k : List UInt8} {r : List (List UInt8)} {s : Ta} (h1 : k ≠ kS) (h2 : k ≠ kP) (h3 : k ≠ kPost) : readK (k :: r) s = if (takeP k s).2 then readK r (takeP k s).1 else none := by
  have e1 : grpK k = [k] := by unfold grpK; rw [if_neg h1, if_neg h2, if_neg h3]
  have e2 : moreK k = false := by unfold moreK; rw [decide_eq_false h1, decide_eq_false h2, decide_eq_false h3]; rfl
  have e3 : leastK k = 1 := by unfold leastK; rw [if_neg h1]
  rw [readK, e1, e2, e3, Nat.add_comm, loopK, if_pos (.inl (by decide)), takeG]
  split
  · rw [takeG, Option.bind_some]
    have : ∀ (n : Nat) (t : Ta), loopK [k] false n (1 - 1) t = some t := by
      intro n t
      cases n with
      | zero => rfl
      | succ n => rw [loopK, if_neg (by simp)]
    rw [this]
    rfl
  · rfl
theorem takeP_n (s : Ta) : takeP kN s = match s.rest with | [] => (s, false) | w :: r => (⟨r, s.ws, s.ns ++ [(numL w).getD 0]⟩, (numL w).isSome) := by
  unfold takeP
  cases s.rest <;> rfl
theorem takeP_w {k : List UInt8} (h : k ≠ kN) (s : Ta) : takeP k s = match s.rest with | [] => (s, false) | w :: r => (⟨r, s.ws ++ [w], s.ns⟩, ofK k w) := by
  unfold takeP
  cases s.rest with
  | nil => rfl
  | cons w r => exact if_neg h
/-- A number is taken. -/
theorem readK_n {r : List (List UInt8)} {s t : Ta} (h : readK (kN :: r) s = some t) : ∃ w q v, s.rest = w :: q ∧ numL w = some v ∧ readK r ⟨q, s.ws, s.ns ++ [v]⟩ = some t := by
  rw [readK_one (by decide) (by decide) (by decide), takeP_n] at h
  cases hr : s.rest with
  | nil => rw [hr] at h; cases h
  | cons w q =>
    rw [hr] at h
    dsimp only at h
    cases hv : numL w with
    | none => simp [hv] at h
    | some v =>
      simp only [hv, Option.isSome_some, if_true, Option.getD_some] at h
      exact ⟨w, q, v, rfl, hv, h⟩
/-- A word is taken. -/
theorem readK_w {k : List UInt8} {r : List (List UInt8)} {s t : Ta} (h0 : k ≠ kN) (h1 : k ≠ kS) (h2 : k ≠ kP) (h3 : k ≠ kPost) (h : readK (k :: r) s = some t) : ∃ w q, s.rest = w :: q ∧ ofK k w = true ∧ readK r ⟨q, s.ws ++ [w], s.ns⟩ = some t := by
  rw [readK_one h1 h2 h3, takeP_w h0] at h
  cases hr : s.rest with
  | nil => rw [hr] at h; cases h
  | cons w q =>
    rw [hr] at h
    dsimp only at h
    cases hv : ofK k w with
    | false => simp [hv] at h
    | true =>
      simp only [hv, if_true] at h
      exact ⟨w, q, rfl, hv, h⟩
theorem finP_yes {o : Option Ta} (h : (finP o).2.2 = true) : ∃ s, o = some s ∧ s.rest = [] := by
  cases o with
  | none => cases h
  | some s => exact ⟨s, rfl, List.eq_nil_of_length_eq_zero (by simpa [finP] using h)⟩
theorem read_none {ws : List (List UInt8)} (h : (readP [] ws).2.2 = true) : ws = [] ∧ readP [] ws = ([], [], true) := by
  have hf : Lib.fields [] = [] := by decide
  unfold readP at h ⊢
  rw [hf] at h ⊢
  obtain ⟨s, h1, h2⟩ := finP_yes h
  cases h1
  dsimp only at h2
  subst h2
  exact ⟨rfl, rfl⟩
theorem read_n {ws : List (List UInt8)} (h : (readP [110] ws).2.2 = true) : ∃ x v, ws = [x] ∧ numL x = some v ∧ readP [110] ws = ([], [v], true) := by
  have hf : Lib.fields [110] = [kN] := by decide
  unfold readP at h ⊢
  rw [hf] at h ⊢
  obtain ⟨s, h1, h2⟩ := finP_yes h
  rw [h1]
  obtain ⟨w, q, v, e1, hv, h1⟩ := readK_n h1
  cases h1
  dsimp only at e1 h2
  subst e1 h2
  exact ⟨w, v, rfl, hv, rfl⟩
theorem read_ww {ws : List (List UInt8)} (h : (readP [119, 32, 119] ws).2.2 = true) : ∃ x y, ws = [x, y] ∧ readP [119, 32, 119] ws = ([x, y], [], true) := by
  have hf : Lib.fields [119, 32, 119] = [[119], [119]] := by decide
  unfold readP at h ⊢
  rw [hf] at h ⊢
  obtain ⟨s, h1, h2⟩ := finP_yes h
  rw [h1]
  obtain ⟨w, q, e1, -, h1⟩ := readK_w (by decide) (by decide) (by decide) (by decide) h1
  obtain ⟨w2, q2, e2, -, h1⟩ := readK_w (by decide) (by decide) (by decide) (by decide) h1
  cases h1
  dsimp only at e1 e2 h2
  subst e1 e2 h2
  exact ⟨w, w2, rfl, rfl⟩
theorem read_nnn {ws : List (List UInt8)} (h : (readP [110, 32, 110, 32, 110] ws).2.2 = true) : ∃ x y z a b c, ws = [x, y, z] ∧ numL x = some a ∧ numL y = some b ∧ numL z = some c ∧ readP [110, 32, 110, 32, 110] ws = ([], [a, b, c], true) := by
  have hf : Lib.fields [110, 32, 110, 32, 110] = [kN, kN, kN] := by decide
  unfold readP at h ⊢
  rw [hf] at h ⊢
  obtain ⟨s, h1, h2⟩ := finP_yes h
  rw [h1]
  obtain ⟨w, q, v, e1, hv, h1⟩ := readK_n h1
  obtain ⟨w2, q2, v2, e2, hv2, h1⟩ := readK_n h1
  obtain ⟨w3, q3, v3, e3, hv3, h1⟩ := readK_n h1
  cases h1
  dsimp only at e1 e2 e3 h2
  subst e1 e2 e3 h2
  exact ⟨w, w2, w3, v, v2, v3, rfl, hv, hv2, hv3, rfl⟩
def kTurn : List UInt8 := [116, 117, 114, 110, 124, 102, 105, 120, 101, 100]
theorem read_shape {ws : List (List UInt8)} (h : (readP ([110, 32, 110, 32, 110, 32] ++ kTurn) ws).2.2 = true) : ∃ x y z u a b c, ws = [x, y, z, u] ∧ numL x = some a ∧ numL y = some b ∧ numL z = some c ∧ readP ([110, 32, 110, 32, 110, 32] ++ kTurn) ws = ([u], [a, b, c], true) := by
  have hf : Lib.fields ([110, 32, 110, 32, 110, 32] ++ kTurn) = [kN, kN, kN, kTurn] := by decide
  unfold readP at h ⊢
  rw [hf] at h ⊢
  obtain ⟨s, h1, h2⟩ := finP_yes h
  rw [h1]
  obtain ⟨w, q, v, e1, hv, h1⟩ := readK_n h1
  obtain ⟨w2, q2, v2, e2, hv2, h1⟩ := readK_n h1
  obtain ⟨w3, q3, v3, e3, hv3, h1⟩ := readK_n h1
  obtain ⟨w4, q4, e4, -, h1⟩ := readK_w (by decide) (by decide) (by decide) (by decide) h1
  cases h1
  dsimp only at e1 e2 e3 e4 h2
  subst e1 e2 e3 e4 h2
  exact ⟨w, w2, w3, w4, v, v2, v3, rfl, hv, hv2, hv3, rfl⟩
/-- Moves are taken. -/
theorem post_group {s t : Ta} (h : takeG [[119], [119], [119], kN] s = some t) : ∃ x y z u v q, s.rest = x :: y :: z :: u :: q ∧ numL u = some v ∧ t = ⟨q, s.ws ++ [x, y, z], s.ns ++ [v]⟩ := by
  rw [takeG, takeP_w (by decide)] at h
  cases hr : s.rest with
  | nil => rw [hr] at h; cases h
  | cons x q =>
    rw [hr] at h
    dsimp only at h
    rw [if_pos (by rfl), takeG, takeP_w (by decide)] at h
    cases q with
    | nil => cases h
    | cons y q =>
      dsimp only at h
      rw [if_pos (by rfl), takeG, takeP_w (by decide)] at h
      cases q with
      | nil => cases h
      | cons z q =>
        dsimp only at h
        rw [if_pos (by rfl), takeG, takeP_n] at h
        cases q with
        | nil => cases h
        | cons u q =>
          dsimp only at h
          cases hv : numL u with
          | none => simp [hv] at h
          | some v =>
            simp only [hv, Option.isSome_some, if_true, Option.getD_some, takeG, Option.some.injEq] at h
            subst h
            exact ⟨x, y, z, u, v, q, rfl, hv, by simp⟩
theorem post_loop : ∀ (F L : Nat) (s t : Ta), loopK [[119], [119], [119], kN] true F L s = some t → (∃ m, t.ws.length = s.ws.length + 3 * m ∧ t.ns.length = s.ns.length + m ∧ s.rest.length = t.rest.length + 4 * m) ∧ ∀ x ∈ t.ws, x ∈ s.ws ∨ x ∈ s.rest
  | 0, _, s, t, h => by
    cases h
    exact ⟨⟨0, rfl, rfl, rfl⟩, fun x hx => .inl hx⟩
  | F + 1, L, s, t, h => by
    rw [loopK] at h
    split at h
    · cases hg : takeG [[119], [119], [119], kN] s with
      | none => rw [hg] at h; cases h
      | some s' =>
        rw [hg, Option.bind_some] at h
        obtain ⟨x, y, z, u, v, q, e1, hv, rfl⟩ := post_group hg
        obtain ⟨⟨m, h1, h2, h3⟩, h4⟩ := post_loop F (L - 1) _ t h
        refine ⟨⟨m + 1, ?_, ?_, ?_⟩, fun a ha => ?_⟩
        · rw [h1]; simp; omega
        · rw [h2]; simp; omega
        · rw [e1]; simp only [List.length_cons]; dsimp only at h3; omega
        · rcases h4 a ha with hm | hm
          · dsimp only at hm
            rcases List.mem_append.1 hm with hm | hm
            · exact .inl hm
            · right; rw [e1]; simp at hm ⊢; rcases hm with rfl | rfl | rfl <;> simp
          · dsimp only at hm
            right; rw [e1]; simp [hm]
    · cases h
      exact ⟨⟨0, rfl, rfl, rfl⟩, fun x hx => .inl hx⟩
theorem read_post {ws : List (List UInt8)} (h : (readP kPost ws).2.2 = true) : (readP kPost ws).1.length = 3 * (readP kPost ws).2.1.length ∧ ws.length = 4 * (readP kPost ws).2.1.length ∧ ∀ x ∈ (readP kPost ws).1, x ∈ ws := by
  have hf : Lib.fields kPost = [kPost] := by decide
  unfold readP at h ⊢
  rw [hf] at h ⊢
  obtain ⟨s, h1, h2⟩ := finP_yes h
  rw [h1]
  rw [readK, show grpK kPost = [[119], [119], [119], kN] by decide, show moreK kPost = true by decide, show leastK kPost = 1 by decide] at h1
  cases hl : loopK [[119], [119], [119], kN] true (1 + ws.length) 1 ⟨ws, [], []⟩ with
  | none => rw [hl] at h1; cases h1
  | some t =>
    rw [hl] at h1
    cases h1
    obtain ⟨⟨m, q1, q2, q3⟩, q4⟩ := post_loop _ _ _ _ hl
    rw [h2] at q3
    simp only [List.length_nil, Nat.zero_add] at q1 q2 q3
    refine ⟨by show s.ws.length = 3 * s.ns.length; omega, by show ws.length = 4 * s.ns.length; omega, fun x hx => ?_⟩
    rcases q4 x hx with hm | hm
    · cases hm
    · exact hm
theorem decFrom_bd : ∀ (l : List UInt8) (acc n : Nat), Lib.decFrom acc l = some n → n < (acc + 1) * 10 ^ l.length
  | [], acc, n, h => by
    simp only [Lib.decFrom, Option.some.injEq] at h
    subst h
    simp
  | c :: l, acc, n, h => by
    have h : (match Lib.digitVal c with | some d => Lib.decFrom (acc * 10 + d) l | none => none) = some n := h
    cases hd : Lib.digitVal c with
    | none => rw [hd] at h; cases h
    | some d =>
      rw [hd] at h
      have h1 := decFrom_bd l _ n h
      have h2 : d ≤ 9 := by
        unfold Lib.digitVal at hd
        split at hd
        · simp only [Option.some.injEq] at hd
          omega
        · cases hd
      rw [List.length_cons, Nat.pow_succ]
      have h3 : (acc * 10 + d + 1) * 10 ^ l.length ≤ ((acc + 1) * 10) * 10 ^ l.length := Nat.mul_le_mul_right _ (by omega)
      have h4 : (acc + 1) * (10 ^ l.length * 10) = ((acc + 1) * 10) * 10 ^ l.length := by
        rw [Nat.mul_comm (10 ^ l.length) 10, Nat.mul_assoc]
      omega
theorem decNat_bd {l : List UInt8} {n : Nat} (h : Lib.decNat l = some n) (hl : l.length ≤ 12) : n < 1000000000000 := by
  unfold Lib.decNat at h
  split at h
  · cases h
  · have h1 := decFrom_bd l 0 n h
    have h2 : 10 ^ l.length ≤ 10 ^ 12 := Nat.pow_le_pow_right (by decide) hl
    omega
theorem numL_bd {l : List UInt8} {v : Int} (h : numL l = some v) : -1000000000000 < v ∧ v < 1000000000000 := by
  unfold numL at h
  split at h
  · rename_i hc
    obtain ⟨h0, h1, h2, -⟩ := hc
    cases l with
    | nil => cases h
    | cons b r =>
      replace h : (if b == 45 then (Lib.decNat r).map (fun (m : Nat) => -(m : Int)) else if b == 43 then (Lib.decNat r).map (fun (m : Nat) => (m : Int)) else (Lib.decNat (b :: r)).map (fun (m : Nat) => (m : Int))) = some v := h
      split at h
      · rename_i hb
        have hb' : b = 45 := by simpa using hb
        subst hb'
        have hm : magL (45 :: r) = r := rfl
        rw [hm] at h2
        cases hd : Lib.decNat r with
        | none => rw [hd] at h; cases h
        | some n =>
          rw [hd] at h
          have := decNat_bd hd h2
          simp only [Option.map_some, Option.some.injEq] at h
          omega
      · rename_i hb
        have hm : magL (b :: r) = b :: r := by unfold magL; rw [if_neg]; simpa using hb
        rw [hm] at h2
        split at h
        · cases hd : Lib.decNat r with
          | none => rw [hd] at h; cases h
          | some n =>
            rw [hd] at h
            have := decNat_bd hd (by simp only [List.length_cons] at h2; omega)
            simp only [Option.map_some, Option.some.injEq] at h
            omega
        · cases hd : Lib.decNat (b :: r) with
          | none => rw [hd] at h; cases h
          | some n =>
            rw [hd] at h
            have := decNat_bd hd h2
            simp only [Option.map_some, Option.some.injEq] at h
            omega
  · cases h
end
section
section
open Go.RowKit Go.Shelf
/-- The types of a book's blocks. -/
def BkTy (ty : TypeId) : Prop := ty = 109 ∨ ty = 5 ∨ ty = 115 ∨ ty = 116 ∨ ty = 142
def OfT (W : World) (F G : Nat → Prop) : Prop := ∀ j, F j → ((∃ C ty, W.heap[j]? = some (.cells C ty (0, 0)) ∧ BkTy ty) ∨ ∃ es cl, W.heap[j]? = some (.map es cl)) → G j
theorem Dsk.subT {W : World} {F G : Nat → Prop} {a : Nat} {d : Dk} (h : Dsk W F a d) (k : OfT W F G) : Dsk W G a d := by
  obtain ⟨h1, h2, A, c, h3, h4, h5⟩ := h
  refine ⟨h1, k a h2 (.inl ⟨_, _, h3, .inl rfl⟩), A, c, h3, h4, fun g hg => k g (h5 g hg) (.inl ?_)⟩
  obtain ⟨C, hC⟩ := own_blk h4 hg
  exact ⟨C, _, hC, .inr (.inl rfl)⟩
theorem Ent.subT {W : World} {F G : Nat → Prop} {v : Value} {E : List (List Mv)} (h : Ent W F v E) (k : OfT W F G) : Ent W G v E := by
  obtain ⟨o, h1, h2, h3⟩ := h
  refine ⟨o, h1, fun g hg => ?_, fun i e he => ?_⟩
  · obtain ⟨C, hC⟩ := own_blk h1 hg
    exact k g (h2 g hg) (.inl ⟨C, _, hC, .inr (.inr (.inr (.inl rfl)))⟩)
  · obtain ⟨Ai, ci, e1, e2, e3⟩ := h3 i e he
    refine ⟨Ai, ci, e1, e2, fun g hg => ?_⟩
    obtain ⟨C, hC⟩ := own_blk e2 hg
    exact k g (e3 g hg) (.inl ⟨C, _, hC, .inr (.inr (.inr (.inr rfl)))⟩)
theorem Bd.subT {W : World} {F G : Nat → Prop} {a dk : Nat} {d : Dk} {b : Bk} (h : Bd W F a dk d b) (k : OfT W F G) : Bd W G a dk d b := by
  refine ⟨h.disk.subT k, ?_⟩
  obtain ⟨q0, A, c, mb, n, q1, q2, q3, q4, q5⟩ := h.book
  exact ⟨k a q0 (.inl ⟨_, _, q1, .inr (.inr (.inl rfl))⟩), A, c, mb, n, q1, q2.subT k, k mb q3 (.inr q5.map), q4, q5⟩
/-- A house's book alone. -/
def HsG (W : World) (F : Nat → Prop) (j : Nat) : Prop := F j ∧ ∀ C ty, W.heap[j]? = some (.cells C ty (0, 0)) → ty ≠ 56 ∧ ty ≠ 103
theorem Hs.book {W : World} {F : Nat → Prop} {h a dk : Nat} {d : Dk} {b : Bk} {sh : List Shp} (hh : Hs W F h a dk d b sh) : Bd W (HsG W F) a dk d b :=
  hh.bd.subT fun j hj hc => ⟨hj, fun C ty hC => by
    rcases hc with ⟨C2, ty2, h2, h3⟩ | ⟨es, cl, h2⟩
    · rw [hC] at h2
      simp only [Option.some.injEq, Obj.cells.injEq] at h2
      rw [h2.2.1]
      rcases h3 with rfl | rfl | rfl | rfl | rfl <;> decide
    · rw [hC] at h2
      simp at h2⟩
/-- Behind what the book alone has done. -/
theorem Hs.after {W w : World} {F : Nat → Prop} {h a dk : Nat} {d d' : Dk} {b b' : Bk} {sh : List Shp} (hh : Hs W F h a dk d b sh) (hb : Bd w (HsG W F) a dk d' b') (k : Kx (HsG W F) W w) : Hs w F h a dk d' b' sh := by
  obtain ⟨C, h1, h2, h3, h4, A, c, h5, h6, h7⟩ := hh.cells
  refine ⟨hb.sub fun j hj _ => hj.1, hh.own, C, (k.block _ (Array.getElem?_eq_some_iff.1 h1).1 (fun hn => (hn.2 _ _ h1).1 rfl)).trans h1, h2, h3, h4, A, c, h5, own_heap h6 (fun g hg => ?_), h7⟩
  obtain ⟨D, hD⟩ := own_blk h6 hg
  exact k.block g (Array.getElem?_eq_some_iff.1 hD).1 (fun hn => (hn.2 _ _ hD).2 rfl)
theorem up_G {W : World} {F : Nat → Prop} (h : Up W F) : Up W (HsG W F) := fun j hj => ⟨h j hj, fun C ty hC => by
  have := (Array.getElem?_eq_some_iff.1 hC).1
  omega⟩
end
end
section
section
open Go.RowKit Go.Shelf
/-- An answer whose text is t. -/
def AnsT (t : List UInt8) (v : Value) (W : World) : Prop :=
  (∃ c, v = .iface 61 (.int .i64 c) ∧ i64B c ∧ t = bangL c) ∨
  (∃ A n cp L, v = .iface 137 (.slice A n cp) ∧ SlE strE 1 W A n L ∧ n ≤ 1000000 ∧ n ≤ cp ∧ (linesL (L.map (·.data.toList))).length ≤ 140737488355328 ∧ t = linesL (L.map (·.data.toList)))
theorem AnsT.ansW {bg : Nat} {t : List UInt8} {v : Value} {W : World} {Q : List UInt8 → World → Prop} (h : AnsT t v W) (hg : Gl bg W) (hQ : ∀ W', Below W.heap.size W W' → Q t W') : AnsW bg Q v W := by
  rcases h with ⟨c, rfl, h1, rfl⟩ | ⟨A, n, cp, L, rfl, h1, h2, h3, h4, rfl⟩
  · exact .inl ⟨c, rfl, h1, hg, hQ⟩
  · exact .inr ⟨A, n, cp, L, rfl, h1, h2, h3, h4, hQ⟩
/-- What either answers. -/
def eitherT (e : Int) (t : List UInt8) : List UInt8 := if e = 0 then t else bangL e
def entW : List UInt8 := [101, 110, 116, 114, 121]
/-- The reply to an entry. -/
def postT (P : Dk × Bk × Int) : List UInt8 := eitherT P.2.2 (linesL [rowL entW [(P.2.1.E.length : Int) - 1]])
theorem post_code (d : Dk) (b : Bk) (l : List Mv) : i64B (postB d b l).2.2 := by
  unfold postB i64B
  have h1 := would_bd b l
  have h2 := app_cases d (encE l)
  have h3 := sync_cases (d.app (encE l)).1
  split
  · dsimp only; omega
  · split
    · dsimp only; omega
    · split
      · dsimp only; omega
      · split
        · dsimp only; omega
        · dsimp only; omega
/-- One line of one number, said by either. -/
theorem ans_row {W : World} {b : Nat} {wd : List UInt8} {x e : Int} (he : i64B e) (hx : i64B x) (hw : wd.length ≤ 1000000) (hX : SlE strE 1 W (some ⟨b, 0, none⟩) 1 [⟨(rowL wd [x]).toArray⟩]) :
    AnsT (eitherT e (linesL [rowL wd [x]])) (if e ≠ 0 then .iface 61 (.int .i64 e) else .iface 137 (.slice (some ⟨b, 0, none⟩) 1 1)) W := by
  unfold eitherT
  by_cases h0 : e = 0
  · rw [if_pos h0, if_neg (by simp [h0])]
    refine .inr ⟨_, 1, 1, _, rfl, hX, by omega, by omega, ?_, rfl⟩
    have := Lib.itoa_length_le x hx.1 hx.2
    simp [linesL, rowL]
    omega
  · rw [if_neg h0, if_pos h0]
    exact .inl ⟨e, rfl, he, rfl⟩
set_option maxRecDepth 8000 in
set_option maxHeartbeats 4000000 in
theorem posted_any (w : World) (F : Nat → Prop) (h a dk : Nat) (d : Dk) (b : Bk) (sh : List Shp) (hh : Hs w F h a dk d b sh) (hi : Inv d b) (hu : Up w F) (A : Option Addr) (n c : Nat) (l : List Mv) (hX : w.ownsRow 0 142 4 (.slice A n c) n (l.flatMap mvE)) (hl : n = l.length) (hs : mvS l) (hn : n ≤ 9223372036854775807) (bg : Nat) (hg : Gl bg w) (hb : bg ≤ w.heap.size) (hF : ∀ j, F j → bg ≤ j) :
    Calls Tryz.prog 153 #[.pointer (some ⟨h, 0, none⟩), .slice A n c] w fun e w' => ∃ v, e = .returned v ∧ AnsT (postT (postB d b l)) v w' ∧ Hs w' F h a dk (postB d b l).1 (postB d b l).2.1 sh ∧ Kx F w w' := by
  refine calls_cps ?_
  intro R hR
  obtain ⟨A0, c0, -, -, q14, -⟩ := hh.at
  have HP := Lib.hid (post_any w (HsG w F) a dk d b A n c l hh.book hi (up_G hu) hX hl hs hn)
  have HI := Lib.hid (hi.post l)
  have HC := Lib.hid (post_code d b l)
  have HH := Lib.hid hh
  have HG := Lib.hid hg
  obtain ⟨P, hP⟩ : ∃ P, postB d b l = P := ⟨_, rfl⟩
  rw [hP] at HP HI HC hR
  have Hr := Lib.hid hR.out
  clear hR hP hh hi hu hX hl hs hg
  go_enter Tryz.func153, Tryz.ntmps153
  go_wp2_with fail
  refine HP.out.mono ?_
  rintro e w1 ⟨rfl, hb1, hk1⟩
  have hh1 := HH.out.after hb1 hk1
  obtain ⟨A1, c1, -, -, p14, -⟩ := hh1.at
  obtain ⟨N, hN⟩ : ∃ N, P.2.1.E.length = N := ⟨_, rfl⟩
  have HCn := Lib.hid (count_any w1 F a dk _ hh1.bd.book)
  rw [hN] at HCn
  have hN2 : N ≤ 9362 := by rw [← hN]; exact HI.out.few
  have HN := Lib.hid hN
  have HH1 := Lib.hid hh1
  have HK1 := Lib.hid (hk1.mono (T := F) fun j hj => hj.1)
  have HG1 := Lib.hid (HG.out.kx HK1.out hF hb)
  have hsz := hk1.size
  have Hsz := Lib.hid hsz
  clear hb1 hk1 hh1 hN hsz q14
  go_wp2_with fail
  refine HCn.out.mono ?_
  rintro e w1' ⟨rfl, rfl⟩
  go_wp2_with fail
  have HB2 := Lib.hid (below_new w1 (.cells #[.int .i64 ((N : Int) - 1)] 3))
  have HRow := Lib.hid (row_any ⟨entW.toArray⟩ (some ⟨w1.heap.size, 0, none⟩) 1 1 [(N : Int) - 1] (w1.alloc (.cells #[.int .i64 ((N : Int) - 1)] 3)) ⟨rfl, by have h := Sl.newAt w1 #[.int .i64 ((N : Int) - 1)] 3 1 1 rfl rfl; exact h⟩ (by omega) (by decide) (fun x hx => by rw [List.mem_singleton] at hx; subst hx; exact ⟨by omega, by omega⟩) bg (HG1.out.on (HB2.out.mono (by have := Hsz.out; omega))) (by have := Hsz.out; simp; omega))
  refine HRow.out.mono ?_
  rintro e w3 ⟨rfl, hb3⟩
  have HB3 := Lib.hid (HB2.out.trans (hb3.mono HB2.out.size))
  clear hb3
  go_wp2_with fail
  have hx4 := str_new w3 [⟨(rowL entW [(N : Int) - 1]).toArray⟩]
  have HA := Lib.hid (ans_row (wd := entW) HC.out (x := (N : Int) - 1) ⟨by omega, by omega⟩ (by decide) hx4)
  have HE := Lib.hid (either_any P.2.2 (some ⟨w3.heap.size, 0, none⟩) 1 1 (w3.alloc (.cells #[.string ⟨(rowL entW [(N : Int) - 1]).toArray⟩] 9)))
  obtain ⟨V, hV⟩ : ∃ V, (if P.2.2 ≠ 0 then Value.iface 61 (.int .i64 P.2.2) else .iface 137 (.slice (some ⟨w3.heap.size, 0, none⟩) 1 1)) = V := ⟨_, rfl⟩
  rw [hV] at HE HA
  refine HE.out.mono ?_
  rintro e w4 ⟨rfl, rfl⟩
  have hb4 : Below w1.heap.size w1 (w3.alloc (.cells #[.string ⟨(rowL entW [(N : Int) - 1]).toArray⟩] 9)) := HB3.out.trans ((below_new w3 _).mono HB3.out.size)
  have hfin := Hr.out _ _ ⟨_, rfl, by unfold postT; rw [HN.out]; exact HA.out, HH1.out.below hb4, HK1.out.below hb4⟩
  have HFin := Lib.hid hfin
  clear Hr hx4 hb4 hfin hV
  go_wp2
  exact HFin.out
end
end
end Go.Proofs.YtndcijkgaadpgaaGreatDoor
