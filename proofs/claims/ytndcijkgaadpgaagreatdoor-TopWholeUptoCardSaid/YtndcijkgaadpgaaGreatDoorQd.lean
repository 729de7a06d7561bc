/-
  Plain: a printed entry is read back; the quantities of an item add up to 0; lots in order are the only ones. The lines of a house whose disk may go down: those of the stock, arm, restart; conditions: few small entries, the tables lie below a block. The lines arm and restart; a printed entry on another house; Bang; conditions: those that each theorem states.
-/
import Derived.Test.YtndcijkgaadpgaaGreatDoorUz
import Derived.Test.YtndcijkgaadpgaaGreatDoorUs
import Derived.Test.YtndcijkgaadpgaaGreatDoorQc
import Derived.Test.YtndcijkgaadpgaaGreatDoorVc
namespace Go.Proofs.YtndcijkgaadpgaaGreatDoor
section
section
open Go.RowKit Go.Shelf
/-! a printed entry -/
def wdM (m : Mv) : List (List UInt8) := [m.f.data.toList, m.t.data.toList, m.i.data.toList, Lib.itoa m.q]
def wdE (e : List Mv) : List (List UInt8) := e.flatMap wdM
def nmE (e : List Mv) : List (List UInt8) := e.flatMap fun m => [m.f.data.toList, m.t.data.toList, m.i.data.toList]
def joinW (ws : List (List UInt8)) : List UInt8 := ws.flatMap fun w => 32 :: w
theorem spl_join : ∀ (ws : List (List UInt8)) (w : List UInt8), (∀ c ∈ w, c ≠ 32) → (∀ x ∈ ws, ∀ c ∈ x, c ≠ 32) → spl (w ++ joinW ws) = w :: ws
  | [], w, h, _ => by
    show spl (w ++ []) = [w]
    rw [List.append_nil]
    exact spl_last w h
  | v :: r, w, h, hs => by
    show spl (w ++ (32 :: v ++ joinW r)) = _
    rw [List.cons_append, spl_word w _ h, spl_join r v (hs v List.mem_cons_self) (fun x hx => hs x (List.mem_cons_of_mem _ hx))]
theorem lineL_join (e : List Mv) : lineL e = postW ++ joinW (wdE e) := by
  have h : mvL = fun x => (wdM x).flatMap fun w => 32 :: w := funext fun m => by simp [mvL, wdM]
  unfold lineL joinW wdE
  rw [List.flatMap_assoc, h]
  rfl
theorem takeG_post (x y z u : List UInt8) (r : List (List UInt8)) (a : List (List UInt8)) (n : List Int) {v : Int} (hv : numL u = some v) : takeG [[119], [119], [119], kN] ⟨x :: y :: z :: u :: r, a, n⟩ = some ⟨r, a ++ [x, y, z], n ++ [v]⟩ := by
  have o : ∀ w, ofK [119] w = true := fun w => rfl
  rw [takeG, takeP_w (by decide)]
  dsimp only
  rw [if_pos (o _), takeG, takeP_w (by decide)]
  dsimp only
  rw [if_pos (o _), takeG, takeP_w (by decide)]
  dsimp only
  rw [if_pos (o _), takeG, takeP_n]
  dsimp only
  simp [hv, takeG]
theorem loop_post : ∀ (e : List Mv) (F L : Nat) (a : List (List UInt8)) (n : List Int), (∀ m ∈ e, numL (Lib.itoa m.q) = some m.q) → L ≤ e.length → (wdE e).length ≤ F → loopK [[119], [119], [119], kN] true F L ⟨wdE e, a, n⟩ = some ⟨[], a ++ nmE e, n ++ e.map (·.q)⟩
  | [], F, L, a, n, _, hL, _ => by
    have h0 : L = 0 := by simpa using hL
    subst h0
    rw [loopK_end (by simp [wdE])]
    simp [wdE, nmE]
  | m :: e, F, L, a, n, hq, hL, hF => by
    have hl : (wdE (m :: e)).length = (wdE e).length + 4 := by
      unfold wdE
      rw [List.flatMap_cons, List.length_append]
      simp [wdM]
      omega
    match F, hF with
    | 0, hF => omega
    | F + 1, hF =>
      have hr : wdE (m :: e) = m.f.data.toList :: m.t.data.toList :: m.i.data.toList :: Lib.itoa m.q :: wdE e := rfl
      rw [loopK, if_pos (.inr ⟨rfl, by dsimp only; rw [hl]; omega⟩), hr, takeG_post _ _ _ _ _ _ _ (hq m List.mem_cons_self), Option.bind_some]
      rw [loop_post e F (L - 1) _ _ (fun x hx => hq x (List.mem_cons_of_mem _ hx)) (by rw [List.length_cons] at hL; omega) (by omega)]
      simp [nmE]
theorem read_entry {e : List Mv} (hq : ∀ m ∈ e, numL (Lib.itoa m.q) = some m.q) (h1 : 1 ≤ e.length) : readP kPost (wdE e) = (nmE e, e.map (·.q), true) := by
  have hf : Lib.fields kPost = [kPost] := by decide
  unfold readP
  rw [hf, readK, show grpK kPost = [[119], [119], [119], kN] by decide, show moreK kPost = true by decide, show leastK kPost = 1 by decide, loop_post e _ _ _ _ hq h1 (by dsimp only; omega)]
  simp [readK, finP]
theorem mvs_back : ∀ (e : List Mv) (p : List (List UInt8)) (k : Nat), p.length = 3 * k → mvsFrom (p ++ nmE e) k (e.map (·.q)) = e
  | [], _, _, _ => rfl
  | m :: e, p, k, hp => by
    rw [List.map_cons, mvsFrom]
    have hn : nmE (m :: e) = [m.f.data.toList, m.t.data.toList, m.i.data.toList] ++ nmE e := rfl
    have hh : mvAt (p ++ nmE (m :: e)) k m.q = m := by
      unfold mvAt
      rw [hn]
      have g : ∀ i, i < 3 → (p ++ ([m.f.data.toList, m.t.data.toList, m.i.data.toList] ++ nmE e)).getD (3 * k + i) [] = [m.f.data.toList, m.t.data.toList, m.i.data.toList].getD i [] := fun i hi => by
        rw [List.getD_eq_getElem?_getD, List.getElem?_append_right (by omega), hp, show 3 * k + i - 3 * k = i by omega, List.getElem?_append_left (by simpa using hi), ← List.getD_eq_getElem?_getD]
      have g0 := g 0 (by omega)
      rw [Nat.add_zero] at g0
      rw [g0, g 1 (by omega), g 2 (by omega)]
      rfl
    rw [hh]
    congr 1
    have h2 := mvs_back e (p ++ [m.f.data.toList, m.t.data.toList, m.i.data.toList]) (k + 1) (by rw [List.length_append, hp]; simp; omega)
    rw [hn, ← List.append_assoc]
    exact h2
theorem mvsOf_back (e : List Mv) : mvsOf (nmE e) (e.map (·.q)) = e := by
  have h := mvs_back e [] 0 rfl
  exact h
/-! sums -/
open Classical in
theorem sum_pick {P : List Pl} (h : P.Nodup) (p : Pl) (q : Int) (x : ByteArray) : ((P.filter fun z => decide (z.2 = x)).map fun z => if p = z then q else 0).sum = if p ∈ P ∧ p.2 = x then q else 0 := by
  induction P with
  | nil => simp
  | cons a P ih =>
    rw [List.nodup_cons] at h
    have h1 := ih h.2
    rw [List.filter_cons]
    by_cases hx : a.2 = x
    · rw [if_pos (decide_eq_true hx), List.map_cons, List.sum_cons, h1]
      by_cases hp : p = a
      · subst hp
        rw [if_pos rfl, if_neg (fun hn => h.1 hn.1), if_pos ⟨List.mem_cons_self, hx⟩]
        omega
      · rw [if_neg hp]
        by_cases hm : p ∈ P ∧ p.2 = x
        · rw [if_pos hm, if_pos ⟨List.mem_cons_of_mem _ hm.1, hm.2⟩]
          omega
        · rw [if_neg hm, if_neg (fun hn => hm ⟨by rcases List.mem_cons.1 hn.1 with h' | h'; (· exact absurd h' hp); exact h', hn.2⟩)]
          omega
    · rw [if_neg (by simpa using hx), h1]
      by_cases hm : p ∈ P ∧ p.2 = x
      · rw [if_pos hm, if_pos ⟨List.mem_cons_of_mem _ hm.1, hm.2⟩]
      · rw [if_neg hm, if_neg (fun hn => hm ⟨by
          rcases List.mem_cons.1 hn.1 with h' | h'
          · exact absurd (h' ▸ hn.2) hx
          · exact h', hn.2⟩)]
theorem sum_sub {α : Type} (l : List α) (f g : α → Int) : (l.map fun z => f z - g z).sum = (l.map f).sum - (l.map g).sum := by
  induction l with
  | nil => rfl
  | cons a l ih => rw [List.map_cons, List.map_cons, List.map_cons, List.sum_cons, List.sum_cons, List.sum_cons, ih]; omega
theorem sum_add {α : Type} (l : List α) (f g : α → Int) : (l.map fun z => f z + g z).sum = (l.map f).sum + (l.map g).sum := by
  induction l with
  | nil => rfl
  | cons a l ih => rw [List.map_cons, List.map_cons, List.map_cons, List.sum_cons, List.sum_cons, List.sum_cons, ih]; omega
theorem sum_zero {α : Type} (l : List α) : (l.map fun _ => (0 : Int)).sum = 0 := by
  induction l with
  | nil => rfl
  | cons a l ih => rw [List.map_cons, List.sum_cons, ih]; rfl
theorem sum_en {P : List Pl} (h : P.Nodup) (x : ByteArray) : ∀ (e : List Mv), (∀ p ∈ plcs e, p ∈ P) → ((P.filter fun z => decide (z.2 = x)).map fun z => enA e z).sum = 0
  | [], _ => sum_zero _
  | m :: e, hP => by
    have h1 := sum_en h x e (fun p hp => hP p (by rw [plcs_cons]; exact List.mem_cons_of_mem _ (List.mem_cons_of_mem _ hp)))
    have hf : (m.f, m.i) ∈ P := hP _ (by rw [plcs_cons]; simp)
    have ht : (m.t, m.i) ∈ P := hP _ (by rw [plcs_cons]; simp)
    have e1 : (fun z => enA (m :: e) z) = fun z => ((if (m.t, m.i) = z then m.q else 0) - (if (m.f, m.i) = z then m.q else 0)) + enA e z := by
      funext z
      rw [enA_cons]
      rfl
    rw [e1, sum_add, h1, sum_sub, sum_pick h, sum_pick h]
    by_cases hx : m.i = x
    · rw [if_pos ⟨ht, hx⟩, if_pos ⟨hf, hx⟩]
      omega
    · rw [if_neg (fun hn => hx hn.2), if_neg (fun hn => hx hn.2)]
      rfl
theorem sum_bal {P : List Pl} (h : P.Nodup) (x : ByteArray) : ∀ (E : List (List Mv)), (∀ p ∈ E.flatMap plcs, p ∈ P) → ((P.filter fun z => decide (z.2 = x)).map fun z => balE E z).sum = 0
  | [], _ => sum_zero _
  | e :: E, hP => by
    have e1 : (fun z => balE (e :: E) z) = fun z => enA e z + balE E z := by
      funext z
      unfold balE
      rw [List.map_cons, List.sum_cons]
    rw [e1, sum_add, sum_en h x e (fun p hp => hP p (by rw [List.flatMap_cons]; exact List.mem_append_left _ hp)), sum_bal h x E (fun p hp => hP p (by rw [List.flatMap_cons]; exact List.mem_append_right _ hp))]
    rfl
theorem bal_in {E : List (List Mv)} {p : Pl} (h : balE E p ≠ 0) : p ∈ E.flatMap plcs := by
  induction E with
  | nil => exact absurd rfl h
  | cons e E ih =>
    have e1 : balE (e :: E) p = enA e p + balE E p := by
      unfold balE
      rw [List.map_cons, List.sum_cons]
    rw [List.flatMap_cons]
    by_cases he : enA e p = 0
    · exact List.mem_append_right _ (ih (fun h0 => h (by rw [e1, he, h0]; rfl)))
    · exact List.mem_append_left _ (enA_on he)
theorem once_of (l : List Pl) : ∃ P : List Pl, P.Nodup ∧ ∀ p, p ∈ l ↔ p ∈ P := by
  induction l with
  | nil => exact ⟨[], List.nodup_nil, fun p => Iff.rfl⟩
  | cons a l ih =>
    obtain ⟨P, h1, h2⟩ := ih
    by_cases ha : a ∈ P
    · refine ⟨P, h1, fun p => ?_⟩
      rw [List.mem_cons, h2 p]
      exact ⟨fun h => h.elim (fun e => e ▸ ha) id, .inr⟩
    · refine ⟨a :: P, List.nodup_cons.2 ⟨ha, h1⟩, fun p => ?_⟩
      rw [List.mem_cons, List.mem_cons, h2 p]
theorem perm_sum {l k : List Int} (h : l.Perm k) : l.sum = k.sum := by
  induction h with
  | nil => rfl
  | cons x _ ih => rw [List.sum_cons, List.sum_cons, ih]
  | swap x y l => rw [List.sum_cons, List.sum_cons, List.sum_cons, List.sum_cons]; omega
  | trans _ _ h1 h2 => rw [h1, h2]
/-- The quantities of an item add up to 0. -/
theorem lots_sum {E : List (List Mv)} {L : List Lot} (h : LotsOf (balE E) L) (hE : ∀ e ∈ E, enOk e = true) (x : ByteArray) : ((L.filter fun z => decide (z.2.1 = x)).map fun z => z.2.2).sum = 0 := by
  classical
  obtain ⟨P, hnd, hin⟩ := once_of (E.flatMap plcs)
  have h0 := sum_bal hnd x E (fun p hp => (hin p).1 hp)
  have hz : ∀ p ∈ P, PlZ p := fun p hp => by
    obtain ⟨e, he, hpe⟩ := List.mem_flatMap.1 ((hin p).2 hp)
    exact plcs_z (mvZ_of (hE e he)) p hpe
  have hperm : (P.filter fun z => decide (balE E z ≠ 0)).Perm (L.map fun z => (z.1, z.2.1)) := by
    refine (List.perm_ext_iff_of_nodup (hnd.filter _) h.once).2 fun p => ⟨fun hp => ?_, fun hp => ?_⟩
    · rw [List.mem_filter, decide_eq_true_eq] at hp
      exact List.mem_map.2 ⟨_, h.every p (hz p hp.1) hp.2, rfl⟩
    · obtain ⟨z, hz1, rfl⟩ := List.mem_map.1 hp
      obtain ⟨-, h2, h3⟩ := h.all z hz1
      rw [List.mem_filter, decide_eq_true_eq]
      exact ⟨(hin _).1 (bal_in (by rw [← h2]; exact h3)), by rw [← h2]; exact h3⟩
  have e1 : (L.filter fun z => decide (z.2.1 = x)).map (fun z => z.2.2) = (((L.map fun z => (z.1, z.2.1)).filter fun z => decide (z.2 = x)).map fun z => balE E z) := by
    rw [List.filter_map, List.map_map]
    refine List.map_congr_left fun z hz1 => ?_
    exact (h.all z (List.mem_filter.1 hz1).1).2.1
  rw [e1]
  have e2 := perm_sum ((hperm.filter fun (z : Pl) => decide (z.2 = x)).map fun z => balE E z)
  rw [← e2]
  have go : ∀ (Q : List Pl), (((Q.filter fun z => decide (balE E z ≠ 0)).filter fun z => decide (z.2 = x)).map fun z => balE E z).sum = ((Q.filter fun z => decide (z.2 = x)).map fun z => balE E z).sum := by
    intro Q
    induction Q with
    | nil => rfl
    | cons a Q ih =>
      rw [List.filter_cons, List.filter_cons]
      by_cases hb : balE E a = 0
      · rw [if_neg (by simp [hb]), ih]
        by_cases hx : a.2 = x
        · rw [if_pos (by simpa using hx), List.map_cons, List.sum_cons, hb]
          omega
        · rw [if_neg (by simpa using hx)]
      · rw [if_pos (by simpa using hb), List.filter_cons]
        by_cases hx : a.2 = x
        · rw [if_pos (by simpa using hx), if_pos (by simpa using hx), List.map_cons, List.map_cons, List.sum_cons, List.sum_cons, ih]
        · rw [if_neg (by simpa using hx), if_neg (by simpa using hx), ih]
  rw [go P]
  exact h0
/-! the only lots -/
theorem lots_uniq {f : Pl → Int} {L K : List Lot} (h : LotsOf f L) (k : LotsOf f K) (hs : L.Pairwise (fun x y => cfL x y ≤ 0)) (ks : K.Pairwise (fun x y => cfL x y ≤ 0)) : L = K := by
  have hm : ∀ {A B : List Lot}, LotsOf f A → LotsOf f B → ∀ z ∈ A, z ∈ B := fun {A B} hA hB z hz => by
    obtain ⟨h1, h2, h3⟩ := hA.all z hz
    have := hB.every (z.1, z.2.1) h1 (by rw [← h2]; exact h3)
    rw [← h2] at this
    exact this
  have nd : ∀ {A : List Lot}, LotsOf f A → A.Nodup := fun {A} hA => (List.pairwise_map.1 hA.once).imp (fun hne e => hne (by rw [e]))
  have hp : L.Perm K := (List.perm_ext_iff_of_nodup (nd h) (nd k)).2 fun z => ⟨hm h k z, hm k h z⟩
  refine hp.eq_of_pairwise (fun a b ha hb h1 h2 => ?_) hs ks
  have h0 : cfL a b = 0 := by
    have := cf_neg a b
    omega
  have hpl := cf_zero a b h0
  obtain ⟨-, q1, -⟩ := h.all a ha
  obtain ⟨-, q2, -⟩ := k.all b hb
  obtain ⟨a1, a2, a3⟩ := a
  obtain ⟨b1, b2, b3⟩ := b
  dsimp only at hpl q1 q2
  rw [Prod.mk.injEq] at hpl
  obtain ⟨rfl, rfl⟩ := hpl
  rw [q1, q2]
end
end
section
section
open Go.RowKit Go.Shelf
/-- A house whose disk may go down, with a book of at most m small entries. -/
def GSt (W : World) (F : Nat → Prop) (h : Nat) (d : Dk) (b : Bk) (m : Nat) : Prop := ∃ a dk sh, Hs W F h a dk d b sh ∧ sh.length ≤ 16 ∧ Inv d b ∧ SmB d b m
theorem GSt.below {W w : World} {F : Nat → Prop} {h : Nat} {d : Dk} {b : Bk} {m : Nat} (hh : GSt W F h d b m) (k : Below W.heap.size W w) : GSt w F h d b m := by
  obtain ⟨a, dk, sh, h1, h2, h3⟩ := hh
  exact ⟨a, dk, sh, h1.below k, h2, h3⟩
theorem GSt.mono {W : World} {F : Nat → Prop} {h : Nat} {d : Dk} {b : Bk} {m n : Nat} (hh : GSt W F h d b m) (k : m ≤ n) : GSt W F h d b n := by
  obtain ⟨a, dk, sh, h1, h2, h3, h4⟩ := hh
  exact ⟨a, dk, sh, h1, h2, h3, h4.mono k⟩
theorem GSt.made {W : World} {F : Nat → Prop} {h : Nat} {d : Dk} {b : Bk} {m : Nat} (hh : GSt W F h d b m) : W.cell? ⟨h, 0, none⟩ = some (.bool true) ∧ h < W.heap.size := by
  obtain ⟨a, dk, sh, h1, -⟩ := hh
  obtain ⟨A, c, q0, -⟩ := h1.at
  obtain ⟨C, h4, _⟩ := h1.cells
  exact ⟨q0, (Array.getElem?_eq_some_iff.1 h4).1⟩
/-- What a line leaves. -/
def GQ (w : World) (F : Nat → Prop) (h m : Nat) (d : Dk) (b : Bk) : List UInt8 → World → Prop := fun t W => ∃ d' b', Stp d b t d' b' ∧ GSt W F h d' b' m ∧ Kx F w W
theorem gq_no {w : World} {F : Nat → Prop} {h m m' : Nat} {d : Dk} {b : Bk} {t : List UInt8} (hh : GSt w F h d b m) (hm : m ≤ m') (hq : Stp d b t d b) : ∀ W, Below w.heap.size w W → GQ w F h m' d b t W :=
  fun _ hW => ⟨d, b, hq, (hh.below hW).mono hm, kx_of_below hW⟩
theorem gq_ans {w W w' : World} {F : Nat → Prop} {h m a dk : Nat} {d d' : Dk} {b b' : Bk} {t : List UInt8} {v : Value} {sh : List Shp} {bg : Nat} (hg : Gl bg w) (hb : bg ≤ w.heap.size) (hF : ∀ j, F j → bg ≤ j) (hW : Below w.heap.size w W) (hk : Kx F W w') (ht : AnsT t v w') (hh : Hs w' F h a dk d' b' sh) (hs : sh.length ≤ 16) (hi : Inv d b) (hm : SmB d b m) (hq : Stp d b t d' b') : AnsW bg (GQ w F h (m + 1) d b) v w' := by
  have hk2 : Kx F w w' := (kx_of_below hW).trans hk (fun _ _ h => h)
  obtain ⟨i1, i2⟩ := stp_inv hi hm hq
  exact ht.ansW (hg.kx hk2 hF hb) (fun W' hW' => ⟨d', b', hq, ⟨a, dk, sh, hh.below hW', hs, i1, i2⟩, hk2.below hW'⟩)
theorem stp_two (d : Dk) (b : Bk) : Stp d b (bangL 2) d b := stp_bang (by decide +kernel)
theorem stp_post {d : Dk} {b : Bk} {l : List Mv} (h : l.length ≤ 16) : Stp d b (postT (postB d b l)) (postB d b l).1 (postB d b l).2.1 := .inr ⟨l, h, rfl, rfl, rfl⟩
theorem ent_head {c : UInt8} {t : List UInt8} (h : c ≠ 101) : EntB (c :: t) = false := by
  unfold EntB
  rw [Bool.and_eq_false_iff]
  right
  rw [decide_eq_false_iff_not]
  intro e
  rw [List.take_succ_cons, List.cons.injEq] at e
  exact h e.1
theorem stp_head {d : Dk} {b : Bk} {c : UInt8} {t : List UInt8} (h : c ≠ 101) (h2 : c ≠ 33) : Stp d b (c :: t) d b := .inl ⟨rfl, rfl, ent_head h, fun e => by
  unfold bangL at e
  rw [List.cons.injEq] at e
  exact h2 e.1⟩
theorem stp_nil (d : Dk) (b : Bk) : Stp d b [] d b := .inl ⟨rfl, rfl, rfl, fun e => by unfold bangL at e; cases e⟩
section
variable (w : World) (F : Nat → Prop) (h : Nat) (d : Dk) (b : Bk) (m : Nat) (hh : GSt w F h d b m) (hu : Up w F) (s : ByteArray) (hs : s.size < 4294967281) (ws : List (List UInt8)) (hw : [] ∉ spl (fstL s.data.toList)) (hlen : (fstL s.data.toList).length ≤ 4096) (bg : Nat) (hg : Gl bg w) (hb : bg ≤ w.heap.size) (hF : ∀ j, F j → bg ≤ j)
include hh hu hs hw hlen hg hb hF
theorem gline_post (hsp : spl (fstL s.data.toList) = postW :: ws) (hws : ws.length ≤ 32) :
    Calls Tryz.prog 7 #[.pointer (some ⟨h, 0, none⟩), .string s] w fun e w' => ∃ t, e = .returned (.string ⟨t.toArray⟩) ∧ GQ w F h (m + 1) d b t w' := by
  obtain ⟨q0, hl⟩ := hh.made
  refine cline_any w h q0 hl s hs 112 [111, 115, 116] kPost 108 ws hsp hw hlen (by decide) (by decide) 32 rfl (by decide) (by decide) (by decide) (by decide) (by decide) (enters_of Tryz.func108 (by kernel_rfl) rfl) bg hg hb (GQ w F h (m + 1) d b) (fun hz => gq_no hh (Nat.le_succ _) (stp_two d b)) ?_
  intro hz W A1 c1 n1 A2 c2 n2 hW hA
  obtain ⟨a, dk, sh, h1, h2, h3, h4⟩ := hh
  obtain ⟨r1, r2, r3⟩ := read_post hz
  have hl8 : (readP kPost ws).2.1.length ≤ 8 := by omega
  refine (hpost_any W F h a dk _ b sh (h1.below hW) h3 (hu.below hW) w.heap.size A1 n1 c1 A2 n2 c2 _ _ hA r1 (by omega) (fun x hx => ?_) bg (hg.on (hW.mono hb)) (Nat.le_trans hb hW.size) hF).mono ?_
  · have h5 := spl_sub (l := fstL s.data.toList) (w := x) (by rw [hsp]; exact List.mem_cons_of_mem _ (r3 x hx))
    omega
  · rintro e w' ⟨v, rfl, q1, q2, q3⟩
    exact ⟨v, rfl, gq_ans hg hb hF hW q3 q1 q2 h2 h3 h4 (stp_post (by rw [mvsOf_len]; omega))⟩
theorem gline_rev (hsp : spl (fstL s.data.toList) = revW :: ws) :
    Calls Tryz.prog 7 #[.pointer (some ⟨h, 0, none⟩), .string s] w fun e w' => ∃ t, e = .returned (.string ⟨t.toArray⟩) ∧ GQ w F h (m + 1) d b t w' := by
  obtain ⟨q0, hl⟩ := hh.made
  refine cline_any w h q0 hl s hs 114 [101, 118, 101, 114, 115, 101] kN 109 ws hsp hw hlen (by decide) (by decide) 33 rfl (by decide) (by decide) (by decide) (by decide) (by decide) (enters_of Tryz.func109 (by kernel_rfl) rfl) bg hg hb (GQ w F h (m + 1) d b) (fun hz => gq_no hh (Nat.le_succ _) (stp_two d b)) ?_
  intro hz W A1 c1 n1 A2 c2 n2 hW hA
  obtain ⟨a, dk, sh, h1, h2, h3, h4⟩ := hh
  obtain ⟨x, v, rfl, hv, hr⟩ := read_n hz
  have hA' : ArgsW w.heap.size W A1 n1 c1 A2 n2 c2 [] [v] := by
    have : readP kN [x] = ([], [v], true) := hr
    rw [this] at hA
    exact hA
  refine (hrev_any W F h a dk _ b sh (h1.below hW) h3 (hu.below hW) w.heap.size A1 n1 c1 A2 n2 c2 _ v hA' bg (hg.on (hW.mono hb)) (Nat.le_trans hb hW.size) hF).mono ?_
  rintro e w' ⟨r, rfl, q1, q2, q3⟩
  refine ⟨r, rfl, gq_ans hg hb hF hW q3 q1 q2 h2 h3 h4 ?_⟩
  unfold revB
  split
  · exact stp_bang (e := 8) (by decide +kernel)
  · split
    · exact stp_bang (e := 1) (by decide +kernel)
    · rename_i hv2
      refine stp_post ?_
      have hx : v.toNat < b.E.length := by omega
      have hg2 : b.E.getD v.toNat [] = b.E[v.toNat] := by rw [List.getD_eq_getElem?_getD, List.getElem?_eq_getElem hx]; rfl
      rw [hg2]
      unfold revE
      rw [List.length_reverse, List.length_map]
      exact h4.1 _ (List.getElem_mem hx)
theorem gline_bal (hsp : spl (fstL s.data.toList) = balaW :: ws) :
    Calls Tryz.prog 7 #[.pointer (some ⟨h, 0, none⟩), .string s] w fun e w' => ∃ t, e = .returned (.string ⟨t.toArray⟩) ∧ GQ w F h (m + 1) d b t w' := by
  have _ := hu
  obtain ⟨q0, hl⟩ := hh.made
  refine cline_any w h q0 hl s hs 98 [97, 108, 97, 110, 99, 101] [119, 32, 119] 110 ws hsp hw hlen (by decide) (by decide) 34 rfl (by decide) (by decide) (by decide) (by decide) (by decide) (enters_of Tryz.func110 (by kernel_rfl) rfl) bg hg hb (GQ w F h (m + 1) d b) (fun hz => gq_no hh (Nat.le_succ _) (stp_two d b)) ?_
  intro hz W A1 c1 n1 A2 c2 n2 hW hA
  obtain ⟨a, dk, sh, h1, h2, h3, h4⟩ := hh
  obtain ⟨x, y, rfl, hr⟩ := read_ww hz
  rw [hr] at hA
  have hx := (spl_sub (l := fstL s.data.toList) (w := x) (by rw [hsp]; simp)).1
  have hy := (spl_sub (l := fstL s.data.toList) (w := y) (by rw [hsp]; simp)).1
  refine (hbal_any W F h a dk _ b sh (h1.below hW) h3 w.heap.size A1 n1 c1 A2 n2 c2 x y hA (by omega) (by omega) bg (hg.on (hW.mono hb)) (Nat.le_trans hb hW.size)).mono ?_
  rintro e w' ⟨r, rfl, q1, q2⟩
  refine ⟨r, rfl, gq_ans hg hb hF hW (kx_of_below q2) q1 ((h1.below hW).below q2) h2 h3 h4 ?_⟩
  unfold balT
  split
  · exact stp_head (c := 98) (by decide) (by decide)
  · exact stp_bang (by decide +kernel)
theorem gline_lots (hsp : spl (fstL s.data.toList) = lotsW :: ws) :
    Calls Tryz.prog 7 #[.pointer (some ⟨h, 0, none⟩), .string s] w fun e w' => ∃ t, e = .returned (.string ⟨t.toArray⟩) ∧ GQ w F h (m + 1) d b t w' := by
  have _ := hu
  obtain ⟨q0, hl⟩ := hh.made
  refine cline_any w h q0 hl s hs 108 [111, 116, 115] [] 111 ws hsp hw hlen (by decide) (by decide) 35 rfl (by decide) (by decide) (by decide) (by decide) (by decide) (enters_of Tryz.func111 (by kernel_rfl) rfl) bg hg hb (GQ w F h (m + 1) d b) (fun hz => gq_no hh (Nat.le_succ _) (stp_two d b)) ?_
  intro hz W A1 c1 n1 A2 c2 n2 hW hA
  obtain ⟨a, dk, sh, h1, h2, h3, h4⟩ := hh
  refine (clots_any W F h a dk _ b sh (h1.below hW) h3 A1 n1 c1 A2 n2 c2 bg (hg.on (hW.mono hb)) (Nat.le_trans hb hW.size)).mono ?_
  rintro e w' ⟨r, L, rfl, h5, h6, q1, q2⟩
  refine ⟨r, rfl, gq_ans hg hb hF hW (kx_of_below q2) q1 ((h1.below hW).below q2) h2 h3 h4 ?_⟩
  cases L with
  | nil => exact stp_nil d b
  | cons x L => exact stp_head (c := 108) (by decide) (by decide)
theorem gline_shape (hsp : spl (fstL s.data.toList) = shapeW :: ws) :
    Calls Tryz.prog 7 #[.pointer (some ⟨h, 0, none⟩), .string s] w fun e w' => ∃ t, e = .returned (.string ⟨t.toArray⟩) ∧ GQ w F h (m + 1) d b t w' := by
  obtain ⟨q0, hl⟩ := hh.made
  refine cline_any w h q0 hl s hs 115 [104, 97, 112, 101] ([110, 32, 110, 32, 110, 32] ++ kTurn) 105 ws hsp hw hlen (by decide) (by decide) 29 rfl (by decide) (by decide) (by decide) (by decide) (by decide) (enters_of Tryz.func105 (by kernel_rfl) rfl) bg hg hb (GQ w F h (m + 1) d b) (fun hz => gq_no hh (Nat.le_succ _) (stp_two d b)) ?_
  intro hz W A1 c1 n1 A2 c2 n2 hW hA
  obtain ⟨a, dk, sh, h1, h2, h3, h4⟩ := hh
  obtain ⟨x, y, z, u, p, q, r, rfl, -, -, -, hr⟩ := read_shape hz
  rw [hr] at hA
  refine (hshape_any W F h a dk _ b sh (h1.below hW) (hu.below hW) h2 w.heap.size A1 n1 c1 A2 n2 c2 u p q r hA).mono ?_
  rintro e w' ⟨v, rfl, q1, q2, q3⟩
  refine ⟨v, rfl, gq_ans hg hb hF hW q3 q1 q2 ?_ h3 h4 ?_⟩
  · split
    · rw [List.length_append, List.length_singleton]; omega
    · exact h2
  · split
    · exact stp_nil d b
    · exact stp_bang (by decide +kernel)
theorem gline_saw (hsp : spl (fstL s.data.toList) = sawW :: ws) :
    Calls Tryz.prog 7 #[.pointer (some ⟨h, 0, none⟩), .string s] w fun e w' => ∃ t, e = .returned (.string ⟨t.toArray⟩) ∧ GQ w F h (m + 1) d b t w' := by
  obtain ⟨q0, hl⟩ := hh.made
  refine cline_any w h q0 hl s hs 115 [97, 119] [110, 32, 110, 32, 110] 107 ws hsp hw hlen (by decide) (by decide) 31 rfl (by decide) (by decide) (by decide) (by decide) (by decide) (enters_of Tryz.func107 (by kernel_rfl) rfl) bg hg hb (GQ w F h (m + 1) d b) (fun hz => gq_no hh (Nat.le_succ _) (stp_two d b)) ?_
  intro hz W A1 c1 n1 A2 c2 n2 hW hA
  obtain ⟨a, dk, sh, h1, h2, h3, h4⟩ := hh
  obtain ⟨x, y, z, p, q, r, rfl, -, -, -, hr⟩ := read_nnn hz
  rw [hr] at hA
  have hlm : (sawMs p q r sh).length ≤ 16 := by
    unfold sawMs
    split
    · refine Nat.le_trans (sawF_len _ _) ?_
      unfold cntO
      split
      · rw [cntP_len]; exact h2
      · exact Nat.zero_le _
    · exact Nat.zero_le _
  refine (hsaw_any W F h a dk _ b sh (h1.below hW) h3 (hu.below hW) h2 w.heap.size A1 n1 c1 A2 n2 c2 _ p q r hA bg (hg.on (hW.mono hb)) (Nat.le_trans hb hW.size) hF).mono ?_
  rintro e w' ⟨v, rfl, q1, q2, q3⟩
  refine ⟨v, rfl, gq_ans hg hb hF hW q3 q1 q2 h2 h3 h4 ?_⟩
  unfold sawT sawS
  by_cases hp : panOk p q r sh = false
  · have h0 : sawMs p q r sh = [] := by unfold sawMs; rw [if_neg (by rw [hp]; decide)]
    rw [if_pos hp, if_pos h0]
    exact stp_bang (by decide +kernel)
  · rw [if_neg hp]
    by_cases h0 : sawMs p q r sh = []
    · rw [if_pos h0, if_pos h0]
      exact stp_bang (by decide +kernel)
    · rw [if_neg h0, if_neg h0]
      exact stp_post hlm
end
/-- A line of the stock, whatever it is. -/
theorem gline_any (w : World) (F : Nat → Prop) (h : Nat) (d : Dk) (b : Bk) (m : Nat) (hh : GSt w F h d b m) (hu : Up w F) (s : ByteArray) (hs : s.size < 4294967281) (hbk : bookB s = true) (bg : Nat) (hg : Gl bg w) (hb : bg ≤ w.heap.size) (hF : ∀ j, F j → bg ≤ j) :
    Calls Tryz.prog 7 #[.pointer (some ⟨h, 0, none⟩), .string s] w fun e w' => ∃ t, e = .returned (.string ⟨t.toArray⟩) ∧ GQ w F h (m + 1) d b t w' := by
  unfold bookB at hbk
  rw [Bool.and_eq_true, decide_eq_true_eq] at hbk
  obtain ⟨hne, hbk⟩ := hbk
  by_cases hlen : 4096 < (fstL s.data.toList).length
  · obtain ⟨q0, hl⟩ := hh.made
    exact (line_long w h q0 hl s hs hlen bg hg hb).mono fun e w' ⟨h1, h2⟩ => ⟨_, h1, gq_no hh (Nat.le_succ _) (stp_bang (by decide +kernel)) w' h2⟩
  have hlen : (fstL s.data.toList).length ≤ 4096 := by omega
  cases hsp : spl (fstL s.data.toList) with
  | nil => exact absurd hsp (spl_ne _)
  | cons nm ws =>
    rw [hsp] at hbk
    rw [bookW] at hbk
    by_cases e1 : nm = postW
    · rw [if_pos e1, decide_eq_true_eq] at hbk
      subst e1
      exact gline_post w F h d b m hh hu s hs ws hne hlen bg hg hb hF hsp hbk
    rw [if_neg e1] at hbk
    by_cases e2 : nm = revW
    · subst e2
      exact gline_rev w F h d b m hh hu s hs ws hne hlen bg hg hb hF hsp
    rw [if_neg e2] at hbk
    by_cases e3 : nm = balaW
    · subst e3
      exact gline_bal w F h d b m hh hu s hs ws hne hlen bg hg hb hF hsp
    rw [if_neg e3] at hbk
    by_cases e4 : nm = lotsW
    · subst e4
      exact gline_lots w F h d b m hh hu s hs ws hne hlen bg hg hb hF hsp
    rw [if_neg e4] at hbk
    by_cases e5 : nm = sawW
    · subst e5
      exact gline_saw w F h d b m hh hu s hs ws hne hlen bg hg hb hF hsp
    rw [if_neg e5, decide_eq_true_eq] at hbk
    subst hbk
    exact gline_shape w F h d b m hh hu s hs ws hne hlen bg hg hb hF hsp
end
end
section
section
open Go.RowKit Go.Shelf
def armW : List UInt8 := [97, 114, 109]
def armS : ByteArray := ⟨#[97, 114, 109, 32]⟩
def restW' : List UInt8 := [114, 101, 115, 116, 97, 114, 116]
def restS : ByteArray := ⟨#[114, 101, 115, 116, 97, 114, 116, 32]⟩
theorem word_num {S : ByteArray} {wd : List UInt8} (hS : S.data.toList = wd ++ [32]) (hw : ∀ c ∈ wd, c ≠ 32 ∧ c ≠ 10) (k : Nat) : spl (fstL (S ++ ⟨(Lib.itoa (k : Int)).toArray⟩ : ByteArray).data.toList) = wd :: [Lib.itoa (k : Int)] ∧ (fstL (S ++ ⟨(Lib.itoa (k : Int)).toArray⟩ : ByteArray).data.toList) = wd ++ 32 :: Lib.itoa (k : Int) := by
  have e : (S ++ ⟨(Lib.itoa (k : Int)).toArray⟩ : ByteArray).data.toList = wd ++ 32 :: Lib.itoa (k : Int) := by
    rw [ba_app, hS, List.append_assoc]
    rfl
  have h10 : ∀ c ∈ wd ++ 32 :: Lib.itoa (k : Int), c ≠ 10 := by
    intro c hc
    rcases List.mem_append.1 hc with hc | hc
    · exact (hw c hc).2
    · rcases List.mem_cons.1 hc with rfl | hc
      · decide
      · exact (itoa_plain _ c hc).2
  rw [e, fst_no h10, spl_word _ _ (fun c hc => (hw c hc).1), spl_last _ (fun c hc => (itoa_plain _ c hc).1)]
  exact ⟨rfl, rfl⟩
theorem itoa_some (k : Nat) (h : k < 1000000000000) : Lib.itoa (k : Int) ≠ [] := by
  intro e
  have := (digits_len k h).1
  rw [← itoa_nat, e] at this
  simp at this
theorem itoa_short (k : Nat) (h : k < 1000000000000) : (Lib.itoa (k : Int)).length ≤ 12 := by
  have := (digits_len k h).2
  rw [← itoa_nat] at this
  exact this
theorem read_num {k : Nat} (h : k < 1000000000000) : (readP kN [Lib.itoa (k : Int)]).2.2 = true := by
  have hf : Lib.fields kN = [kN] := by decide
  unfold readP
  rw [hf, readK_one (by decide) (by decide) (by decide), takeP_n]
  simp [num_itoa k h, readK, finP]
theorem Inv.arm {d : Dk} {b : Bk} (h : Inv d b) {v : Nat} (hv : v < 1000000000000) : Inv (d.arm (v : Int)) b := by
  unfold Dk.arm
  split
  · exact h
  · obtain ⟨t, ht, h1, h2⟩ := h.fit
    exact ⟨⟨h.ok.1, h.ok.2.1, by show (v : Int).toNat < _; omega⟩, h.jour, h.ent, t, ht, h1, h2⟩
theorem arm_B (d : Dk) (v : Int) : (d.arm v).B = d.B := by
  unfold Dk.arm
  split <;> rfl
theorem SmB.arm {d : Dk} {b : Bk} {m : Nat} (h : SmB d b m) (v : Int) : SmB (d.arm v) b m := by
  unfold SmB
  rw [arm_B]
  exact h
theorem garm_any (w : World) (F : Nat → Prop) (h : Nat) (d : Dk) (b : Bk) (m : Nat) (hh : GSt w F h d b m) (v : Nat) (h1 : 1 ≤ v) (h2 : v ≤ 1000) (bg : Nat) (hg : Gl bg w) (hb : bg ≤ w.heap.size) (hF : ∀ j, F j → bg ≤ j) :
    Calls Tryz.prog 7 #[.pointer (some ⟨h, 0, none⟩), .string (armS ++ ⟨(Lib.itoa (v : Int)).toArray⟩)] w fun e w' => ∃ t : List UInt8, e = .returned (.string ⟨t.toArray⟩) ∧ t = [] ∧ GSt w' F h (d.arm (v : Int)) b m ∧ Kx F w w' := by
  obtain ⟨q0, hl⟩ := hh.made
  obtain ⟨e1, e2⟩ := word_num (S := armS) (wd := armW) rfl (by decide) v
  have hs := itoa_short v (by omega)
  refine cline_any w h q0 hl _ (by rw [ba_size, ba_app, List.length_append]; show 4 + (Lib.itoa (v : Int)).length < _; omega) 97 [114, 109] kN 112 [Lib.itoa (v : Int)] e1 (by rw [e1]; simp [armW]; exact fun hn => itoa_some v (by omega) hn) (by rw [e2, List.length_append, List.length_cons]; show 3 + _ ≤ _; omega) (by decide) (by decide) 37 rfl (by decide) (by decide) (by decide) (by decide) (by decide) (enters_of Tryz.func112 (by kernel_rfl) rfl) bg hg hb (fun t W => t = [] ∧ GSt W F h (d.arm (v : Int)) b m ∧ Kx F w W) (fun hz => by rw [read_num (by omega)] at hz; cases hz) ?_
  intro hz W A1 c1 n1 A2 c2 n2 hW hA
  obtain ⟨a, dk, sh, g1, g2, g3, g4⟩ := hh
  obtain ⟨x, u, hx, hv, hr⟩ := read_n hz
  rw [List.cons.injEq] at hx
  rw [← hx.1, num_itoa v (by omega), Option.some.injEq] at hv
  subst hv
  have hA' : ArgsW w.heap.size W A1 n1 c1 A2 n2 c2 [] [(v : Int)] := by
    have : readP kN [Lib.itoa (v : Int)] = ([], [(v : Int)], true) := hr
    rw [this] at hA
    exact hA
  refine (harm_any W F h a dk _ b sh (g1.below hW) w.heap.size A1 n1 c1 A2 n2 c2 _ (v : Int) hA' (by omega) (by omega)).mono ?_
  rintro e w' ⟨r, rfl, q1, q2, q3⟩
  have hk2 : Kx F w w' := (kx_of_below hW).trans q3 (fun _ _ h => h)
  exact ⟨r, rfl, q1.ansW (hg.kx hk2 hF hb) (fun W' hW' => ⟨rfl, ⟨a, dk, sh, q2.below hW', g2, g3.arm (by omega), g4.arm _⟩, hk2.below hW'⟩)⟩
theorem grest_any (w : World) (F : Nat → Prop) (h : Nat) (d : Dk) (b : Bk) (m : Nat) (hh : GSt w F h d b m) (hu : Up w F) (v : Nat) (h2 : v ≤ 100000) (bg : Nat) (hg : Gl bg w) (hb : bg ≤ w.heap.size) (hF : ∀ j, F j → bg ≤ j) :
    Calls Tryz.prog 7 #[.pointer (some ⟨h, 0, none⟩), .string (restS ++ ⟨(Lib.itoa (v : Int)).toArray⟩)] w fun e w' => ∃ t : List UInt8, e = .returned (.string ⟨t.toArray⟩) ∧ t = [] ∧ (∃ E, HSt w' F h ⟨E, false⟩ (m + 1) ∧ (E = b.E ∨ b.br = true ∧ ∃ l, E = b.E ++ [l])) ∧ Kx F w w' := by
  obtain ⟨q0, hl⟩ := hh.made
  obtain ⟨e1, e2⟩ := word_num (S := restS) (wd := restW') rfl (by decide) v
  have hs := itoa_short v (by omega)
  refine cline_any w h q0 hl _ (by rw [ba_size, ba_app, List.length_append]; show 8 + (Lib.itoa (v : Int)).length < _; omega) 114 [101, 115, 116, 97, 114, 116] kN 113 [Lib.itoa (v : Int)] e1 (by rw [e1]; simp [restW']; exact fun hn => itoa_some v (by omega) hn) (by rw [e2, List.length_append, List.length_cons]; show 7 + _ ≤ _; omega) (by decide) (by decide) 38 rfl (by decide) (by decide) (by decide) (by decide) (by decide) (enters_of Tryz.func113 (by kernel_rfl) rfl) bg hg hb (fun t W => t = [] ∧ (∃ E, HSt W F h ⟨E, false⟩ (m + 1) ∧ (E = b.E ∨ b.br = true ∧ ∃ l, E = b.E ++ [l])) ∧ Kx F w W) (fun hz => by rw [read_num (by omega)] at hz; cases hz) ?_
  intro hz W A1 c1 n1 A2 c2 n2 hW hA
  obtain ⟨a, dk, sh, g1, g2, g3, g4⟩ := hh
  obtain ⟨x, u, hx, hv, hr⟩ := read_n hz
  rw [List.cons.injEq] at hx
  rw [← hx.1, num_itoa v (by omega), Option.some.injEq] at hv
  subst hv
  have hA' : ArgsW w.heap.size W A1 n1 c1 A2 n2 c2 [] [(v : Int)] := by
    have : readP kN [Lib.itoa (v : Int)] = ([], [(v : Int)], true) := hr
    rw [this] at hA
    exact hA
  refine (hrest_any W F h a dk _ b sh (g1.below hW) g3 (hu.below hW) w.heap.size A1 n1 c1 A2 n2 c2 _ v (by omega) hA').mono ?_
  rintro e w' ⟨r, rfl, q1, ⟨a', E, q2, q4, q5, q6⟩, q3⟩
  have hk2 : Kx F w w' := (kx_of_below hW).trans q3 (fun _ _ h => h)
  have hgd : Gd ⟨E, false⟩ (m + 1) := by
    refine ⟨rfl, q5, fun x hx => ⟨q4 x hx, ?_⟩, ?_⟩
    · rcases q6 with rfl | ⟨-, l, rfl, hB⟩
      · exact g4.1 x hx
      · rcases List.mem_append.1 hx with hx' | hx'
        · exact g4.1 x hx'
        · rw [List.mem_singleton] at hx'
          subst hx'
          exact g4.2.2 x (q4 x hx) hB
    · have := g4.2.1
      rcases q6 with rfl | ⟨-, l, rfl, -⟩
      · show b.E.length ≤ m + 1
        omega
      · show (b.E ++ [l]).length ≤ m + 1
        rw [List.length_append, List.length_singleton]
        omega
  exact ⟨r, rfl, q1.ansW (hg.kx hk2 hF hb) (fun W' hW' => ⟨rfl, ⟨E, ⟨a', dk, sh, q2.below hW', g2, hgd⟩, q6.imp id fun ⟨h1, l, h2, _⟩ => ⟨h1, l, h2⟩⟩, hk2.below hW'⟩)⟩
/-- The words of a printed entry. -/
theorem wd_plain {e : List Mv} (h : ∀ m ∈ e, mvOk m = true) : ∀ x ∈ wdE e, x ≠ [] ∧ ∀ c ∈ x, c ≠ 32 := by
  intro x hx
  obtain ⟨m, hm, hxm⟩ := List.mem_flatMap.1 hx
  have hok := h m hm
  unfold mvOk at hok
  simp only [Bool.and_eq_true, decide_eq_true_eq] at hok
  have hn : ∀ s : ByteArray, nameB s = true → s.data.toList ≠ [] := fun s hs e0 => by
    unfold nameB at hs
    simp only [Bool.and_eq_true, decide_eq_true_eq] at hs
    rw [ba_size, e0] at hs
    simp at hs
  have hq : m.q = ((m.q.toNat : Nat) : Int) := by omega
  simp only [wdM, List.mem_cons, List.not_mem_nil, or_false] at hxm
  rcases hxm with rfl | rfl | rfl | rfl
  · exact ⟨hn _ hok.1.1.1.1.1, fun c hc => (name_plain hok.1.1.1.1.1 c hc).2⟩
  · exact ⟨hn _ hok.1.1.1.1.2, fun c hc => (name_plain hok.1.1.1.1.2 c hc).2⟩
  · exact ⟨hn _ hok.1.1.1.2, fun c hc => (name_plain hok.1.1.1.2 c hc).2⟩
  · refine ⟨?_, fun c hc => (itoa_plain _ c hc).1⟩
    rw [hq]
    exact itoa_some _ (by omega)
theorem mvL_len {m : Mv} (h : mvOk m = true) : (mvL m).length ≤ 52 := by
  unfold mvOk nameB at h
  simp only [Bool.and_eq_true, decide_eq_true_eq] at h
  have hq : m.q = ((m.q.toNat : Nat) : Int) := by omega
  have h1 := itoa_short m.q.toNat (by omega)
  rw [← hq] at h1
  have f : m.f.data.toList.length = m.f.size := by rw [ba_size]
  have t : m.t.data.toList.length = m.t.size := by rw [ba_size]
  have i : m.i.data.toList.length = m.i.size := by rw [ba_size]
  unfold mvL
  simp only [List.length_append, List.length_cons]
  omega
theorem flat_le {α β : Type} {f : α → List β} {k : Nat} : ∀ (l : List α), (∀ x ∈ l, (f x).length ≤ k) → (l.flatMap f).length ≤ k * l.length
  | [], _ => by simp
  | a :: l, h => by
    have h1 := flat_le l fun x hx => h x (List.mem_cons_of_mem _ hx)
    have h2 := h a List.mem_cons_self
    rw [List.flatMap_cons, List.length_append, List.length_cons, Nat.mul_succ]
    omega
theorem wdE_len (e : List Mv) : (wdE e).length = 4 * e.length := by
  induction e with
  | nil => rfl
  | cons m e ih =>
    have : wdE (m :: e) = wdM m ++ wdE e := rfl
    rw [this, List.length_append, ih, List.length_cons]
    show 4 + _ = _
    omega
/-- A printed entry, posted again. -/
theorem again_any (w : World) (F : Nat → Prop) (h m : Nat) (E : List (List Mv)) (k : Nat) (hk : k < E.length) (hj : Jour E) (he : ∀ e ∈ E, enOk e = true ∧ e.length ≤ 16) (hh : HSt w F h ⟨E.take k, false⟩ m) (hm : m ≤ 90) (hu : Up w F) (bg : Nat) (hg : Gl bg w) (hb : bg ≤ w.heap.size) (hF : ∀ j, F j → bg ≤ j) :
    Calls Tryz.prog 7 #[.pointer (some ⟨h, 0, none⟩), .string ⟨(lineL E[k]).toArray⟩] w fun e w' => ∃ t, e = .returned (.string ⟨t.toArray⟩) ∧ LQ w F h (m + 1) (fun t b' => t = rowL entW [(k : Int)] ++ [10] ∧ b' = ⟨E.take (k + 1), false⟩) t w' := by
  obtain ⟨e, hek⟩ : ∃ e, E[k] = e := ⟨_, rfl⟩
  obtain ⟨hen, hl16⟩ := he e (hek ▸ List.getElem_mem hk)
  obtain ⟨ha, hl1, -, -⟩ := enOk_len hen
  have htk : E.take (k + 1) = E.take k ++ [e] := by rw [List.take_add_one, List.getElem?_eq_getElem hk, hek]; rfl
  have hfst : fstL (lineL e) = lineL e := fst_no (lineL_plain hen)
  have hwp := wd_plain ha
  have hsp : spl (fstL (lineL e)) = postW :: wdE e := by
    rw [hfst, lineL_join]
    exact spl_join _ _ (by decide) (fun x hx => (hwp x hx).2)
  have hlen : (lineL e).length ≤ 4096 := by
    have : (e.flatMap mvL).length ≤ 52 * e.length := flat_le e fun x hx => mvL_len (ha x hx)
    unfold lineL
    rw [List.length_append]
    show 4 + _ ≤ _
    omega
  have hq : ∀ m ∈ e, numL (Lib.itoa m.q) = some m.q := fun m hm => by
    have hok := ha m hm
    unfold mvOk at hok
    simp only [Bool.and_eq_true, decide_eq_true_eq] at hok
    have hq : m.q = ((m.q.toNat : Nat) : Int) := by omega
    rw [hq]
    exact num_itoa _ (by omega)
  have hrd := read_entry hq hl1
  have hgd : Gd ⟨E.take k, false⟩ m := let ⟨_, _, _, _, _, h3⟩ := hh; h3
  have hwd : Bk.would ⟨E.take k, false⟩ e = 0 := by
    unfold Bk.would
    rw [if_neg (by simp), if_pos hen]
    refine refW_of fun p _ => ?_
    have h1 := hj (k + 1) p hk
    rw [htk, balE_snoc] at h1
    exact h1
  rw [hek]
  refine line_post w F h ⟨E.take k, false⟩ m hh hm hu ⟨(lineL e).toArray⟩ (by rw [ba_size]; show (lineL e).length < _; omega) (wdE e) (by rw [hsp]; intro hn; rcases List.mem_cons.1 hn with hn | hn; (· cases hn); exact (hwp _ hn).1 rfl) (by show (fstL (lineL e)).length ≤ _; rw [hfst]; exact hlen) bg hg hb hF _ hsp (by rw [wdE_len]; omega) (fun hz => by rw [hrd] at hz; cases hz) (fun _ => ?_)
  rw [hrd]
  dsimp only
  rw [mvsOf_back]
  rcases hgd.post hm hl16 with ⟨h1, _⟩ | ⟨_, h1, _⟩
  · exact absurd hwd h1
  · dsimp only at h1
    rw [h1, htk]
    refine ⟨?_, rfl⟩
    unfold postT eitherT
    rw [if_pos rfl]
    dsimp only
    rw [List.length_append, List.length_take, Nat.min_eq_left (by omega), List.length_singleton, show ((k + 1 : Nat) : Int) - 1 = (k : Int) by omega]
    unfold linesL
    simp
set_option maxRecDepth 8000 in
set_option maxHeartbeats 2000000 in
theorem rbang_any (w : World) : Calls Tryz.prog 11 #[.int .i64 11] w fun e w' => e = .returned (.string ⟨#[33, 32, 49, 49, 10]⟩) ∧ Below w.heap.size w w' := by
  refine calls_cps ?_
  intro R hR
  have HT := Lib.hid (rtxt_any 11 (by decide) w)
  have e11 : Lib.itoa ((11 : Nat) : Int) = [49, 49] := by decide +kernel
  rw [e11] at HT
  go_enter Tryz.func11, Tryz.ntmps11
  go_wp2_with fail
  refine HT.out.mono ?_
  rintro e w1 ⟨rfl, hb1⟩
  have hf := hR.out _ _ ⟨rfl, hb1⟩
  have HF := Lib.hid hf
  clear hf hb1 hR HT
  go_wp2_with fail
  exact HF.out
theorem bang11 : bangL 11 = [33, 32, 49, 49, 10] := by decide +kernel
end
end
end Go.Proofs.YtndcijkgaadpgaaGreatDoor
