/-
  The layer's references: Lines, Words; conditions: sizes. The layer's reference Words; condition: a size.
-/
import Derived.Test.YtndcijkgaadpgaaGreatDoorVa
import Derived.Test.YtndcijkgaadpgaaGreatDoorUk
namespace Go.Proofs.YtndcijkgaadpgaaGreatDoor
section
section
open Go.RowKit
/-- The lines of a text; n: how many at most. -/
def lnsF : Nat → List UInt8 → List (List UInt8)
  | 0, _ => []
  | n + 1, l => if l = [] then [] else fstL l :: (if (fstL l).length = l.length then [] else lnsF n (l.drop ((fstL l).length + 1)))
def lnsL (l : List UInt8) : List (List UInt8) := lnsF (l.length + 1) l
theorem lnsF_more : ∀ (n m : Nat) (l : List UInt8), l.length < n → l.length < m → lnsF n l = lnsF m l
  | 0, _, _, h, _ => by omega
  | _ + 1, 0, _, _, h => by omega
  | n + 1, m + 1, l, h1, h2 => by
    rw [lnsF, lnsF]
    by_cases h0 : l = []
    · rw [if_pos h0, if_pos h0]
    · rw [if_neg h0, if_neg h0]
      have := fst_len l
      have hp : 0 < l.length := List.length_pos_iff.2 h0
      rw [lnsF_more n m (l.drop ((fstL l).length + 1)) (by rw [List.length_drop]; omega) (by rw [List.length_drop]; omega)]
theorem lnsL_cons {l : List UInt8} (h : l ≠ []) : lnsL l = fstL l :: (if (fstL l).length = l.length then [] else lnsL (l.drop ((fstL l).length + 1))) := by
  have hp : 0 < l.length := List.length_pos_iff.2 h
  unfold lnsL
  rw [lnsF, if_neg h, lnsF_more l.length ((l.drop ((fstL l).length + 1)).length + 1) _ (by rw [List.length_drop]; omega) (by omega)]
theorem lnsL_nil : lnsL [] = [] := rfl
/-- The lines of lines. -/
theorem lns_lines : ∀ (L : List (List UInt8)), (∀ l ∈ L, ∀ c ∈ l, c ≠ 10) → lnsL (linesL L) = L
  | [], _ => rfl
  | a :: L, h => by
    have ha := h a List.mem_cons_self
    have e : linesL (a :: L) = a ++ 10 :: linesL L := by
      unfold linesL
      rw [List.flatMap_cons, List.append_assoc]
      rfl
    rw [e, lnsL_cons (by simp), fst_at ha, if_neg (by simp), List.drop_append]
    rw [List.drop_of_length_le (by omega), List.nil_append, show a.length + 1 - a.length = 1 by omega]
    show a :: lnsL (linesL L) = _
    rw [lns_lines L fun l hl => h l (List.mem_cons_of_mem _ hl)]
set_option maxRecDepth 8000 in
set_option maxHeartbeats 4000000 in
theorem rlinesO_any (s : ByteArray) (w : World) (hs : s.size ≤ 2000000) :
    Calls Tryz.prog 12 #[.string s] w fun e w' => ∃ A c, e = .returned (.slice A (lnsL s.data.toList).length c) ∧ w'.ownsRow w.heap.size 9 1 (.slice A (lnsL s.data.toList).length c) (lnsL s.data.toList).length ((strL (lnsL s.data.toList)).flatMap strE) ∧ Below w.heap.size w w' := by
  refine calls_cps ?_
  intro R hR
  have Hr := Lib.hid (fun (A : Option Addr) n c (L : List (List UInt8)) w' (hL : L = lnsL s.data.toList) (hn : n = L.length) (hx : w'.ownsRow w.heap.size 9 1 (.slice A n c) n ((strL L).flatMap strE)) hb => hR.out (.returned (.slice A n c)) w' ⟨A, c, by rw [hn, hL], by rw [← hL, ← hn]; exact hx, hb⟩)
  clear hR
  go_enter Tryz.func12, Tryz.ntmps12
  go_wp2_with fail
  go_loopw [0, 3] (fun s0 s3 wr => ∃ (t : ByteArray) (dn : List (List UInt8)) (q c' : Nat) (A' : Option Addr), t.size ≤ 2000000 ∧ s0 = .string t ∧ s3 = .slice A' q c' ∧ q + t.size ≤ s.size ∧ Hid (q = dn.length) ∧ Hid (lnsL s.data.toList = dn ++ lnsL t.data.toList) ∧ Hid (wr.ownsRow w.heap.size 9 1 (.slice A' q c') q ((strL dn).flatMap strE)) ∧ Hid (Below w.heap.size w wr)) (fun s0 _ _ => match s0 with | .string t => t.size | _ => 0)
  case atStart => exact ⟨s, [], 0, 0, _, hs, rfl, rfl, by omega, Lib.hid rfl, Lib.hid rfl, Lib.hid (own_newAt w #[] 9 1 0 w.heap.size rfl (Nat.le_refl _) (by unfold maxLen; omega) rfl), Lib.hid (below_new w _)⟩
  case round =>
    obtain ⟨t, dn, q, c', A', ht, rfl, rfl, hqt, Hq, Hl, Ho, Hb⟩ := hrel
    by_cases h0 : t.size = 0
    · have ht0 : t.data.toList = [] := List.eq_nil_of_length_eq_zero (by rw [← ba_size]; exact h0)
      have i1 : ¬ (t.size : Int) > 0 := by omega
      have hf := Hr.out A' q c' dn wr (by rw [Hl.out, ht0, lnsL_nil, List.append_nil]) Hq.out Ho.out Hb.out
      have HF := Lib.hid hf
      clear Hr hf Hl Ho Hb Hq ht0 h0
      go_wp2
      exact HF.out
    · have htn : t.data.toList ≠ [] := fun e => h0 (by rw [ba_size, e]; rfl)
      have i1 : (t.size : Int) > 0 := by omega
      have HF1 := Lib.hid (rfirst_any t wr (by omega))
      obtain ⟨f, hf⟩ : ∃ f, strB (fstL t.data.toList) = f := ⟨_, rfl⟩
      have hfl : f.data.toList = fstL t.data.toList := by rw [← hf]; rfl
      have hfs : f.size = (fstL t.data.toList).length := by rw [ba_size, hfl]
      have hle : f.size ≤ t.size := by rw [hfs, ba_size t]; exact fst_len _
      rw [hf] at HF1
      have Hl2 := Lib.hid (show lnsL s.data.toList = (dn ++ [f.data.toList]) ++ (if f.size = t.size then [] else lnsL (t.data.toList.drop (f.size + 1))) by rw [Hl.out, lnsL_cons htn, hfl, hfs, ba_size t, List.append_assoc]; rfl)
      clear hf hfl hfs htn Hl
      go_wp2_with fail
      refine HF1.out.mono ?_
      rintro e w1 ⟨rfl, rfl⟩
      by_cases he : f.size = t.size
      · have i2 : ((f.size : Int) == (t.size : Int)) = true := by rw [beq_iff_eq]; omega
        have hl2 := Hl2.out
        rw [if_pos he, List.append_nil] at hl2
        have HF2 := Lib.hid (fun A5 c5 w5 h1 h2 h3 => Hr.out A5 (q + 1) c5 _ w5 hl2.symm h1 h2 h3)
        clear hl2 Hl2 he
        go_wp2_with (at_builtin; refine wpList_app rfl (.tmp 11) (.tmp 13) _ rfl elemStr0 w.heap.size _ _ _ rfl (Ho.out.alloc _) _ _ _ _ rfl (Sl.newAt _ _ _ 1 1 rfl rfl) (by simp [Value.oneCell']) (by unfold maxLen; omega) (by omega) (by have := Hb.out.size; simp; omega) ?_; intro A5 c5 w5 ho5 hg5 hp5; have HG5 := Lib.hid hg5; have HO5 := Lib.hid ho5; clear ho5 hg5 hp5)
        have HLow := Lib.hid (show Below w.heap.size w w5 from below_own (Hb.out.alloc Hb.out.size _) (Ho.out.alloc _) (Nat.le_refl _) (by have := Hb.out.size; simp; omega) HG5.out)
        have HO6 := Lib.hid (show w5.ownsRow w.heap.size 9 1 (.slice A5 (q + 1) c5) (q + 1) ((strL (dn ++ [f.data.toList])).flatMap strE) from by
          have h := HO5.out
          unfold strL at h ⊢
          rw [List.map_append, List.flatMap_append]
          exact h)
        have Hq2 := Lib.hid (show q + 1 = (dn ++ [f.data.toList]).length by rw [List.length_append, List.length_singleton, ← Hq.out])
        exact HF2.out A5 c5 w5 Hq2.out HO6.out HLow.out
      · have i2 : ((f.size : Int) == (t.size : Int)) = false := by rw [beq_eq_false_iff_ne]; omega
        have i3 : (f.size : Int) + 1 ≤ (t.size : Int) := by omega
        have i4 : f.size + 1 ≤ t.size := by omega
        have hl2 := Hl2.out
        rw [if_neg he] at hl2
        have Hl3 := Lib.hid (show lnsL s.data.toList = (dn ++ [f.data.toList]) ++ lnsL (t.extract (f.size + 1) t.size).data.toList by
          rw [hl2, ext_data, List.take_of_length_le (by rw [List.length_drop, ← ba_size]; exact Nat.le_refl _)])
        have hts : (t.extract (f.size + 1) t.size).size = t.size - (f.size + 1) := by
          rw [ba_size, ext_data, List.length_take, List.length_drop, ← ba_size]
          omega
        have Hts := Lib.hid hts
        clear hl2 Hl2 he hts
        go_wp2_with (at_builtin; refine wpList_app rfl (.tmp 11) (.tmp 13) _ rfl elemStr0 w.heap.size _ _ _ rfl (Ho.out.alloc _) _ _ _ _ rfl (Sl.newAt _ _ _ 1 1 rfl rfl) (by simp [Value.oneCell']) (by unfold maxLen; omega) (by omega) (by have := Hb.out.size; simp; omega) ?_; intro A5 c5 w5 ho5 hg5 hp5; have HG5 := Lib.hid hg5; have HO5 := Lib.hid ho5; clear ho5 hg5 hp5)
        have HLow := Lib.hid (show Below w.heap.size w w5 from below_own (Hb.out.alloc Hb.out.size _) (Ho.out.alloc _) (Nat.le_refl _) (by have := Hb.out.size; simp; omega) HG5.out)
        have HO6 := Lib.hid (show w5.ownsRow w.heap.size 9 1 (.slice A5 (q + 1) c5) (q + 1) ((strL (dn ++ [f.data.toList])).flatMap strE) from by
          have h := HO5.out
          unfold strL at h ⊢
          rw [List.map_append, List.flatMap_append]
          exact h)
        have Hq2 := Lib.hid (show q + 1 = (dn ++ [f.data.toList]).length by rw [List.length_append, List.length_singleton, ← Hq.out])
        refine ⟨⟨_, dn ++ [f.data.toList], q + 1, c5, A5, ?_, rfl, rfl, ?_, Hq2, Hl3, HO6, HLow⟩, ?_⟩
        · have := Hts.out; omega
        · have := Hts.out; omega
        · have := Hts.out
          show (t.extract (f.size + 1) t.size).size < t.size
          omega
theorem rlines_any (s : ByteArray) (w : World) (hs : s.size ≤ 2000000) :
    Calls Tryz.prog 12 #[.string s] w fun e w' => ∃ A c, e = .returned (.slice A (lnsL s.data.toList).length c) ∧ SlE strE 1 w' A (lnsL s.data.toList).length (strL (lnsL s.data.toList)) ∧ Below w.heap.size w w' :=
  (rlinesO_any s w hs).mono fun _ _ ⟨A, c, h1, h2, h3⟩ => ⟨A, c, h1, SlE.of_own h2 (by unfold strL; rw [List.length_map]), h3⟩
end
end
section
section
open Go.RowKit
/-- Where the scan stands: the words that came, the next one from 'a' on, up to i without a blank. -/
structure WdI (l : List UInt8) (dn : List (List UInt8)) (a i : Nat) : Prop where
  all : i ≤ l.length → spl l = dn ++ spl (l.drop a)
  fin : l.length < i → spl l = dn
  ne : [] ∉ dn
  le : a ≤ i
  no : ∀ (j : Nat) c, a ≤ j → j < i → l[j]? = some c → c ≠ 32
theorem WdI.start (l : List UInt8) : WdI l [] 0 0 := ⟨fun _ => rfl, fun h => absurd h (Nat.not_lt_zero _), fun h => (by cases h), Nat.le_refl _, fun j c h1 h2 => by omega⟩
theorem WdI.next {l : List UInt8} {dn : List (List UInt8)} {a i : Nat} {c : UInt8} (h : WdI l dn a i) (hi : l[i]? = some c) (hc : c ≠ 32) : WdI l dn a (i + 1) := by
  have hl := (List.getElem?_eq_some_iff.1 hi).1
  refine ⟨fun _ => h.all (by omega), fun h2 => by omega, h.ne, by have := h.le; omega, fun j c' h1 h2 hj => ?_⟩
  by_cases e : j = i
  · subst e
    rw [hi] at hj
    cases hj
    exact hc
  · exact h.no j c' h1 (by omega) hj
theorem WdI.piece {l : List UInt8} {dn : List (List UInt8)} {a i : Nat} (h : WdI l dn a i) : ∀ c ∈ (l.drop a).take (i - a), c ≠ 32 := by
  intro c hc
  obtain ⟨j, hj⟩ := List.mem_iff_getElem?.1 hc
  rw [List.getElem?_take] at hj
  split at hj
  · rw [List.getElem?_drop] at hj
    exact h.no (a + j) c (by omega) (by omega) hj
  · cases hj
theorem WdI.cut {l : List UInt8} {dn : List (List UInt8)} {a i : Nat} (h : WdI l dn a i) (hi : l[i]? = some 32) : spl l = dn ++ ((l.drop a).take (i - a) :: spl (l.drop (i + 1))) := by
  have hl := (List.getElem?_eq_some_iff.1 hi).1
  have hle := h.le
  have e : l.drop a = (l.drop a).take (i - a) ++ 32 :: l.drop (i + 1) := by
    conv => lhs; rw [← List.take_append_drop (i - a) (l.drop a)]
    rw [List.drop_drop, show a + (i - a) = i by omega, List.drop_eq_getElem_cons hl]
    rw [List.getElem?_eq_getElem hl] at hi
    rw [Option.some.inj hi]
  have h1 := spl_word _ (l.drop (i + 1)) h.piece
  rw [← e] at h1
  rw [h.all (by omega), h1]
theorem WdI.last {l : List UInt8} {dn : List (List UInt8)} {a : Nat} (h : WdI l dn a l.length) : spl l = dn ++ [(l.drop a).take (l.length - a)] := by
  have e : (l.drop a).take (l.length - a) = l.drop a := List.take_of_length_le (by rw [List.length_drop]; exact Nat.le_refl _)
  have h1 := h.piece
  rw [e] at h1
  rw [h.all (Nat.le_refl _), e, spl_last _ h1]
set_option maxRecDepth 8000 in
set_option maxHeartbeats 4000000 in
theorem rwords_any (s : ByteArray) (w : World) (hs : s.size ≤ 2000000) (R : Ending → World → Prop)
    (hno : [] ∈ spl s.data.toList → ∀ w', Below w.heap.size w w' → R (.returned (.tuple #[.slice none 0 0, .bool false])) w')
    (hyes : [] ∉ spl s.data.toList → ∀ A c w', SlE strE 1 w' A (spl s.data.toList).length (strL (spl s.data.toList)) → Below w.heap.size w w' → R (.returned (.tuple #[.slice A (spl s.data.toList).length c, .bool true])) w') :
    Calls Tryz.prog 25 #[.string s] w R := by
  have hls := (ba_size s).symm
  have HLs := Lib.hid hls
  have Hno := Lib.hid hno
  have Hyes := Lib.hid (fun (A : Option Addr) n c (L : List (List UInt8)) w' (hL : spl s.data.toList = L) (hn : n = L.length) (hne : [] ∉ L) hx hb => by
    have := hyes (by rw [hL]; exact hne) A c w' (by rw [hL, ← hn]; exact hx) hb
    rw [hL, ← hn] at this
    exact this)
  clear hno hyes hls
  go_enter Tryz.func25, Tryz.ntmps25
  go_wp2_with fail
  go_loopw [4, 5, 6] (fun s4 s5 s6 wr => ∃ (a i q c' : Nat) (dn : List (List UInt8)) (A' : Option Addr), i ≤ s.size + 1 ∧ a ≤ i ∧ s5 = .int .i64 (a : Int) ∧ s6 = .int .i64 (i : Int) ∧ s4 = .slice A' q c' ∧ q ≤ i ∧ Hid (q = dn.length) ∧ Hid (WdI s.data.toList dn a i) ∧ Hid (wr.ownsRow w.heap.size 9 1 (.slice A' q c') q ((strL dn).flatMap strE)) ∧ Hid (Below w.heap.size w wr)) (fun _ _ s6 _ => s.size + 1 - (intOf s6).toNat)
  case atStart => exact ⟨0, 0, 0, 0, [], _, Nat.zero_le _, Nat.le_refl _, rfl, rfl, rfl, Nat.le_refl _, Lib.hid rfl, Lib.hid (WdI.start _), Lib.hid (own_newAt w #[] 9 1 0 w.heap.size rfl (Nat.le_refl _) (by unfold maxLen; omega) rfl), Lib.hid (below_new w _)⟩
  case round =>
    obtain ⟨a, i, q, c', dn, A', hi, hai, rfl, rfl, rfl, hqi, Hq, Hw, Ho, Hb⟩ := hrel
    by_cases hlt : i < s.size
    · have i1 : (i : Int) ≤ (s.size : Int) := by omega
      have i2 : (i : Int) < (s.size : Int) := by omega
      by_cases h32 : s[i] = 32
      · have j1 : ((s[i].toNat : Int) != 32) = false := by rw [h32]; rfl
        have hcut := Hw.out.cut (by rw [get_byte hlt, h32])
        by_cases hai0 : i = a
        · subst hai0
          have j2 : ((i : Int) == (i : Int)) = true := by rw [beq_iff_eq]
          have hf := Hno.out (by rw [hcut, Nat.sub_self, List.take_zero]; simp) wr Hb.out
          have HF := Lib.hid hf
          clear hf hcut h32 Hno Hyes Hw Ho Hb Hq
          go_wp2
          exact HF.out
        · have j2 : ((i : Int) == (a : Int)) = false := by rw [beq_eq_false_iff_ne]; omega
          have j3 : (a : Int) ≤ (i : Int) := by omega
          have HW2 := Lib.hid (show WdI s.data.toList (dn ++ [(s.extract a i).data.toList]) (i + 1) (i + 1) from by
            have hne : (s.extract a i).data.toList ≠ [] := fun e => by
              have := congrArg List.length e
              rw [ext_data, List.length_take, List.length_drop, ← ba_size] at this
              simp at this
              omega
            refine ⟨fun _ => by rw [hcut, ext_data, List.append_assoc]; rfl, fun h2 => ?_, fun hm => ?_, Nat.le_refl _, fun j c h1 h2 => by omega⟩
            · rw [← ba_size] at h2; omega
            · rcases List.mem_append.1 hm with hm | hm
              · exact Hw.out.ne hm
              · exact hne (List.mem_singleton.1 hm).symm)
          clear hcut h32 Hw hai0
          go_wp2_with (at_builtin; refine wpList_app rfl (.tmp 27) (.tmp 32) _ rfl elemStr0 w.heap.size _ _ _ rfl (Ho.out.alloc _) _ _ _ _ rfl (Sl.newAt _ _ _ 1 1 rfl rfl) (by simp [Value.oneCell']) (by unfold maxLen; omega) (by omega) (by have := Hb.out.size; simp; omega) ?_; intro A5 c5 w5 ho5 hg5 hp5; have HG5 := Lib.hid hg5; have HO5 := Lib.hid ho5; clear ho5 hg5 hp5)
          have HLow := Lib.hid (show Below w.heap.size w w5 from below_own (Hb.out.alloc Hb.out.size _) (Ho.out.alloc _) (Nat.le_refl _) (by have := Hb.out.size; simp; omega) HG5.out)
          have HO6 := Lib.hid (show w5.ownsRow w.heap.size 9 1 (.slice A5 (q + 1) c5) (q + 1) ((strL (dn ++ [(s.extract a (i)).data.toList])).flatMap strE) from by
            have h := HO5.out
            unfold strL at h ⊢
            rw [List.map_append, List.flatMap_append]
            exact h)
          have Hq2 := Lib.hid (show q + 1 = (dn ++ [(s.extract a (i)).data.toList]).length by rw [List.length_append, List.length_singleton, ← Hq.out])
          exact ⟨⟨i + 1, i + 1, q + 1, c5, _, A5, by omega, Nat.le_refl _, by go_num, by go_num, rfl, by omega, Hq2, HW2, HO6, HLow⟩, by simp [intOf] <;> omega⟩
      · have j1 : ((s[i].toNat : Int) != 32) = true := by
          rw [bne_iff_ne]
          intro e
          exact h32 (UInt8.toNat_inj.1 (by have h2 : (32 : UInt8).toNat = 32 := by decide
                                           omega))
        have HW2 := Lib.hid (Hw.out.next (get_byte hlt) h32)
        clear Hw h32
        go_wp2_with fail
        exact ⟨⟨a, i + 1, q, c', dn, A', by omega, by omega, rfl, by go_num, rfl, by omega, Hq, HW2, Ho, Hb⟩, by simp [intOf] <;> omega⟩
    · by_cases hie : i = s.size
      · subst hie
        have i1 : (s.size : Int) ≤ (s.size : Int) := Int.le_refl _
        have i2 : ¬ (s.size : Int) < (s.size : Int) := by omega
        have hlast := (show WdI s.data.toList dn a s.data.toList.length by rw [HLs.out]; exact Hw.out).last
        rw [HLs.out] at hlast
        by_cases hai0 : s.size = a
        · have j2 : ((s.size : Int) == (a : Int)) = true := by rw [beq_iff_eq]; omega
          have hf := Hno.out (by rw [hlast, hai0, Nat.sub_self, List.take_zero]; simp) wr Hb.out
          have HF := Lib.hid hf
          clear hf hlast hai0 Hno Hyes Hw Ho Hb Hq
          go_wp2
          exact HF.out
        · have j2 : ((s.size : Int) == (a : Int)) = false := by rw [beq_eq_false_iff_ne]; omega
          have j3 : (a : Int) ≤ (s.size : Int) := by omega
          have HW2 := Lib.hid (show WdI s.data.toList (dn ++ [(s.extract a s.size).data.toList]) (s.size + 1) (s.size + 1) from by
            have hne : (s.extract a s.size).data.toList ≠ [] := fun e => by
              have := congrArg List.length e
              rw [ext_data, List.length_take, List.length_drop, ← ba_size] at this
              simp at this
              omega
            refine ⟨fun h2 => ?_, fun _ => by rw [hlast, ext_data], fun hm => ?_, Nat.le_refl _, fun j c h1 h2 => by omega⟩
            · rw [← ba_size] at h2; omega
            · rcases List.mem_append.1 hm with hm | hm
              · exact Hw.out.ne hm
              · exact hne (List.mem_singleton.1 hm).symm)
          clear hlast Hw hai0
          go_wp2_with (at_builtin; refine wpList_app rfl (.tmp 27) (.tmp 32) _ rfl elemStr0 w.heap.size _ _ _ rfl (Ho.out.alloc _) _ _ _ _ rfl (Sl.newAt _ _ _ 1 1 rfl rfl) (by simp [Value.oneCell']) (by unfold maxLen; omega) (by omega) (by have := Hb.out.size; simp; omega) ?_; intro A5 c5 w5 ho5 hg5 hp5; have HG5 := Lib.hid hg5; have HO5 := Lib.hid ho5; clear ho5 hg5 hp5)
          have HLow := Lib.hid (show Below w.heap.size w w5 from below_own (Hb.out.alloc Hb.out.size _) (Ho.out.alloc _) (Nat.le_refl _) (by have := Hb.out.size; simp; omega) HG5.out)
          have HO6 := Lib.hid (show w5.ownsRow w.heap.size 9 1 (.slice A5 (q + 1) c5) (q + 1) ((strL (dn ++ [(s.extract a (s.size)).data.toList])).flatMap strE) from by
            have h := HO5.out
            unfold strL at h ⊢
            rw [List.map_append, List.flatMap_append]
            exact h)
          have Hq2 := Lib.hid (show q + 1 = (dn ++ [(s.extract a (s.size)).data.toList]).length by rw [List.length_append, List.length_singleton, ← Hq.out])
          exact ⟨⟨s.size + 1, s.size + 1, q + 1, c5, _, A5, by omega, Nat.le_refl _, by go_num, by go_num, rfl, by omega, Hq2, HW2, HO6, HLow⟩, by simp [intOf] <;> omega⟩
      · have hie2 : i = s.size + 1 := by omega
        subst hie2
        have i1 : ¬ ((s.size + 1 : Nat) : Int) ≤ (s.size : Int) := by omega
        have hfin := Hw.out.fin (by rw [HLs.out]; omega)
        have hf := Hyes.out A' q c' dn wr hfin Hq.out Hw.out.ne (SlE.of_own Ho.out (by unfold strL; rw [List.length_map]; exact Hq.out)) Hb.out
        have HF := Lib.hid hf
        clear hf hfin hie Hno Hyes Hw Ho Hb Hq
        go_wp2
        exact HF.out
end
end
end Go.Proofs.YtndcijkgaadpgaaGreatDoor
