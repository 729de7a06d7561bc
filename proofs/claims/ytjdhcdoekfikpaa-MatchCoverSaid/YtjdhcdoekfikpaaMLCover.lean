/-
  The contract of clavecinlaw05.MatchCover: true at every input.
-/
import Derived.Test.YtjdhcdoekfikpaaMCut
namespace Go.Proofs.Ytjdhcdoekfikpaa
open Go.RowKit

theorem set_of (p : Nat → Bool) : ∀ n, ∃ s, s < 2 ^ n ∧ ∀ i, i < n → s.testBit i = p i
  | 0 => ⟨0, by simp, fun i hi => absurd hi (by omega)⟩
  | n + 1 => by
    obtain ⟨s, hs, hb⟩ := set_of p n
    cases hp : p n with
    | false =>
      refine ⟨s, by rw [Nat.pow_succ]; omega, fun i hi => ?_⟩
      by_cases hin : i < n
      · exact hb i hin
      · obtain rfl : i = n := by omega
        rw [hp]; exact Nat.testBit_lt_two_pow hs
    | true =>
      refine ⟨2 ^ n + s, by rw [Nat.pow_succ]; omega, fun i hi => ?_⟩
      by_cases hin : i < n
      · rw [Nat.testBit_two_pow_add_gt hin]; exact hb i hin
      · obtain rfl : i = n := by omega
        rw [hp, Nat.testBit_two_pow_add_eq, Nat.testBit_lt_two_pow hs]; rfl
def inS (s n : Nat) : List Nat := (List.range n).filter fun i => s.testBit i
def outS (s n : Nat) : List Nat := (List.range n).filter fun i => !s.testBit i
def worthS (g : Nat → Nat → Bool) (m n s : Nat) : Nat := (inS s n).length + near g m (outS s n)
theorem inS_succ (s n : Nat) : (inS s (n + 1)).length = (inS s n).length + if s.testBit n = true then 1 else 0 := by
  unfold inS
  rw [List.range_succ, List.filter_append, List.length_append]
  cases h : s.testBit n <;> simp [h]
theorem outS_succ (s n : Nat) : outS s (n + 1) = outS s n ++ if s.testBit n = true then [] else [n] := by
  unfold outS
  rw [List.range_succ, List.filter_append]
  cases h : s.testBit n <;> simp [h]
theorem worthS_ge (g : Nat → Nat → Bool) (m n s : Nat) : kuhn g m (List.range n) ≤ worthS g m n s := by
  refine cover_ge g m (List.range n) (inS s n) (outS s n) (nodup_range n) fun r hr => ?_
  cases h : s.testBit r with
  | true => exact .inl (List.mem_filter.2 ⟨hr, h⟩)
  | false => exact .inr (List.mem_filter.2 ⟨hr, by simp [h]⟩)
theorem worthS_eq (g : Nat → Nat → Bool) (m n : Nat) : ∃ s, s < 2 ^ n ∧ worthS g m n s ≤ kuhn g m (List.range n) := by
  obtain ⟨p, hp⟩ := cover_eq g m (List.range n) (nodup_range n)
  obtain ⟨s, hs, hb⟩ := set_of p n
  refine ⟨s, hs, ?_⟩
  have h1 : inS s n = (List.range n).filter p := List.filter_congr fun x hx => hb x (List.mem_range.1 hx)
  have h2 : outS s n = (List.range n).filter fun r => !p r := List.filter_congr fun x hx => by rw [hb x (List.mem_range.1 hx)]
  rw [worthS, h1, h2]
  exact hp
theorem outS_lt {s n : Nat} : ∀ r ∈ outS s n, r < n := fun _r hr => List.mem_range.1 (List.mem_filter.1 hr).1
theorem outS_len (s n : Nat) : (inS s n).length + (outS s n).length = n := by
  have := filter_split (fun i => s.testBit i) (List.range n)
  rw [List.length_range] at this
  exact this
/-- The least of the worths of the sets tried so far. -/
structure Lst (g : Nat → Nat → Bool) (m n s v : Nat) : Prop where
  ge : kuhn g m (List.range n) ≤ v
  le : v ≤ n
  all : ∀ s', s' < s → v ≤ worthS g m n s'
theorem Lst.start (g : Nat → Nat → Bool) (m n : Nat) : Lst g m n 0 n := ⟨by have := kuhn_le g m (List.range n) (nodup_range n); rwa [List.length_range] at this, Nat.le_refl _, fun _ h => absurd h (by omega)⟩
theorem Lst.step {g : Nat → Nat → Bool} {m n s v : Nat} (h : Lst g m n s v) : Lst g m n (s + 1) (min v (worthS g m n s)) := by
  refine ⟨?_, ?_, fun s' hs => ?_⟩
  · have h1 := h.ge
    have h2 := worthS_ge g m n s
    omega
  · have := h.le
    omega
  · by_cases e : s' = s
    · rw [e]; omega
    · have := h.all s' (by omega)
      omega
theorem Lst.fin {g : Nat → Nat → Bool} {m n v : Nat} (h : Lst g m n (2 ^ n) v) : v = kuhn g m (List.range n) := by
  obtain ⟨s, hs, hw⟩ := worthS_eq g m n
  have h1 := h.all s hs
  have h2 := h.ge
  omega
theorem bit_test {s i : Nat} (hs : s ≤ 256) : (bits BinOp.and IntKind.i64 ((s : Int) / 2 ^ i) 1 == 1) = s.testBit i := by
  have e : ((s : Int) / 2 ^ i) = ((s / 2 ^ i : Nat) : Int) := by simp
  have hle : s / 2 ^ i ≤ s := Nat.div_le_self _ _
  rw [e, Nat.testBit_eq_decide_div_mod_eq]
  generalize s / 2 ^ i = a at hle
  have h1 : (BitVec.ofInt 64 (a : Int)).toNat = a := by
    rw [BitVec.ofInt_natCast, BitVec.toNat_ofNat]; exact Nat.mod_eq_of_lt (by omega)
  have h2 : (BitVec.ofInt 64 (1 : Int)).toNat = 1 := by decide
  have h3 : bits BinOp.and IntKind.i64 (a : Int) 1 = ((a % 2 : Nat) : Int) := by
    show IntKind.i64.wrap ((BitVec.ofInt 64 (a : Int) &&& BitVec.ofInt 64 (1 : Int)).toNat : Int) = _
    rw [BitVec.toNat_and, h1, h2, Nat.and_one_is_mod]
    exact IntWalk.i64_in _ (by omega)
  rw [h3]
  rcases Nat.mod_two_eq_zero_or_one a with h | h <;> rw [h] <;> rfl
set_option maxRecDepth 100000 in
set_option maxHeartbeats 2000000 in
theorem cover_any (A : Option Addr) (n c : Nat) (T : List (List Int)) (w : World) (hT : SlRc w A n T) (hn : n ≤ 9223372036854775807) :
    Calls Try.prog 11 #[.slice A n c] w fun e w' => e = .returned (.bool true) ∧ Below w.heap.size w w' := by
  refine calls_cps ?_
  intro R hR
  obtain ⟨T1, hT1⟩ : ∃ T1, tabL 8 12 T = T1 := ⟨_, rfl⟩
  obtain ⟨L, hL⟩ : ∃ L, T1.length = L := ⟨_, rfl⟩
  have hL8 : L ≤ 8 := by rw [← hL, ← hT1, tabL_len]; omega
  have HT1 := Lib.hid hT1
  have HL := Lib.hid hL
  have HT := Lib.hid hT
  clear hT1 hL hT
  go_enter Try.func11, Try.ntmps11
  go_wp2_with fail
  refine (table_tc A n c T _ _ 8 12 rfl rfl (by omega) (by omega) _ HT.out hn).mono ?_
  rw [HT1.out, HL.out]
  rintro e w1 ⟨A1, c1, rfl, h1⟩
  by_cases hb : tabB T1 = true
  · obtain ⟨m, hok⟩ := tok_of hb
    have Hok := Lib.hid hok
    have Hb := Lib.hid hb
    obtain ⟨K, hK⟩ : ∃ K, kuhn (gT T1) m (List.range L) = K := ⟨_, rfl⟩
    have HK := Lib.hid hK
    clear hok hb hK
    go_wp2_with fail
    refine (refCheck_yesT w A1 L c1 T1 _ h1 Hb.out).mono ?_
    rintro e w2 ⟨rfl, h2⟩
    go_wp2_with fail
    refine (most_yesT w A1 L c1 m K T1 _ h2 Hok.out HK.out).mono ?_
    rintro e w3 ⟨rfl, h3⟩
    obtain ⟨P, hP⟩ : ∃ P, 2 ^ L = P := ⟨_, rfl⟩
    have hP256 : P ≤ 256 := by rw [← hP]; exact Nat.pow_le_pow_right (by omega) hL8
    have hPi : ((2 : Int) ^ L) = (P : Int) := by rw [← hP]; simp
    have zP : wrap64 ((2 : Int) ^ L) = (P : Int) := by rw [hPi]; unfold wrap64; omega
    clear hPi
    have HP := Lib.hid hP
    have H3 := Lib.hid h3
    clear h1 h2 h3 hP
    go_wp2_with fail
    go_loopg [6, 7, 8, 9, 10] P (fun gk s6 s7 s8 s9 s10 wr => ∃ (s v : Nat), s + gk = P ∧ s7 = .int .i64 ((s : Nat) : Int) ∧ s6 = .int .i64 ((v : Nat) : Int) ∧ Hid (Lst (gT T1) m L s v) ∧ Below w3.heap.size w3 wr)
    case atStart => exact ⟨0, L, by omega, rfl, rfl, Lib.hid (Lst.start _ _ _), Below.refl _ _⟩
    case round =>
      obtain ⟨s, v, hgk, rfl, rfl, Hl, hb⟩ := hrel
      obtain ⟨wi, rfl⟩ : ∃ wi : World, wi = wr := ⟨_, rfl⟩
      by_cases hlt : s < P
      · obtain ⟨g1, rfl⟩ : ∃ g1, gk = g1 + 1 := ⟨gk - 1, by omega⟩
        have i1 : (s : Int) < (P : Int) := by omega
        have hsz := hb.size
        have Hb2 := Lib.hid hb
        clear hb
        go_wp2_with fail
        clear zP
        go_loopg [8, 9, 10] L (fun gk s8 s9 s10 wx => ∃ (i r : Nat) (A6 : Option Addr) (q c6 : Nat), i + gk = L ∧ s10 = .int .i64 ((i : Nat) : Int) ∧ s8 = .int .i64 ((r : Nat) : Int) ∧ s9 = .slice A6 q c6 ∧ Hid (r = (inS s i).length) ∧ r + q = i ∧ wx.ownsRow wi.heap.size 3 1 (.slice A6 q c6) q ((castL (outS s i)).flatMap intE) ∧ Below wi.heap.size wi wx)
        case atStart => exact ⟨0, 0, _, _, _, by omega, rfl, rfl, rfl, Lib.hid rfl, rfl, own_new wi #[] 3 1 0 wi.heap.size rfl (Nat.le_refl _) (by unfold maxLen; omega), below_new wi _⟩
        case round =>
          obtain ⟨i, r, A6, q, c6, hgi, rfl, rfl, rfl, Hr, hrq, ho, hb⟩ := hrel
          obtain ⟨wx, rfl⟩ : ∃ wx : World, wx = wr := ⟨_, rfl⟩
          have hsx := hb.size
          have Ho := Lib.hid ho
          have Hb3 := Lib.hid hb
          clear ho hb
          by_cases hli : i < L
          · have i2 : (i : Int) < (L : Int) := by omega
            have hbt := bit_test (s := s) (i := i) (by omega)
            have H1 := Lib.hid (inS_succ s i)
            have H2 := Lib.hid (outS_succ s i)
            cases htb : s.testBit i with
            | true =>
              rw [htb] at hbt
              have Hr2 := Lib.hid (show r + 1 = (inS s (i + 1)).length by rw [H1.out, htb, Hr.out]; rfl)
              have Ho2 := Lib.hid (show outS s (i + 1) = outS s i by rw [H2.out, htb]; exact List.append_nil _)
              clear htb
              go_wp2_with fail
              go_roundg (gk - 1)
              case measure => omega
              case rel => exact ⟨i + 1, r + 1, A6, q, c6, by omega, by go_num, by go_num, rfl, Hr2, by omega, by rw [Ho2.out]; exact Ho.out, Hb3.out⟩
            | false =>
              rw [htb] at hbt
              have Hr2 := Lib.hid (show r = (inS s (i + 1)).length by rw [H1.out, htb, Hr.out]; rfl)
              have Ho2 := Lib.hid (show castL (outS s (i + 1)) = castL (outS s i) ++ [((i : Nat) : Int)] by rw [H2.out, htb]; simp [castL])
              clear htb
              go_wp2_with (at_builtin; refine wpList_app rfl (.tmp 45) (.tmp 47) _ rfl elemInt wi.heap.size _ _ _ rfl (Ho.out.kept (World.grownBy_alloc wx _ none) (by cases (Value.slice A6 q c6).ownBlock <;> simp)) _ _ _ _ rfl (Sl.new _ _ _ 1 1 rfl) (by simp [Value.oneCell']) (by unfold maxLen; omega) (by omega) (by simp; omega) ?_; intro A7 c7 w7 ho7 hg7 _; have HB := Lib.hid (below_own (Hb3.out.alloc hsx _) (Ho.out.kept (World.grownBy_alloc wx _ none) (by cases (Value.slice A6 q c6).ownBlock <;> simp)) (Nat.le_refl _) (by simp; omega) hg7); have HO := Lib.hid (show w7.ownsRow wi.heap.size 3 1 (.slice A7 (q + 1) c7) (q + 1) ((castL (outS s (i + 1))).flatMap intE) from by rw [Ho2.out, List.flatMap_append]; exact ho7); clear ho7 hg7)
              go_roundg (gk - 1)
              case measure => omega
              case rel => exact ⟨i + 1, r, A7, q + 1, c7, by omega, by go_num, rfl, rfl, Hr2, by omega, HO.out, HB.out⟩
          · obtain rfl : i = L := by omega
            have h4 := H3.out.below (Hb2.out.trans (Hb3.out.mono hsz))
            have hlen := outS_len s i
            rw [← Hr.out] at hlen
            have hs4 : SlE intE 1 wx A6 q (castL (outS s i)) := SlE.of_own Ho.out (by rw [castL_len]; omega)
            obtain ⟨N, hN⟩ : ∃ N, near (gT T1) m (outS s i) = N := ⟨_, rfl⟩
            have hwS : worthS (gT T1) m i s = r + N := by rw [worthS, hN, Hr.out]
            have hst := Hl.out.step
            rw [hwS] at hst
            have HN := Lib.hid hN
            have H4 := Lib.hid h4
            have Hs4 := Lib.hid hs4
            have Hst := Lib.hid hst
            have Hb5 := Lib.hid (Hb2.out.trans (Hb3.out.mono hsz))
            have hN64 : N ≤ 64 := by rw [← hN]; exact Nat.le_trans (near_le _ _ _) Hok.out.m64
            clear hlen hN hwS hst h4 hs4
            go_wp2_with fail
            refine (refNear_any A1 i c1 m T1 A6 q c6 (outS s i) wx H4.out.rc.slr Hok.out Hs4.out (by omega) outS_lt).mono ?_
            rw [HN.out]
            rintro e w7 ⟨rfl, rfl⟩
            go_wp2_with fail
            go_roundg g1
            case measure => omega
            case rel => exact ⟨s + 1, min v (r + N), by omega, by rw [show ((s + 1 : Nat) : Int) = (s : Int) + 1 by omega], by rw [show min (v : Int) ((r : Int) + (N : Int)) = ((min v (r + N) : Nat) : Int) by omega], Hst, Hb5.out⟩
      · obtain rfl : s = P := by omega
        have h4 := H3.out.below hb
        have hvK : v = K := by
          have h5 := Hl.out
          rw [← HP.out] at h5
          rw [h5.fin, HK.out]
        subst hvK
        have g1 : ((v : Int) == (v : Int)) = true := by simp
        clear hb
        go_wp2_with fail
        refine (lives_T w A1 L c1 T1 _ h4).mono ?_
        rintro e w6 ⟨rfl, h6⟩
        have Hf := Lib.hid (hR.out (.returned (.bool true)) w6 ⟨rfl, h6.bel⟩)
        clear h4 h6
        go_wp2
        exact Hf.out
  · have hb' : tabB T1 = false := by simpa using hb
    have Hb := Lib.hid hb'
    clear hb hb'
    go_wp2_with fail
    refine (refCheck_noT w A1 L c1 T1 _ h1 Hb.out).mono ?_
    rintro e w3 ⟨rfl, h3⟩
    go_wp2_with fail
    refine (lives_T w A1 L c1 T1 _ h3).mono ?_
    rintro e w6 ⟨rfl, h6⟩
    have Hf := Lib.hid (hR.out (.returned (.bool true)) w6 ⟨rfl, h6.bel⟩)
    clear h1 h3 h6
    go_wp2
    exact Hf.out
end Go.Proofs.Ytjdhcdoekfikpaa
