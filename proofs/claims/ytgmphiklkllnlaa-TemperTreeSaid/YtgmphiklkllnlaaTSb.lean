/-
  Contracts of slices.SortStableFunc for any number of links, of kruskal with Bearings' function and of temper.Bearings; each states its condition.
-/
import Derived.Test.YtgmphiklkllnlaaTSy3
import Derived.Test.YtgmphiklkllnlaaTSort
import Derived.Test.YtgmphiklkllnlaaTKrB
import Derived.Test.YtgmphiklkllnlaaTBea
namespace Go.Proofs.Ytgmphiklkllnlaa
section
open Go.RowKit
def origs (bl : List (List Int × List Int)) : List Int := (bl.map Prod.fst).flatten
def curs (bl : List (List Int × List Int)) : List Int := (bl.map Prod.snd).flatten
/-- Blocks: what stood there, and what stands there now, rising. -/
def Bl (L : List Lk) (s : Nat) (bl : List (List Int × List Int)) : Prop := ∀ p ∈ bl, p.2.length = s ∧ p.2.Perm p.1 ∧ Ris L p.2
theorem origs_snoc (bl : List (List Int × List Int)) (p : List Int × List Int) : origs (bl ++ [p]) = origs bl ++ p.1 := by simp [origs]
theorem curs_snoc (bl : List (List Int × List Int)) (p : List Int × List Int) : curs (bl ++ [p]) = curs bl ++ p.2 := by simp [curs]
theorem origs_cons (bl : List (List Int × List Int)) (p : List Int × List Int) : origs (p :: bl) = p.1 ++ origs bl := rfl
theorem curs_cons (bl : List (List Int × List Int)) (p : List Int × List Int) : curs (p :: bl) = p.2 ++ curs bl := rfl
theorem Bl.snoc {L : List Lk} {s : Nat} {bl : List (List Int × List Int)} {p : List Int × List Int} (h : Bl L s bl) (hp : p.2.length = s ∧ p.2.Perm p.1 ∧ Ris L p.2) : Bl L s (bl ++ [p]) := fun q hq => by
  rcases List.mem_append.1 hq with hq | hq
  · exact h q hq
  · simp only [List.mem_singleton] at hq; subst hq; exact hp
theorem Bl.perm {L : List Lk} {s : Nat} : ∀ {bl : List (List Int × List Int)}, Bl L s bl → (curs bl).Perm (origs bl)
  | [], _ => List.Perm.refl _
  | p :: bl, h => (h p (by simp)).2.1.append (Bl.perm (bl := bl) fun q hq => h q (by simp [hq]))
theorem stb_part {L : List Lk} {A X B : List Int} (h : Stb L (A ++ (X ++ B))) : Stb L X := (List.pairwise_append.1 (List.pairwise_append.1 h).2.1).1
theorem stb_mid {L : List Lk} {A X Y B : List Int} (h : Stb L (A ++ (X ++ (Y ++ B)))) : ∀ x ∈ X, ∀ y ∈ Y, lkW L x = lkW L y → x < y :=
  fun x hx y hy => (List.pairwise_append.1 (List.pairwise_append.1 h).2.1).2.2 x hx y (List.mem_append_left _ hy)
/-- The contract of symMerge at two neighbouring parts of a row that began as so and so. -/
theorem sym_at (L : List Lk) (A : Option Addr) (n c bl g N cap : Nat) (hNs : N ≤ 100000) (hcap : N ≤ cap) (P X Y Q A0 X0 Y0 B0 : List Int) (w : World) (hS : Srt w L A n c bl g) (hB : Blk w g (P ++ (X ++ (Y ++ Q)))) (hN : N = (P ++ (X ++ (Y ++ Q))).length) (hX : X ≠ []) (hY : Y ≠ [])
    (pX : X.Perm X0) (pY : Y.Perm Y0) (rX : Ris L X) (rY : Ris L Y) (hst : Stb L (A0 ++ (X0 ++ (Y0 ++ B0)))) (hv : ∀ z ∈ A0 ++ (X0 ++ (Y0 ++ B0)), 0 ≤ z ∧ z < n) (a m b : Int) (ha : a = (P.length : Nat)) (hm : m = ((P.length + X.length : Nat) : Int)) (hb : b = ((P.length + X.length + Y.length : Nat) : Int)) :
    Calls Try.prog 88 #[.slice (some ⟨g, 0, none⟩) N cap, .int .i64 a, .int .i64 m, .int .i64 b, .func (.func 71) #[] #[.pointer (some ⟨bl, 0, none⟩)]] w
      fun e w' => e = .returned (.tuple #[]) ∧ ∃ r, r.length = X.length + Y.length ∧ r.Perm (X0 ++ Y0) ∧ Ris L r ∧ Blk w' g (P ++ (r ++ Q)) ∧ Kx (fun j => j = g) w w' := by
  subst ha; subst hm; subst hb
  refine (sym_any L A n c bl g N cap hNs hcap (X.length + Y.length) P X Y Q w P.length (P.length + X.length) (P.length + X.length + Y.length) (Nat.le_refl _) hS hB rfl rfl rfl hN hX hY (fun z hz => hv z ?_) rX rY (fun x hx y hy => stb_mid hst x (pX.subset hx) y (pY.subset hy))).mono ?_
  · rcases List.mem_append.1 hz with h | h
    · have := pX.subset h; simp [this]
    · have := pY.subset h; simp [this]
  · rintro e w' ⟨h1, r, h2, h3, h4, h5⟩
    exact ⟨h1, r, by rw [h3.length_eq, List.length_append], h3.trans (pX.append pY), h2, h4, h5⟩
structure Ph1 (L : List Lk) (W : World) (g : Nat) (seg : List Int) (bl : List (List Int × List Int)) (t : List Int) (a : Nat) : Prop where
  bls : Bl L 20 bl
  seg : origs bl ++ t = seg
  len : (curs bl).length = a
  blk : Blk W g (curs bl ++ t)
structure Ph2 (L : List Lk) (W : World) (g : Nat) (seg : List Int) (s : Nat) (bl : List (List Int × List Int)) (o d : List Int) : Prop where
  bls : Bl L s bl
  seg : origs bl ++ o = seg
  per : d.Perm o
  ris : Ris L d
  blk : Blk W g (curs bl ++ d)
structure Ph3 (L : List Lk) (W : World) (g : Nat) (seg : List Int) (s : Nat) (dn rs : List (List Int × List Int)) (o d : List Int) (a : Nat) : Prop where
  dns : Bl L (2 * s) dn
  rss : Bl L s rs
  seg : origs dn ++ (origs rs ++ o) = seg
  len : (curs dn).length = a
  blk : Blk W g (curs dn ++ (curs rs ++ d))
set_option maxRecDepth 8000 in
set_option maxHeartbeats 8000000 in
theorem stb2_any (L : List Lk) (A : Option Addr) (n c bl g N cap : Nat) (seg : List Int) (w : World) (hS : Srt w L A n c bl g) (hB : Blk w g seg) (hN : N = seg.length) (hNs : N ≤ 100000) (hcap : N ≤ cap)
    (hv : ∀ x ∈ seg, 0 ≤ x ∧ x < n) (hst : Stb L seg) :
    Calls Try.prog 75 #[.slice (some ⟨g, 0, none⟩) N cap, .int .i64 (N : Nat), .func (.func 71) #[] #[.pointer (some ⟨bl, 0, none⟩)]] w
      fun e w' => e = .returned (.tuple #[]) ∧ ∃ r, Ris L r ∧ r.Perm seg ∧ Blk w' g r ∧ Kx (fun j => j = g) w w' := by
  refine calls_cps ?_
  intro R hR
  have HS := Lib.hid hS
  have HN := Lib.hid hN
  have Hv := Lib.hid hv
  have Hst := Lib.hid hst
  have Hins := Lib.hid (fun (W : World) (P t Q : List Int) (hk : Kx (fun j => j = g) w W) (hB : Blk W g (P ++ (t ++ Q))) (hl : N = (P ++ (t ++ Q)).length) (hv : ∀ x ∈ t, 0 ≤ x ∧ x < n) (hs : Stb L t) (a b : Int) (ha : a = (P.length : Nat)) (hb : b = ((P.length + t.length : Nat) : Int)) =>
    (show Calls Try.prog 87 #[.slice (some ⟨g, 0, none⟩) N cap, .int .i64 a, .int .i64 b, .func (.func 71) #[] #[.pointer (some ⟨bl, 0, none⟩)]] W (fun e w' => e = .returned (.tuple #[]) ∧ ∃ r, Ris L r ∧ r.Perm t ∧ Blk w' g (P ++ (r ++ Q)) ∧ Kx (fun j => j = g) W w') from by
      subst ha; subst hb
      by_cases ht : t = []
      · subst ht
        refine (ins_none bl N cap P.length _ W (by rw [List.length_append] at hl; omega)).mono ?_
        rintro e w' ⟨h1, q, rfl⟩
        exact ⟨h1, [], List.Pairwise.nil, List.Perm.refl _, hB, (Kx.refl _ _).drewN q⟩
      · exact ins_any L A n c bl g N cap P t Q W (HS.out.kx hk) hB hl hNs hcap hv hs ht))
  have H0 := Lib.hid (show Ph1 L w g seg [] seg 0 from ⟨fun p hp => by simp at hp, rfl, rfl, hB⟩)
  clear hS hB hN hv hst
  go_enter Try.func75, Try.ntmps75
  go_wp2_with fail
  go_loopw [7, 8] (fun s7 s8 wr => ∃ (bk : List (List Int × List Int)) (t : List Int) (a : Nat), s7 = .int .i64 (a : Nat) ∧ s8 = .int .i64 ((a : Int) + 20) ∧ a ≤ N ∧ Hid (Ph1 L wr g seg bk t a) ∧ Kx (fun j => j = g) w wr) (fun s7 _ _ => N - (intOf s7).toNat)
  case atStart => exact ⟨[], seg, 0, rfl, rfl, Nat.zero_le _, H0, Kx.refl _ _⟩
  case round =>
    obtain ⟨bk, t, a, rfl, rfl, haN, HP, hk⟩ := hrel
    obtain ⟨wo, rfl⟩ : ∃ wo : World, wo = wr := ⟨_, rfl⟩
    have hlt : a + t.length = N := by
      rw [HN.out, ← HP.out.seg, List.length_append, ← (HP.out.bls.perm).length_eq, HP.out.len]
    by_cases hb : a + 20 ≤ N
    · obtain ⟨t1, t2, ht, ht1⟩ := cut_at t (k := 20) (by omega)
      subst ht
      have i1 : (a : Int) + 20 ≤ (N : Int) := by omega
      have hst2 : Stb L (origs bk ++ (t1 ++ t2)) := by rw [HP.out.seg]; exact Hst.out
      have hi := Hins.out wo (curs bk) t1 t2 hk HP.out.blk (by rw [List.length_append, HP.out.len]; omega) (fun x hx => Hv.out x (by rw [← HP.out.seg]; simp [hx])) (stb_part hst2)
      rw [HP.out.len, ht1] at hi
      have Hi := Lib.hid hi
      have Hk := Lib.hid hk
      clear hi hst2 hk
      go_wp2_with (go_at_call 87; refine (Hi.out _ _ rfl (by omega)).mono ?_; rintro e w1 ⟨rfl, r, hr1, hr2, hr3, hr4⟩; have Hr := Lib.hid (And.intro hr1 hr2); have Hb2 := Lib.hid hr3; have Hk2 := Lib.hid (Hk.out.trans hr4 (fun _ _ h => h)); clear hr1 hr2 hr3 hr4)
      refine ⟨⟨bk ++ [(t1, r)], t2, a + 20, by go_num, by congr 1, by omega, Lib.hid ⟨HP.out.bls.snoc ⟨by rw [Hr.out.2.length_eq]; exact ht1, Hr.out.2, Hr.out.1⟩, ?_, ?_, ?_⟩, Hk2.out⟩, by simp [intOf]; omega⟩
      · rw [origs_snoc, List.append_assoc]; exact HP.out.seg
      · rw [curs_snoc, List.length_append, HP.out.len]; simp only [Hr.out.2.length_eq, ht1]
      · rw [curs_snoc, List.append_assoc]; exact Hb2.out
    · have i1 : ¬ (a : Int) + 20 ≤ (N : Int) := by omega
      have hst2 : Stb L (origs bk ++ (t ++ [])) := by rw [List.append_nil, HP.out.seg]; exact Hst.out
      have hi := Hins.out wo (curs bk) t [] hk (by rw [List.append_nil]; exact HP.out.blk) (by rw [List.append_nil, List.length_append, HP.out.len]; omega) (fun x hx => Hv.out x (by rw [← HP.out.seg]; simp [hx])) (stb_part hst2)
      rw [HP.out.len] at hi
      have Hi := Lib.hid hi
      have Hk := Lib.hid hk
      clear hi hst2 hk
      go_wp2_with (go_at_call 87; refine (Hi.out _ _ rfl (by omega)).mono ?_; rintro e w1 ⟨rfl, r, hr1, hr2, hr3, hr4⟩; rw [List.append_nil] at hr3; have hrl := hr2.length_eq; have HQ := Lib.hid (show Ph2 L w1 g seg 20 bk t r from ⟨HP.out.bls, HP.out.seg, hr2, hr1, hr3⟩); have Hk2 := Lib.hid (Hk.out.trans hr4 (fun _ _ h => h)); clear hr1 hr2 hr3 hr4)
      have hd0 : r.length < 20 := by omega
      have HP0 := HP.out.len
      clear Hi Hk HP H0 Hins
      go_loopw [6, 7, 8, 9] (fun s6 _ _ _ wr => ∃ (s : Nat) (bk : List (List Int × List Int)) (o d : List Int), s6 = .int .i64 (s : Nat) ∧ 0 < s ∧ s ≤ 2 * N + 20 ∧ d.length < s ∧ (curs bk).length + d.length = N ∧ Hid (Ph2 L wr g seg s bk o d) ∧ Kx (fun j => j = g) w wr) (fun s6 _ _ _ _ => N - (intOf s6).toNat)
      case atStart => exact ⟨20, bk, t, r, rfl, by omega, by omega, hd0, by omega, HQ, Hk2.out⟩
      case round =>
        clear HQ Hk2 hd0 HP0 hrl hlt haN hb i1
        obtain ⟨s, bk2, o, d, rfl, hs0, hsN, hds, hlen, HQ, hk⟩ := hrel
        obtain ⟨wp, rfl⟩ : ∃ wp : World, wp = wr := ⟨_, rfl⟩
        have Hk := Lib.hid hk
        clear hk
        by_cases hsn : s < N
        · have i1 : (s : Int) < (N : Int) := by omega
          have H3 := Lib.hid (show Ph3 L wp g seg s [] bk2 o d 0 from ⟨fun p hp => by simp at hp, HQ.out.bls, HQ.out.seg, rfl, HQ.out.blk⟩)
          have Hd := Lib.hid (And.intro HQ.out.per HQ.out.ris)
          have hdo : d.length = o.length := Hd.out.1.length_eq
          clear HQ hlen
          go_wp2_with fail
          go_loopw [7, 8] (fun s7 s8 wr => ∃ (dn rs : List (List Int × List Int)) (a : Nat), s7 = .int .i64 (a : Nat) ∧ s8 = .int .i64 ((a : Int) + 2 * (s : Int)) ∧ a ≤ N ∧ Hid (Ph3 L wr g seg s dn rs o d a) ∧ Kx (fun j => j = g) w wr) (fun s7 _ _ => N - (intOf s7).toNat)
          case atStart => exact ⟨[], bk2, 0, rfl, by congr 1; omega, Nat.zero_le _, H3, Hk.out⟩
          case round =>
            clear H3 Hk
            obtain ⟨dn, rs, a, rfl, rfl, haN, H3, hk⟩ := hrel
            obtain ⟨wo, rfl⟩ : ∃ wo : World, wo = wr := ⟨_, rfl⟩
            have hl3 : a + (curs rs).length + d.length = N := by
              rw [HN.out, ← H3.out.seg, List.length_append, List.length_append, ← H3.out.dns.perm.length_eq, ← H3.out.rss.perm.length_eq, H3.out.len, hdo]; omega
            have Hk := Lib.hid hk
            clear hk
            by_cases hb : a + 2 * s ≤ N
            · have i2 : (a : Int) + 2 * (s : Int) ≤ (N : Int) := by omega
              obtain ⟨p1, p2, rs2, hrs⟩ : ∃ p1 p2 rs2, rs = p1 :: p2 :: rs2 := by
                cases h1 : rs with
                | nil => exfalso; rw [h1] at hl3; first | (simp [curs] at hl3; omega) | (simp [curs] at hl3 <;> omega)
                | cons p1 r1 =>
                  cases h2 : r1 with
                  | nil =>
                    exfalso
                    have h3 := (H3.out.rss p1 (by rw [h1]; simp)).1
                    rw [h1, h2, curs_cons, List.length_append, h3] at hl3
                    first | (simp [curs] at hl3; omega) | (simp [curs] at hl3 <;> omega)
                  | cons p2 r2 => exact ⟨p1, p2, r2, rfl⟩
              subst hrs
              obtain ⟨q1, q2, q3⟩ := H3.out.rss p1 (by simp)
              obtain ⟨q4, q5, q6⟩ := H3.out.rss p2 (by simp)
              have hse := H3.out.seg
              rw [origs_cons, origs_cons, List.append_assoc, List.append_assoc] at hse
              have hbl := H3.out.blk
              rw [curs_cons, curs_cons, List.append_assoc, List.append_assoc] at hbl
              rw [curs_cons, curs_cons, List.length_append, List.length_append, q1, q4] at hl3
              have hsy := sym_at L A n c bl g N cap hNs hcap (curs dn) p1.2 p2.2 (curs rs2 ++ d) (origs dn) p1.1 p2.1 (origs rs2 ++ o) wo (HS.out.kx Hk.out) hbl (by simp only [List.length_append, q1, q4, H3.out.len]; omega) (fun h => by rw [h] at q1; simp at q1; omega) (fun h => by rw [h] at q4; simp at q4; omega) q2 q5 q3 q6 (by rw [hse]; exact Hst.out) (by rw [hse]; exact Hv.out)
              rw [H3.out.len, q1, q4] at hsy
              have Hsy := Lib.hid hsy
              have Hse := Lib.hid hse
              have Hrs := Lib.hid (show Bl L s rs2 from fun p hp => H3.out.rss p (by simp [hp]))
              clear hsy hse hbl q1 q2 q3 q4 q5 q6
              go_wp2_with (go_at_call 88; refine (Hsy.out _ _ _ rfl (by omega) (by omega)).mono ?_; rintro e w1 ⟨rfl, r, hr1, hr2, hr3, hr4, hr5⟩; have Hr := Lib.hid (And.intro hr1 (And.intro hr2 hr3)); have Hb2 := Lib.hid hr4; have Hk2 := Lib.hid (Hk.out.trans hr5 (fun _ _ h => h)); clear hr1 hr2 hr3 hr4 hr5)
              refine ⟨⟨dn ++ [(p1.1 ++ p2.1, r)], rs2, a + 2 * s, by go_num, by congr 1, hb, Lib.hid ⟨H3.out.dns.snoc ⟨by rw [Hr.out.1]; omega, Hr.out.2.1, Hr.out.2.2⟩, Hrs.out, ?_, ?_, ?_⟩, Hk2.out⟩, by simp [intOf]; omega⟩
              · rw [origs_snoc, List.append_assoc, List.append_assoc]; exact Hse.out
              · rw [curs_snoc, List.length_append, H3.out.len]; simp only [Hr.out.1]; omega
              · rw [curs_snoc, List.append_assoc]; exact Hb2.out
            · have i2 : ¬ (a : Int) + 2 * (s : Int) ≤ (N : Int) := by omega
              by_cases hm : a + s < N
              · have i3 : (a : Int) + (s : Int) < (N : Int) := by omega
                obtain ⟨p1, hrs⟩ : ∃ p1, rs = [p1] := by
                  cases h1 : rs with
                  | nil => exfalso; rw [h1] at hl3; first | (simp [curs] at hl3; omega) | (simp [curs] at hl3 <;> omega)
                  | cons p1 r1 =>
                    cases h2 : r1 with
                    | nil => exact ⟨p1, rfl⟩
                    | cons p2 r2 =>
                      exfalso
                      have h3 := (H3.out.rss p1 (by rw [h1]; simp)).1
                      have h4 := (H3.out.rss p2 (by rw [h1, h2]; simp)).1
                      rw [h1, h2, curs_cons, curs_cons, List.length_append, List.length_append, h3, h4] at hl3
                      omega
                subst hrs
                obtain ⟨q1, q2, q3⟩ := H3.out.rss p1 (by simp)
                have hse := H3.out.seg
                rw [origs_cons, show origs [] = [] from rfl, List.append_nil] at hse
                have hbl := H3.out.blk
                rw [curs_cons, show curs [] = [] from rfl, List.append_nil] at hbl
                rw [curs_cons, show curs [] = [] from rfl, List.append_nil, q1] at hl3
                have hsy := sym_at L A n c bl g N cap hNs hcap (curs dn) p1.2 d [] (origs dn) p1.1 o [] wo (HS.out.kx Hk.out) (by rw [List.append_nil]; exact hbl) (by simp only [List.length_append, q1, H3.out.len, List.length_nil]; omega) (fun h => by rw [h] at q1; simp at q1; omega) (fun h => by rw [h] at hl3; simp at hl3; omega) q2 Hd.out.1 q3 Hd.out.2 (by rw [List.append_nil, hse]; exact Hst.out) (by rw [List.append_nil, hse]; exact Hv.out)
                rw [H3.out.len, q1] at hsy
                have Hsy := Lib.hid hsy
                have Hse := Lib.hid hse
                clear hsy hse hbl q1 q2 q3
                go_wp2_with (go_at_call 88; refine (Hsy.out _ _ _ rfl (by omega) (by omega)).mono ?_; rintro e w1 ⟨rfl, r, hr1, hr2, hr3, hr4, hr5⟩; rw [List.append_nil] at hr4; have Hr := Lib.hid (And.intro hr1 (And.intro hr2 hr3)); have Hb2 := Lib.hid hr4; have Hk2 := Lib.hid (Hk.out.trans hr5 (fun _ _ h => h)); clear hr1 hr2 hr3 hr4 hr5)
                have hrl := Hr.out.1
                have hcl := H3.out.len
                exact ⟨⟨2 * s, dn, p1.1 ++ o, r, by congr 1; omega, by omega, by omega, by omega, by omega, Lib.hid ⟨H3.out.dns, Hse.out, Hr.out.2.1, Hr.out.2.2, Hb2.out⟩, Hk2.out⟩, by simp [intOf]; omega⟩
              · have i3 : ¬ (a : Int) + (s : Int) < (N : Int) := by omega
                have Hn := Lib.hid (show ∃ o2 d2, Ph2 L wo g seg (2 * s) dn o2 d2 ∧ d2.length < 2 * s ∧ (curs dn).length + d2.length = N from by
                  cases h1 : rs with
                  | nil =>
                    rw [h1] at hl3
                    refine ⟨o, d, ⟨H3.out.dns, by have := H3.out.seg; rw [h1] at this; exact this, Hd.out.1, Hd.out.2, by have := H3.out.blk; rw [h1] at this; exact this⟩, by omega, by rw [H3.out.len]; first | (simp [curs] at hl3; omega) | (simp [curs] at hl3 <;> omega)⟩
                  | cons p1 r1 =>
                    obtain ⟨q1, q2, q3⟩ := H3.out.rss p1 (by rw [h1]; simp)
                    have hr1 : r1 = [] := by
                      cases h2 : r1 with
                      | nil => rfl
                      | cons p2 r2 =>
                        exfalso
                        have h4 := (H3.out.rss p2 (by rw [h1, h2]; simp)).1
                        rw [h1, h2, curs_cons, curs_cons, List.length_append, List.length_append, q1, h4] at hl3
                        omega
                    subst hr1
                    rw [h1, curs_cons, show curs [] = [] from rfl, List.append_nil, q1] at hl3
                    have hd0 : d = [] := List.length_eq_zero_iff.1 (by omega)
                    have hse := H3.out.seg
                    rw [h1, origs_cons, show origs [] = [] from rfl, List.append_nil] at hse
                    have hbl := H3.out.blk
                    rw [h1, curs_cons, show curs [] = [] from rfl, List.append_nil] at hbl
                    refine ⟨p1.1 ++ o, p1.2 ++ d, ⟨H3.out.dns, hse, q2.append Hd.out.1, by rw [hd0, List.append_nil]; exact q3, hbl⟩, by rw [List.length_append, q1]; omega, by rw [H3.out.len, List.length_append, q1]; omega⟩)
                go_wp2_with fail
                obtain ⟨o2, d2, hp2, hd2, hc2⟩ := Hn.out
                exact ⟨⟨2 * s, dn, o2, d2, by congr 1; omega, by omega, by omega, hd2, hc2, Lib.hid hp2, Hk.out⟩, by simp [intOf]; omega⟩
        · have i1 : ¬ (s : Int) < (N : Int) := by omega
          have Hf := Lib.hid (show R (.returned (.tuple #[])) wp from by
            have hne : curs bk2 ++ d = d ∨ d = [] := by
              cases h1 : bk2 with
              | nil => exact .inl rfl
              | cons p1 r1 =>
                right
                have q1 := (HQ.out.bls p1 (by rw [h1]; simp)).1
                rw [h1, curs_cons, List.length_append, q1] at hlen
                exact List.length_eq_zero_iff.1 (by omega)
            refine hR.out _ wp ⟨rfl, curs bk2 ++ d, ?_, ?_, HQ.out.blk, Hk.out⟩
            · rcases hne with h | h
              · rw [h]; exact HQ.out.ris
              · rw [h, List.append_nil]
                cases h1 : bk2 with
                | nil => exact List.Pairwise.nil
                | cons p1 r1 =>
                  have q1 := (HQ.out.bls p1 (by rw [h1]; simp)).1
                  have hr1 : r1 = [] := by
                    cases h2 : r1 with
                    | nil => rfl
                    | cons p2 r2 =>
                      exfalso
                      have h4 := (HQ.out.bls p2 (by rw [h1, h2]; simp)).1
                      rw [h1, h2, curs_cons, curs_cons, List.length_append, List.length_append, q1, h4] at hlen
                      omega
                  rw [hr1, curs_cons, show curs [] = [] from rfl, List.append_nil]
                  exact (HQ.out.bls p1 (by rw [h1]; simp)).2.2
            · rw [← HQ.out.seg]
              exact HQ.out.bls.perm.append HQ.out.per)
          clear hR HQ
          go_wp2_with fail
          go_end0
          exact Hf.out
set_option maxRecDepth 8000 in
set_option maxHeartbeats 4000000 in
theorem sort2_any (L : List Lk) (A : Option Addr) (n c bl g N cap : Nat) (seg : List Int) (w : World) (hS : Srt w L A n c bl g) (hB : Blk w g seg) (hN : N = seg.length) (hNs : N ≤ 100000) (hcap : N ≤ cap)
    (hv : ∀ x ∈ seg, 0 ≤ x ∧ x < n) (hst : Stb L seg) :
    Calls Try.prog 70 #[.slice (some ⟨g, 0, none⟩) N cap, .func (.func 71) #[] #[.pointer (some ⟨bl, 0, none⟩)]] w
      fun e w' => e = .returned (.tuple #[]) ∧ ∃ r, Ris L r ∧ r.Perm seg ∧ Blk w' g r ∧ Kx (fun j => j = g) w w' := by
  refine calls_cps ?_
  intro R hR
  have Hc := Lib.hid (stb2_any L A n c bl g N cap seg w hS hB hN hNs hcap hv hst)
  clear hS hB hN hv hst
  go_enter Try.func70, Try.ntmps70
  go_wp2_with (go_at_call 75; refine Hc.out.mono ?_; rintro e w1 ⟨rfl, hq⟩)
  have Hf := Lib.hid (hR.out _ _ ⟨rfl, hq⟩)
  clear hR hq Hc
  go_end0
  exact Hf.out
end
section
open Go.RowKit
set_option maxRecDepth 8000 in
set_option maxHeartbeats 8000000 in
theorem krC_any (notes : Int) (L : List Lk) (hL : Lks L) (hLn : L.length ≤ 512) (A : Option Addr) (n c bo bn : Nat) (w : World) (hS : SlE linkE 3 w A n L) (hne : bn ≠ bo) (hbo : w.heap[bo]? = some (.cells #[.slice none 0 0] 22 (0, 0))) (hA : 0 < n → ∀ a, A = some a → a.block ≠ bo)
    (hbn : w.heap[bn]? = some (.cells #[.int .i64 notes] 3 (0, 0))) (h1 : 1 ≤ notes) (h2 : notes ≤ 64) :
    Calls Try.prog 53 #[.slice A n c, .func (.func 54) #[] #[.pointer (some ⟨bo, 0, none⟩), .pointer (some ⟨bn, 0, none⟩)]] w
      fun e w' => e = .returned (.tuple #[]) ∧ Noted w' w.heap.size bo (kruL L (stopB notes)).1 ∧ Kx (fun j => j = bo) w w' := by
  refine calls_cps ?_
  intro R hR
  have HS := Lib.hid hS
  have Hbo := Lib.hid hbo
  have Hbn := Lib.hid hbn
  have HA := Lib.hid hA
  have HL := Lib.hid hL
  clear hS hbo hbn hA hL
  go_enter Try.func53, Try.ntmps53
  have hbl1 : bo < w.heap.size := (Array.getElem?_eq_some_iff.1 Hbo.out).1
  have hbn1 : bn < w.heap.size := (Array.getElem?_eq_some_iff.1 Hbn.out).1
  have hal := heap_alloc_new w (.cells #[.slice A n c] 34)
  have hbw := below_new w (.cells #[.slice A n c] 34)
  have hsz : (w.alloc (.cells #[.slice A n c] 34)).heap.size = w.heap.size + 1 := by simp
  go_wp2_with fail
  obtain ⟨w1, hw1⟩ : ∃ w1, w.alloc (.cells #[.slice A n c] 34) = w1 := ⟨_, rfl⟩
  obtain ⟨bl, hbl⟩ : ∃ bl, w.heap.size = bl := ⟨_, rfl⟩
  rw [hw1] at hal hbw hsz ⊢
  rw [hbl] at hal hbw hsz hbl1 hbn1 ⊢
  have Hal := Lib.hid hal
  have Hbw := Lib.hid hbw
  clear hw1 hal hbw
  refine wp_scope_straight ?_
  refine wp_seq ?_
  refine wp_region_list ?_
  refine wpList_zero64 (by rfl) (by rfl) ?_
  intro w2 hq hb2 hs2
  rw [hsz] at hq hb2 hs2 ⊢
  have Hal2 := Lib.hid ((hb2.block bl (by omega)).trans Hal.out)
  have Hbw2 := Lib.hid (Hbw.out.trans (hb2.mono (by omega)))
  have Hq := Lib.hid hq
  clear hq hb2 hsz Hal Hbw
  go_wp2_with fail
  go_loopw [5, 12] (fun s5 s12 wr => ∃ k : Nat, s12 = .int .i64 (k : Nat) ∧ k ≤ 64 ∧ Hid (BlkA wr (bl + 1) (zto k)) ∧ Kx (fun j => j = bl + 1) w2 wr) (fun _ i _ => 64 - (intOf i).toNat)
  case atStart => exact ⟨0, rfl, by omega, Hq, Kx.refl _ _⟩
  case round =>
    obtain ⟨k, rfl, hk, HB, hkx⟩ := hrel
    have Hkx := Lib.hid hkx
    clear hkx
    by_cases hlt : k < 64
    · have hlt' : (k : Int) < 64 := by omega
      have hk0 : (0 : Int) ≤ (k : Int) := by omega
      have g0 := HB.out.cell hlt
      have f0 := HB.out.frozen
      have Hs := Lib.hid (show BlkA (wr.setCell ⟨bl + 1, k, none⟩ (.int .i64 (k : Nat))) (bl + 1) (zto (k + 1)) from by rw [← zto_succ]; exact HB.out.set k k)
      have Hk2 := Lib.hid (kx_setg Hkx.out k (.int .i64 (k : Nat)))
      go_wp2_with fail
      refine ⟨⟨k + 1, by go_num, by omega, Hs, Hk2.out⟩, by simp [intOf] <;> omega⟩
    · obtain rfl : k = 64 := by omega
      have HB0 := Lib.hid (HB.out.congr (q := id) (fun i hi => by unfold zto; rw [if_pos hi]; rfl))
      clear HB
      have hn19 : n ≤ 512 := by rw [HS.out.1]; exact hLn
      have c0 := (cells1 ((Hkx.out.block bl (by omega) (by omega)).trans Hal2.out)).1
      have hmk := run_mkInt n (by omega)
      have hszr : bl + 2 ≤ wr.heap.size := by have := Hkx.out.size; omega
      have hnew := heap_alloc_new wr (.cells (madeCells #[Value.int .i64 0] n) 3)
      have hbnew := below_new wr (.cells (madeCells #[Value.int .i64 0] n) 3)
      go_wp2_with fail
      clear hmk c0
      obtain ⟨ob, hob⟩ : ∃ ob, wr.heap.size = ob := ⟨_, rfl⟩
      obtain ⟨w4, hw4⟩ : ∃ w4, wr.alloc (.cells (madeCells #[Value.int .i64 0] n) 3) = w4 := ⟨_, rfl⟩
      rw [hw4] at hnew hbnew ⊢
      rw [hob] at hnew hszr ⊢
      have Hb4 := Lib.hid (show Blk w4 ob (idxs 0 ++ List.replicate (n - 0) 0) from Blk.made hnew)
      have HB4 := Lib.hid (show BlkA w4 (bl + 1) id from (hbnew.block _ (by omega)).trans HB0.out)
      have Hkx4 := Lib.hid (show Kx (fun j => j = bl + 1) w2 w4 from Hkx.out.below hbnew)
      clear hnew hbnew hw4 Hkx HB0 hob hk
      go_loopw [7, 24] (fun s7 s24 W => ∃ k : Nat, s24 = .int .i64 (k : Nat) ∧ k ≤ n ∧ Hid (Blk W ob (idxs k ++ List.replicate (n - k) 0)) ∧ Kx (fun j => j = ob) w4 W) (fun _ i _ => n - (intOf i).toNat)
      case atStart => exact ⟨0, rfl, by omega, Hb4, Kx.refl _ _⟩
      case round =>
        obtain ⟨k, rfl, hk, HB, hkx⟩ := hrel
        have Hkx := Lib.hid hkx
        clear hkx
        by_cases hlt : k < n
        · have hlt' : (k : Int) < (n : Int) := by omega
          have hk0 : (0 : Int) ≤ (k : Int) := by omega
          have g0 := HB.out.cell (idxs_get hlt)
          have f0 := HB.out.frozen
          have Hs := Lib.hid (show Blk (wr.setCell ⟨ob, k, none⟩ (.int .i64 (k : Nat))) ob (idxs (k + 1) ++ List.replicate (n - (k + 1)) 0) from by rw [← idxs_set hlt]; exact HB.out.set k (k : Int))
          have Hk2 := Lib.hid (kx_setg Hkx.out k (.int .i64 (k : Nat)))
          go_wp2_with fail
          refine ⟨⟨k + 1, by go_num, by omega, Hs, Hk2.out⟩, by simp [intOf] <;> omega⟩
        · obtain rfl : k = n := by omega
          have HO := Lib.hid (show Blk wr ob (idxs k) from by have := HB.out; rwa [Nat.sub_self, List.replicate_zero, List.append_nil] at this)
          clear HB
          have Hkw := Lib.hid (show Kx (fun j => bl ≤ j) w wr from (((Kx.refl _ w).below (by rw [hbl]; exact Hbw2.out) : Kx (fun j => bl ≤ j) w w2).trans Hkx4.out (fun j _ hj => by omega)).trans Hkx.out (fun j hj hj2 => by omega))
          have Hbox := Lib.hid (show wr.heap[bl]? = some (.cells #[.slice A k c] 34 (0, 0)) from (Hkx.out.block bl (by have := Hkx4.out.size; omega) (by omega)).trans ((Hkx4.out.block bl (by omega) (by omega)).trans Hal2.out))
          have HBA := Lib.hid (HB4.out.kx Hkx.out (by omega))
          have HS5 := Lib.hid (slE_kxL HS.out Hkw.out (fun hn a ha => by
            obtain ⟨b', o', e', hb', _⟩ := HS.out.2.2 hn
            rw [ha] at e'; injection e' with e'; subst e'; show ¬ bl ≤ b'; omega))
          have hAlt : 0 < k → ∀ a, A = some a → a.block < bl := fun hn a ha => by
            obtain ⟨b', o', e', hb', _⟩ := HS.out.2.2 hn
            rw [ha] at e'; injection e' with e'; subst e'; show b' < bl; omega
          have HAlt := Lib.hid hAlt
          clear hAlt
          have HSo := Lib.hid (sort2_any L A k c bl ob k k (idxs k) wr ⟨HL.out.ok, Hbox.out, by omega, HS5.out, fun hn a ha => by have := HAlt.out hn a ha; omega⟩ HO.out (idxs_len k).symm (by omega) (Nat.le_refl _) (fun x hx => idxs_mem.1 hx) (idxs_stb L k))
          have Hbo5 := Lib.hid ((Hkw.out.block bo (by omega) (by omega)).trans Hbo.out)
          have Hbn5 := Lib.hid ((Hkw.out.block bn (by omega) (by omega)).trans Hbn.out)
          have Hbl := Lib.hid hbl
          clear hbl Hbo Hbn Hal2 Hbw2 Hq Hb4 HB4
          go_wp2_with (go_at_call 70; refine HSo.out.mono ?_; rintro e w6 ⟨rfl, r, hr1, hr2, hr3, hr4⟩; have Hr := Lib.hid (And.intro hr1 hr2); have HO6 := Lib.hid hr3; have Hk6 := Lib.hid hr4; clear hr1 hr2 hr3 hr4)
          have Hlk := Lib.hid (show k = L.length from HS.out.1)
          have hr : r = srt L (idxs L.length) := ris_uniq (by rw [← Hlk.out]; exact Hr.out.2.trans (srt_perm L _).symm) Hr.out.1 (srt_ris (idxs_nodup _))
          have Hlr := Lib.hid (show r.length = k by rw [Hr.out.2.length_eq, idxs_len])
          have Hrm := Lib.hid (show ∀ x ∈ r, 0 ≤ x ∧ x < k from fun x hx => idxs_mem.1 (Hr.out.2.subset hx))
          have Hrs := Lib.hid hr
          clear hr
          have hob5 : ob < wr.heap.size := HO.out.lt
          have HB6 := Lib.hid (HBA.out.kx Hk6.out (by omega))
          have Hbox6 := Lib.hid ((Hk6.out.block bl (by omega) (by omega)).trans Hbox.out)
          have Hbo6 := Lib.hid ((Hk6.out.block bo (by omega) (by omega)).trans Hbo5.out)
          have Hbn6 := Lib.hid ((Hk6.out.block bn (by omega) (by omega)).trans Hbn5.out)
          have HS6 := Lib.hid (slE_kxL HS5.out Hk6.out (fun hn a ha => by have := HAlt.out hn a ha; omega))
          have Hfin := Lib.hid (show ∀ W T, Noted W w6.heap.size bo T → T = (kruL L (stopB notes)).1 → Kx (fun j => j = bo ∨ j = bl + 1) w6 W → R (.returned (.tuple #[])) W from fun W T hn hT hkx => hR.out _ _ ⟨rfl, by
            rw [← hT]; exact hn.lower (by have := Hkw.out.size; have := Hk6.out.size; omega), ((Hkw.out.mono (T := fun j => j = bo ∨ bl ≤ j) (fun j hj => .inr hj)).trans (Hk6.out.mono (T := fun j => j = bo ∨ bl ≤ j) (fun j hj => .inr (by omega))) (fun j _ hj => hj)).trans hkx (fun j _ hj => by omega) |> fun h => ⟨h.os, h.tape, h.output, h.size, fun j hj hn => h.block j hj (by rw [Hbl.out] at hj; omega)⟩⟩)
          obtain ⟨base, hbase⟩ : ∃ base, w6.heap.size = base := ⟨_, rfl⟩
          have hsz6 : ob < base := by have := Hk6.out.size; omega
          rw [hbase] at Hfin
          have Hst := Lib.hid (show BlkA w6 (bl + 1) id ∧ UF id id id ∧ krun L (stopB notes) (r.drop 0) id [] = kruL L (stopB notes) ∧ Noted w6 base bo [] ∧ ([] : List Int).length ≤ 0 from ⟨HB6.out, UF.start, by rw [List.drop_zero, Hrs.out]; rfl, Noted.nil Hbo6.out, Nat.le_refl _⟩)
          have Hbase := Lib.hid hbase
          have hle1 : bl + 1 < base := by omega
          have hle2 : bl + 1 < ob := by omega
          clear hbase hR Hr Hrs HO HB6 Hbo6 HBA Hbox Hbo5 Hbn5 HS5 HS Hk6 Hkw Hkx Hkx4 HSo hszr hob5 Hbl hs2
          go_step3
          go_wp2_with fail
          go_loopw [9, 10, 11, 37] (fun s9 s10 s11 s37 W => ∃ (i : Nat) (p cc h : Nat → Nat) (T : List Int), s37 = .int .i64 (i : Nat) ∧ i ≤ k ∧ Hid (BlkA W (bl + 1) p ∧ UF p cc h ∧ krun L (stopB notes) (r.drop i) cc T = kruL L (stopB notes) ∧ Noted W base bo T ∧ T.length ≤ i) ∧ Kx (fun j => j = bo ∨ j = bl + 1) w6 W) (fun _ _ _ i _ => k - (intOf i).toNat)
          case atStart => exact ⟨0, id, id, id, [], rfl, Nat.zero_le _, Hst, Kx.refl _ _⟩
          case round =>
            obtain ⟨i, p, cc, h, T, rfl, hik, HI, hkx⟩ := hrel
            have Hkx := Lib.hid hkx
            clear hkx Hst
            by_cases hlt : i < k
            · obtain ⟨x, hx⟩ : ∃ x, r[i]? = some x := ⟨r[i]'(by rw [Hlr.out]; exact hlt), List.getElem?_eq_getElem _⟩
              have hxm := Hrm.out x (List.mem_of_getElem? hx)
              obtain ⟨m, rfl⟩ : ∃ m : Nat, x = m := ⟨x.toNat, by omega⟩
              have hmk : m < k := by omega
              have hdr : r.drop i = (m : Int) :: r.drop (i + 1) := by
                rw [List.drop_eq_getElem_cons (by rw [Hlr.out]; exact hlt)]
                congr 1
                rw [List.getElem?_eq_getElem (by rw [Hlr.out]; exact hlt)] at hx
                exact Option.some.inj hx
              obtain ⟨b, o, l, rfl, hbk, hlm, -, -, -⟩ := HS6.out.at3 hmk
              have hla := HL.out.a0 l (List.mem_of_getElem? hlm)
              have hlb := HL.out.b0 l (List.mem_of_getElem? hlm)
              have hblt := HAlt.out (by omega) _ rfl
              simp only at hblt
              obtain ⟨na, hna⟩ : ∃ na : Nat, l.a = na := ⟨l.a.toNat, by omega⟩
              obtain ⟨nb, hnb⟩ : ∃ nb : Nat, l.b = nb := ⟨l.b.toNat, by omega⟩
              obtain ⟨ra, ha1, ha2, ha3⟩ := HI.out.2.1.root (h na) na (Nat.le_refl _) (by omega)
              obtain ⟨rb, hb1, hb2, hb3⟩ := HI.out.2.1.root (h nb) nb (Nat.le_refl _) (by omega)
              obtain ⟨wo, rfl⟩ : ∃ wo : World, wo = wr := ⟨_, rfl⟩
              obtain ⟨ι, mk, hmk2⟩ := clsP_ex (fun W' => Kx (fun j => j = bl + 1) wo W' ∧ ∃ p', BlkA W' (bl + 1) p' ∧ UF p' cc h ∧ Rts p p')
              have hC0 : Kx (fun j => j = bl + 1) wo wo ∧ ∃ p', BlkA wo (bl + 1) p' ∧ UF p' cc h ∧ Rts p p' := ⟨Kx.refl _ _, p, HI.out.1, HI.out.2.1, Rts.refl p⟩
              have hd : ∃ x, { wo with drawn := wo.drawn + 1 } = mk x := (hmk2 _).1 ⟨(Kx.refl _ wo).drewN 1, p, HI.out.1, HI.out.2.1, Rts.refl p⟩
              have hnei : Nonempty ι := let ⟨y, _⟩ := hd; ⟨y⟩
              have hmy := fun y => (hmk2 (mk y)).2 ⟨y, rfl⟩
              have hcall : ∀ (v rv : Nat), v < 64 → rv < 64 → p rv = rv → cc rv = cc v → ∀ y, Calls Try.prog 59 #[.pointer (some ⟨bl + 1, 0, none⟩), .int .i64 (v : Nat)] (mk y) fun e w'' => e = .returned (.int .i64 (rv : Nat)) ∧ ∃ z, w'' = mk z := by
                intro v rv hv hrv h2 h3 y
                obtain ⟨hk0, p', hB, hU, hR⟩ := hmy y
                refine (root_any (bl + 1) p' cc h v hv (mk y) hB hU).mono ?_
                rintro e w'' ⟨r', p'', rfl, k1, k2, k3, k4, k5, k6, k7⟩
                have e1 : r' = rv := hU.one r' rv k1 hrv k2 ((hR rv hrv).1 h2) (k3.trans h3.symm)
                exact ⟨by rw [e1], (hmk2 _).1 ⟨hk0.trans k7 (fun _ _ h => h), p'', k4, k5, hR.trans k6⟩⟩
              have HCa := Lib.hid (hcall na ra (by omega) ha1 ha2 ha3)
              have HCb := Lib.hid (hcall nb rb (by omega) hb1 hb2 hb3)
              have Hky := Lib.hid (fun y => Hkx.out.trans ((hmy y).1.mono (T := fun j => j = bo ∨ j = bl + 1) (fun j hj => .inr hj)) (fun _ _ h => h))
              have g0 := fun y => (cells1 (((Hky.out y).block bl (by rw [Hbase.out]; omega) (by omega)).trans Hbox6.out)).1
              have hsy := fun y => slE_kxL HS6.out (Hky.out y) (fun _ a ha => by injection ha with ha; subst ha; show ¬ (b = bo ∨ b = bl + 1); have := HA.out (by omega) _ rfl; simp only at this; omega)
              have hl3 : ∀ y, (mk y).cell? ⟨b, o + m * 3, none⟩ = some (.int .i64 na) ∧ (mk y).cell? ⟨b, o + m * 3 + 1, none⟩ = some (.int .i64 nb) := fun y => by
                obtain ⟨b', o', l', e', _, hl', q0, q1, _⟩ := (hsy y).at3 hmk
                simp only [Option.some.injEq, Addr.mk.injEq, and_true] at e'
                obtain ⟨rfl, rfl⟩ := e'
                rw [hlm] at hl'; injection hl' with hl'; subst hl'
                exact ⟨by rw [q0, hna], by rw [q1, hnb]⟩
              have g1 := fun y => (hl3 y).1
              have g2 := fun y => (hl3 y).2
              have c0 : wo.cell? ⟨ob, i, none⟩ = some (.int .i64 (m : Nat)) := (HO6.out.kx Hkx.out (by omega)).cell hx
              have hmk0 : (0 : Int) ≤ (m : Int) := by omega
              have hmkk : (m : Int) < (k : Int) := by omega
              have hi0 : (0 : Int) ≤ (i : Int) := by omega
              have hik2 : (i : Int) < (k : Int) := by omega
              have Hmy := Lib.hid hmy
              have Hdr := Lib.hid hdr
              have Hlm := Lib.hid hlm
              have Hna := Lib.hid (show l.a.toNat = na by omega)
              have Hnb := Lib.hid (show l.b.toNat = nb by omega)
              have Hra := Lib.hid (And.intro ha2 ha3)
              have Hrb := Lib.hid (And.intro hb2 hb3)
              clear hx hdr hlm hmk2 hC0 hmy hcall hsy hl3 ha2 ha3 hb2 hb3 hna hnb hla hlb hxm hlt
              go_wp2_with fail
              refine wp_region_cls (C := fun w' => ∃ x, w' = mk x) (by kernel_rfl) (by kernel_rfl) hd ?_
              repeat (go_big_quiet_step ((go_at_call 59; first | with_reducible exact HCa.out _ | with_reducible exact HCb.out _)))
              refine wpQuiet_nil ?_
              intro _ hw'
              obtain ⟨y, rfl⟩ := hw'
              obtain ⟨hk7, p', hB7, hU7, hR7⟩ := Hmy.out y
              have hkx7 := Hky.out y
              obtain ⟨W7, hW7⟩ : ∃ W7, mk y = W7 := ⟨_, rfl⟩
              rw [hW7] at hk7 hB7 hkx7 ⊢
              have hn7 := HI.out.2.2.2.1.kx hk7 (by omega) (fun j hj e => by omega)
              have Hn7 := Lib.hid hn7
              have HB7 := Lib.hid hB7
              have HU7 := Lib.hid hU7
              have HR7 := Lib.hid hR7
              have Hkx7 := Lib.hid hkx7
              have hTk := HI.out.2.2.2.2
              have hlen9 : ((T.length + 1 : Nat) : Int) = ((T ++ [(m : Int)]).length : Int) := by rw [List.length_append]; rfl
              have Hlen9 := Lib.hid hlen9
              clear hW7 hk7 hB7 hkx7 hn7 hU7 hR7 Hmy Hky HCa HCb hd hnei g0 g1 g2 c0 hlen9
              by_cases hrr : ra = rb
              · have hrd : (ra : Int) = (rb : Int) := by omega
                have Hrr := Lib.hid hrr
                clear hrr
                go_wp2_with fail
                refine ⟨⟨i + 1, p', cc, h, T, by go_num, by omega, Lib.hid ⟨HB7.out, HU7.out, ?_, Hn7.out, by omega⟩, Hkx7.out⟩, by simp [intOf] <;> omega⟩
                rw [← HI.out.2.2.1, Hdr.out, krun_skip (l := l) (by rw [Int.toNat_natCast]; exact Hlm.out) (by rw [Hna.out, Hnb.out, ← Hra.out.2, ← Hrb.out.2, Hrr.out])]
              · have hrd : ¬ (ra : Int) = (rb : Int) := by omega
                have hun := HU7.out.union ha1 hb1 ((HR7.out ra ha1).1 Hra.out.1) ((HR7.out rb hb1).1 Hrb.out.1) hrr
                have Hun := Lib.hid hun
                have ha0 : (0 : Int) ≤ (ra : Int) := by omega
                have ha64 : (ra : Int) < 64 := by omega
                have g7 := HB7.out.cell ha1
                have f7 := HB7.out.frozen
                have hk8 : Kx (fun j => j = bl + 1) W7 (W7.setCell ⟨bl + 1, ra, none⟩ (.int .i64 (rb : Nat))) := kx_setb _ _ _ _
                have HB8 := Lib.hid (HB7.out.set ra rb)
                have Hn8 := Lib.hid (Hn7.out.kx hk8 (by omega) (fun j hj e => by omega))
                have Hkx8 := Lib.hid (Hkx7.out.trans (hk8.mono (T := fun j => j = bo ∨ j = bl + 1) (fun j hj => .inr hj)) (fun _ _ h => h))
                have hbn8 := (Hkx8.out.block bn (by rw [Hbase.out]; omega) (by omega)).trans Hbn6.out
                have hcb := bcb_any base bo bn (.pointer (some ⟨bl + 1, 0, none⟩)) m notes T _ Hn8.out (by omega) (by omega) hne (by rw [← Hbase.out]; exact Hkx8.out.size) hbn8 (by omega) h1 h2
                have Hc1 := Lib.hid (show cc l.a.toNat ≠ cc l.b.toNat from by rw [Hna.out, Hnb.out, ← Hra.out.2, ← Hrb.out.2]; exact hun.1)
                have Hcc := Lib.hid (show relab cc (cc ra) (cc rb) = relab cc (cc l.a.toNat) (cc l.b.toNat) from by rw [Hna.out, Hnb.out, ← Hra.out.2, ← Hrb.out.2])
                have Hl2 := Lib.hid (show L[(m : Int).toNat]? = some l from by rw [Int.toNat_natCast]; exact Hlm.out)
                have Hcb := Lib.hid hcb
                clear hun hk8 hbn8 hrr hcb
                cases hst : stopB notes (T ++ [(m : Int)]) (relab cc (cc l.a.toNat) (cc l.b.toNat))
                · have hdc : decide (((T.length + 1 : Nat) : Int) = notes - 1) = false := by rw [Hlen9.out]; exact hst
                  rw [hdc] at Hcb
                  have Hkr := Lib.hid (krun_go (r := r.drop (i + 1)) Hl2.out Hc1.out hst)
                  clear hst hdc
                  go_wp2_with (go_at_call 54; refine Hcb.out.mono ?_; rintro e w9 ⟨rfl, h91, h92⟩; have Hn9 := Lib.hid h91; have Hk9 := Lib.hid h92; clear h91 h92)
                  obtain ⟨-, h', hU'⟩ := Hun.out
                  refine ⟨⟨i + 1, upd p' ra rb, relab cc (cc ra) (cc rb), h', T ++ [(m : Int)], by go_num, by omega, Lib.hid ⟨HB8.out.kx Hk9.out (by omega), hU', ?_, Hn9.out, by rw [List.length_append]; simp; omega⟩, ?_⟩, by simp [intOf] <;> omega⟩
                  · rw [← HI.out.2.2.1, Hdr.out, Hkr.out, Hcc.out]
                  · exact ⟨Hk9.out.os.trans Hkx8.out.os, Hk9.out.tape.trans Hkx8.out.tape, Hk9.out.output.trans Hkx8.out.output, Nat.le_trans Hkx8.out.size Hk9.out.size, fun j hj hn => (Hk9.out.block j (Nat.lt_of_lt_of_le hj Hkx8.out.size) (by rw [Hbase.out] at hj; omega)).trans (Hkx8.out.block j hj hn)⟩
                · have hdc : decide (((T.length + 1 : Nat) : Int) = notes - 1) = true := by rw [Hlen9.out]; exact hst
                  rw [hdc] at Hcb
                  have Hkr := Lib.hid (krun_stop (r := r.drop (i + 1)) Hl2.out Hc1.out hst)
                  clear hst hdc
                  go_wp2_with (go_at_call 54; refine Hcb.out.mono ?_; rintro e w9 ⟨rfl, h91, h92⟩; have Hn9 := Lib.hid h91; have Hk9 := Lib.hid h92; clear h91 h92)
                  have Hf := Lib.hid (Hfin.out w9 (T ++ [(m : Int)]) Hn9.out (by rw [← HI.out.2.2.1, Hdr.out, Hkr.out]) ⟨Hk9.out.os.trans Hkx8.out.os, Hk9.out.tape.trans Hkx8.out.tape, Hk9.out.output.trans Hkx8.out.output, Nat.le_trans Hkx8.out.size Hk9.out.size, fun j hj hn => (Hk9.out.block j (Nat.lt_of_lt_of_le hj Hkx8.out.size) (by rw [Hbase.out] at hj; omega)).trans (Hkx8.out.block j hj hn)⟩)
                  clear Hfin
                  rw [Exit.noGoto_normal]
                  go_end0
                  exact Hf.out
            · obtain rfl : i = k := by omega
              have Hf := Lib.hid (Hfin.out _ T HI.out.2.2.2.1 (by rw [← HI.out.2.2.1, List.drop_eq_nil_of_le (by rw [Hlr.out]; exact Nat.le_refl _)]; rfl) Hkx.out)
              clear Hfin HI Hkx
              go_wp2_with fail
              rw [Exit.noGoto_normal]
              go_end0
              exact Hf.out
end
section
open Go.RowKit
set_option maxRecDepth 8000 in
set_option maxHeartbeats 8000000 in
theorem bear2_ok (notes : Int) (A : Option Addr) (n c : Nat) (L : List Lk) (w : World) (hS : SlE linkE 3 w A n L) (hp : Pln notes L) (hLn : L.length ≤ 512) (T : List Int) (hT : (kruL L (stopB notes)).1 = T) :
    Calls Try.prog 24 #[.int .i64 notes, .slice A n c] w fun e w' => Below w.heap.size w w' ∧ (((T.length : Int) < notes - 1 ∧ e = .returned (.tuple #[.slice none 0 0, .int .i64 6])) ∨
      (¬ (T.length : Int) < notes - 1 ∧ ∃ A' c', e = .returned (.tuple #[.slice A' T.length c', .int .i64 0]) ∧ w'.ownsRow w.heap.size 3 1 (.slice A' T.length c') T.length ((isrt T).flatMap intE))) := by
  refine calls_cps ?_
  intro R hR
  have HTl := Lib.hid (show T.length ≤ 512 from by rw [← hT]; exact Nat.le_trans (kruL_len _ _) hLn)
  have hb1 := below_new w (.cells #[.int .i64 notes] 3)
  have hal := heap_alloc_new w (.cells #[.int .i64 notes] 3)
  have hn : n ≤ 512 := by rw [hS.1]; exact hLn
  have hpl := plan_any notes A n c L (w.alloc (.cells #[.int .i64 notes] 3)) (hS.below hb1) (by omega)
  rw [(planB_iff _ _).2 hp] at hpl
  have Hpl := Lib.hid hpl
  have Hb1 := Lib.hid hb1
  have Hal := Lib.hid hal
  have HS := Lib.hid hS
  have Hp := Lib.hid hp
  have HT := Lib.hid hT
  clear hpl hS hb1 hp hal hT
  go_enter Try.func24, Try.ntmps24
  go_upto_region 3 with (go_at_call 52; refine Hpl.out.mono ?_; rintro e w2 ⟨rfl, hb2⟩; have Hb2 := Lib.hid hb2; clear hb2)
  have hz1 : (w.alloc (.cells #[.int .i64 notes] 3)).heap.size = w.heap.size + 1 := by simp
  have hz2 := Hb2.out.size
  rw [hz1] at hz2
  have hbn := (Hb2.out.block w.heap.size (by omega)).trans Hal.out
  have hbw2 : Below w.heap.size w w2 := Hb1.out.trans (Hb2.out.mono (by omega))
  have ho3 := heap_alloc_new w2 (.cells #[.slice none 0 0] 22)
  have hb3 := below_new w2 (.cells #[.slice none 0 0] 22)
  obtain ⟨bn, hbn0⟩ : ∃ bn, w.heap.size = bn := ⟨_, rfl⟩
  obtain ⟨bo, hbo0⟩ : ∃ bo, w2.heap.size = bo := ⟨_, rfl⟩
  obtain ⟨w3, hw3⟩ : ∃ w3, w2.alloc (.cells #[.slice none 0 0] 22) = w3 := ⟨_, rfl⟩
  have hS3 := (HS.out.below hbw2).below hb3
  rw [hw3] at ho3 hb3 hS3
  rw [hbo0] at ho3 hz2 hb3
  rw [hbn0] at hz2 hbn
  have hbn3 := (hb3.block bn (by omega)).trans hbn
  have hsz3 : w3.heap.size = bo + 1 := by rw [← hw3, ← hbo0]; simp
  have hkr := krC_any notes L Hp.out.lks hLn A n c bo bn w3 hS3 (by omega) ho3 (fun h0 a ha => by
    obtain ⟨b', o', e', hb', _⟩ := HS.out.2.2 h0
    rw [ha] at e'; injection e' with e'; subst e'; show b' ≠ bo; omega) hbn3 Hp.out.lo Hp.out.hi
  rw [HT.out, hsz3] at hkr
  have Hkr := Lib.hid hkr
  have Hb3 := Lib.hid hb3
  have Hbn3 := Lib.hid hbn3
  have Hbw2 := Lib.hid hbw2
  have h1 := Hp.out.lo
  have h2 := Hp.out.hi
  clear hkr hb3 hbn3 hbw2 hS3 ho3 hbn Hal Hpl HS Hb1 Hb2
  subst hw3
  go_upto_region 5 with (go_at_call 53; refine Hkr.out.mono ?_; rintro e w4 ⟨rfl, hn4, hk4⟩; have Hn4 := Lib.hid hn4; have Hk4 := Lib.hid hk4; clear hn4 hk4)
  obtain ⟨A', c', hc, ho⟩ := Hn4.out
  have c0 := (cells1 hc).1
  have n0 := (cells1 ((Hk4.out.block bn (by omega) (by omega)).trans Hbn3.out)).1
  have hbw4 : Below w.heap.size w w4 := (Hbw2.out.trans (Hb3.out.mono (by omega))).trans (Below.refl _ _) |> fun h => Kx.low h Hk4.out (fun j hj => by omega) (by omega)
  have hu : IntKind.i64.wrap (notes - 1) = notes - 1 := IntWalk.i64_in _ (by omega)
  by_cases hlt : (T.length : Int) < notes - 1
  · have Hf := Lib.hid (hR.out _ w4 ⟨hbw4, .inl ⟨hlt, rfl⟩⟩)
    clear hR hc ho hbw4
    go_wp2_with fail
    exact Hf.out
  · have HR := Lib.hid (fun e w' h => hR.out e w' h)
    have Hi := Lib.hid (isort_any A' T.length c' (bo + 1) T w4 ho rfl (by have := HTl.out; omega))
    have Hc := Lib.hid hc
    have Hbw4 := Lib.hid hbw4
    have hbo4 : bo < w4.heap.size := (Array.getElem?_eq_some_iff.1 hc).1
    clear hR hc ho hbw4
    go_wp2_with (go_at_call 55; refine Hi.out.mono ?_; rintro e w5 ⟨rfl, ho5, hk5⟩; have c5 := (cells1 ((hk5.block bo hbo4 (by omega)).trans Hc.out)).1; have Hf := Lib.hid (fun e h => HR.out e w5 ⟨Kx.low Hbw4.out hk5 (fun j hj => by omega) (by have := Hbw4.out.size; omega), .inr ⟨hlt, A', c', h, own_low ho5 (by omega)⟩⟩); clear ho5 hk5)
    exact Hf.out _ rfl
end
end Go.Proofs.Ytgmphiklkllnlaa
