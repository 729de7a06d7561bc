/-
  The contracts of clavecinref08.Worth, clavecinref08.Area, and of clavecinlaw08.pieces at two layouts that are the same; conditions as stated.
-/
import Derived.Test.YtfkpioibinpfhaaPWorthW
import Derived.Test.YtfkpioibinpfhaaPLaw
import Derived.Test.YtfkpioibinpfhaaSame
namespace Go.Proofs.Ytfkpioibinpfhaa
open Go.RowKit

set_option maxHeartbeats 1000000 in
theorem refArea_any (A : Option Addr) (n c : Nat) (p : List Pc) (w : World) (hP : SlE pcE 5 w A n p) (hn : n ≤ 4096) (hq : ∀ q ∈ p, (1 ≤ q.W ∧ q.W ≤ 64) ∧ (1 ≤ q.H ∧ q.H ≤ 64)) :
    Calls Try.prog 37 #[.slice A n c] w fun e w' => e = .returned (.int .i64 (areaP p)) ∧ Qt w w' := by
  refine calls_cps ?_
  intro R hR
  have Hq := Lib.hid hq
  have Hn := Lib.hid hP.1
  clear hq
  go_enter Try.func37, Try.ntmps37
  go_wp2_with fail
  go_loopw [3, 4] (fun q i wr => ∃ (j : Nat) (s : Int), j ≤ n ∧ i = .int .i64 j ∧ q = .int .i64 s ∧ Hid (s = areaP (p.take j)) ∧ 0 ≤ s ∧ s ≤ 50000000 ∧ Qt w wr) (fun _ i _ => n - (intOf i).toNat)
  case atStart => exact ⟨0, 0, by omega, rfl, rfl, Lib.hid (by simp [areaP]), by omega, by omega, Qt.refl _⟩
  case round =>
    obtain ⟨j, s, hj, rfl, rfl, Hs, hs0, hs1, hb⟩ := hrel
    obtain ⟨wi, rfl⟩ : ∃ wi : World, wi = wr := ⟨_, rfl⟩
    by_cases hlt : j < n
    · obtain ⟨b, o, q, rfl, hbl, hq, e0, e1, e2, e3, e4⟩ := (hb.sl hP).at5 hlt
      obtain ⟨⟨x1, x2⟩, ⟨y1, y2⟩⟩ := Hq.out q (List.mem_of_getElem? hq)
      obtain ⟨p1, p2⟩ := mul_bd (a := q.W) (b := q.H) (by omega) (by omega) x2 y2
      have hT := areaP_take p j q hq
      have hbd := areaP_bd (p.take (j + 1)) (fun q hq => Hq.out q (List.mem_of_mem_take hq))
      have hlen : (p.take (j + 1)).length ≤ 4096 := by rw [List.length_take]; omega
      have hs' := Hs.out
      have HT := Lib.hid (show s + q.W * q.H = areaP (p.take (j + 1)) by omega)
      have bd1 : s + q.W * q.H ≤ 50000000 := by omega
      clear hT hbd hs' hq
      go_wp2_with fail
      have i1 : (j : Int) < (n : Int) := by omega
      have z1 : IntKind.i64.wrap (q.W * q.H) = q.W * q.H := IntWalk.i64_in _ (by omega)
      have z2 : IntKind.i64.wrap (s + q.W * q.H) = s + q.W * q.H := IntWalk.i64_in _ (by omega)
      go_quiet (fail)
      clear z1 z2
      go_wp2
      exact ⟨⟨j + 1, _, by omega, by go_num, rfl, Lib.hid HT.out, by omega, by omega, hb.step _⟩, by simp [intOf]; omega⟩
    · obtain rfl : n = j := by omega
      have h := Hs.out
      rw [List.take_of_length_le (by rw [← Hn.out]; exact Nat.le_refl _)] at h
      have Hfin := Lib.hid (hR.out (.returned (.int .i64 (areaP p))) wi ⟨rfl, hb⟩)
      rw [← h] at Hfin
      clear h Hs
      go_wp2
      exact Hfin.out
set_option maxHeartbeats 1000000 in
theorem refWorth_any (B A : Option Addr) (m d n c : Nat) (ss : List Shp) (p : List Pc) (w : World) (hS : SlE Shp.enc 4 w B m ss) (hP : SlE pcE 5 w A n p) (_hm : m ≤ 16) (hn : n ≤ 4096) (hq : ∀ q ∈ p, PcOk ss q) (hv : ∀ s ∈ ss, 0 ≤ s.V ∧ s.V ≤ 1000000) :
    Calls Try.prog 35 #[.slice B m d, .slice A n c] w fun e w' => e = .returned (.int .i64 (worthP ss p)) ∧ w = w' := by
  refine calls_cps ?_
  intro R hR
  have Hq := Lib.hid hq
  have Hv := Lib.hid hv
  have Hn := Lib.hid hP.1
  have Hm := Lib.hid hS.1
  clear hq hv
  go_enter Try.func35, Try.ntmps35
  go_wp2_with fail
  go_loop [5, 6] (fun q i => ∃ (j : Nat) (s : Int), j ≤ n ∧ i = .int .i64 j ∧ q = .int .i64 s ∧ Hid (s = worthP ss (p.take j)) ∧ 0 ≤ s ∧ s ≤ 5000000000) (fun _ i => n - (intOf i).toNat)
  case atStart => exact ⟨0, 0, by omega, rfl, rfl, Lib.hid rfl, by omega, by omega⟩
  case round =>
    obtain ⟨j, s, hj, rfl, rfl, Hs, hs0, hs1⟩ := hrel
    by_cases hlt : j < n
    · obtain ⟨b, o, q, rfl, hbl, hq, e0, e1, e2, e3, e4⟩ := hP.at5 hlt
      obtain ⟨_, _, _, _, i, sh, hqs, hsh, _⟩ := Hq.out q (List.mem_of_getElem? hq)
      have him : i < m := by rw [Hm.out]; exact (List.getElem?_eq_some_iff.1 hsh).1
      obtain ⟨b2, o2, sh2, rfl, hbl2, hsh2, c0, c1', c2, c3⟩ := hS.at4 him
      obtain rfl : sh = sh2 := by rw [hsh] at hsh2; injection hsh2
      have hval : pcVal ss q = sh.V := by simp [pcVal, hqs, hsh]
      have hT := worthP_take ss p j q hq
      rw [hval, ← Hs.out] at hT
      have hbd := worthP_bd Hv.out (p.take (j + 1))
      rw [hT] at hbd
      have hlen : (p.take (j + 1)).length ≤ 4096 := by rw [List.length_take]; omega
      have hv := Hv.out sh (List.mem_of_getElem? hsh)
      have HT := Lib.hid hT
      rw [hqs] at e4
      obtain ⟨bd1, bd2⟩ := hbd
      have bd3 : s + sh.V ≤ 5000000000 := by omega
      have im : (i : Int) < (m : Int) := by omega
      clear hval hT hsh hsh2 hq hqs bd2
      go_wp2
      exact ⟨⟨j + 1, _, by omega, by go_num, rfl, Lib.hid HT.out.symm, bd1, bd3⟩, by simp [intOf]; omega⟩
    · obtain rfl : n = j := by omega
      have h := Hs.out
      rw [List.take_of_length_le (by rw [← Hn.out]; exact Nat.le_refl _)] at h
      have Hfin := Lib.hid (hR.out (.returned (.int .i64 (worthP ss p))) w ⟨rfl, rfl⟩)
      rw [← h] at Hfin
      clear h Hs
      go_wp2
      exact Hfin.out
set_option maxHeartbeats 1000000 in
theorem pieces_same (A B : Option Addr) (n c d : Nat) (l : List Pc) (w : World) (h1 : SlE pcE 5 w A n l) (h2 : SlE pcE 5 w B n l) (hn : n ≤ 9223372036854775807) :
    Calls Try.prog 36 #[.slice A n c, .slice B n d] w fun e w' => e = .returned (.bool true) ∧ Qt w w' := by
  refine calls_cps ?_
  intro R hR
  have hb0 : ((n : Int) != n) = false := by simp
  go_enter Try.func36, Try.ntmps36
  go_wp2_with fail
  go_loopw [5] (fun i wr => ∃ k : Nat, k ≤ n ∧ i = .int .i64 k ∧ Qt w wr) (fun i _ => n - (intOf i).toNat)
  case atStart => exact ⟨0, Nat.zero_le _, rfl, Qt.refl _⟩
  case round =>
    obtain ⟨k, hk, rfl, hb⟩ := hrel
    by_cases hlt : k < n
    · obtain ⟨b, o, s, rfl, hbl, hs, q0, q1, q2, q3, q4⟩ := (hb.sl h1).at5 hlt
      obtain ⟨b', o', t, rfl, hbl', ht, r0, r1, r2, r3, r4⟩ := (hb.sl h2).at5 hlt
      obtain rfl : s = t := by rw [hs] at ht; injection ht
      obtain ⟨s1, s2, s3, s4, s5⟩ := s
      dsimp only at q0 q1 q2 q3 q4 r0 r1 r2 r3 r4
      clear hs ht
      go_wp2_with fail
      go_quiet (fail)
      go_wp2
      exact ⟨⟨k + 1, by omega, by go_num, hb.step _⟩, by simp [intOf]; omega⟩
    · obtain rfl : k = n := by omega
      have Hf := Lib.hid (hR.out (.returned (.bool true)) wr ⟨rfl, hb⟩)
      go_wp2
      exact Hf.out
end Go.Proofs.Ytfkpioibinpfhaa
