/-
  Contracts of panel.Worth and panel.Waste, and of the document's Worth and Area; no condition but that the arguments read.
-/
import Derived.Test.YtfkpioibinpfhaaPLayout
import Derived.Test.YtfkpioibinpfhaaPCeilW
namespace Go.Proofs.Ytfkpioibinpfhaa
open Go.RowKit

def worthO (ss : List Shp) (res : Option (List Pc)) : Int := match res with | some p => worthP ss p | none => 0
def wasteO (W H : Int) (res : Option (List Pc)) : Int := match res with | some p => W * H - areaP p | none => 0
def outE (res : Option (List Pc)) : Int := match res with | some _ => 0 | none => 2
theorem worthP_take (ss : List Shp) (p : List Pc) (j : Nat) (q : Pc) (hq : p[j]? = some q) : worthP ss (p.take (j + 1)) = worthP ss (p.take j) + pcVal ss q := by
  obtain ⟨hj, rfl⟩ := List.getElem?_eq_some_iff.1 hq
  rw [List.take_succ_eq_append_getElem hj, worthP_append]
  simp [worthP]
theorem areaP_take (p : List Pc) (j : Nat) (q : Pc) (hq : p[j]? = some q) : areaP (p.take (j + 1)) = areaP (p.take j) + q.W * q.H := by
  obtain ⟨hj, rfl⟩ := List.getElem?_eq_some_iff.1 hq
  rw [List.take_succ_eq_append_getElem hj, areaP_append]
  simp [areaP]
/-- What every piece of a plan of a valid panel is. -/
def PcOk (ss : List Shp) (q : Pc) : Prop := (0 ≤ q.X ∧ q.X ≤ 64) ∧ (0 ≤ q.Y ∧ q.Y ≤ 64) ∧ (1 ≤ q.W ∧ q.W ≤ 64) ∧ (1 ≤ q.H ∧ q.H ≤ 64) ∧ ∃ (i : Nat) (s : Shp), q.S = i ∧ ss[i]? = some s ∧ q.W * q.H = s.W * s.H
theorem planOut_ok {W H k : Int} {ss : List Shp} {l : Cuts} {p : List Pc} (hp : panOk W H k ss = true) (h : planOut k ss W H l = some p) : (∀ q ∈ p, PcOk ss q) ∧ p.length ≤ 4096 ∧ p.length ≤ l.length ∧ 0 ≤ areaP p ∧ areaP p ≤ W * H := by
  obtain ⟨hW1, hW2, hH1, hH2, hk0, _⟩ := panOk_ok hp
  have hr := planOut_Rd h
  obtain ⟨a1, a2, a3⟩ := hr.area hk0 hW1 hH1
  have hlen := hr.len
  have : W * H ≤ 64 * 64 := Int.mul_le_mul hW2 hH2 (by omega) (by omega)
  refine ⟨fun q hq => ?_, by omega, by simp at hlen; omega, a1, a2⟩
  obtain ⟨⟨i1, i2, i3, i4, i5, i6⟩, hs⟩ := hr.inside hk0 hW1 hH1 q hq
  exact ⟨⟨i1, by omega⟩, ⟨i2, by omega⟩, ⟨i3, by omega⟩, ⟨i4, by omega⟩, hs⟩
theorem worthP_bd {ss : List Shp} (hs : ∀ s ∈ ss, 0 ≤ s.V ∧ s.V ≤ 1000000) (p : List Pc) : 0 ≤ worthP ss p ∧ worthP ss p ≤ 1000000 * p.length := by
  induction p with
  | nil => simp [worthP]
  | cons q r ih =>
    have e : worthP ss (q :: r) = worthP ss [q] + worthP ss r := by rw [← worthP_append]; rfl
    have e2 : worthP ss [q] = pcVal ss q := by simp [worthP]
    have : 0 ≤ pcVal ss q ∧ pcVal ss q ≤ 1000000 := by
      unfold pcVal
      split
      · rename_i s h; exact hs s (List.mem_of_getElem? h)
      · omega
    rw [e, e2, List.length_cons]
    omega
theorem SlE.at5 {w : World} {A : Option Addr} {n k : Nat} {l : List Pc} (h : SlE pcE 5 w A n l) (hk : k < n) :
    ∃ b o s, A = some ⟨b, o, none⟩ ∧ b < w.heap.size ∧ l[k]? = some s ∧ w.cell? ⟨b, o + k * 5, none⟩ = some (.int .i64 s.X) ∧ w.cell? ⟨b, o + k * 5 + 1, none⟩ = some (.int .i64 s.Y) ∧
      w.cell? ⟨b, o + k * 5 + 2, none⟩ = some (.int .i64 s.W) ∧ w.cell? ⟨b, o + k * 5 + 3, none⟩ = some (.int .i64 s.H) ∧ w.cell? ⟨b, o + k * 5 + 4, none⟩ = some (.int .i64 s.S) := by
  obtain ⟨b, o, x, hA, hb, hx, hc⟩ := h.at_ pcE_len hk
  exact ⟨b, o, x, hA, hb, hx, by simpa using hc 0 _ rfl, by simpa [Nat.add_assoc] using hc 1 _ rfl, by simpa [Nat.add_assoc] using hc 2 _ rfl, by simpa [Nat.add_assoc] using hc 3 _ rfl, by simpa [Nat.add_assoc] using hc 4 _ rfl⟩
end Go.Proofs.Ytfkpioibinpfhaa
