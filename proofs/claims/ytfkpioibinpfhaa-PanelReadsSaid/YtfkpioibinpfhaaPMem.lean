/-
  How shapes, cuts and pieces lie in memory; no condition but those that each lemma states.
-/
import Derived.Test.YtfkpioibinpfhaaBase
import Derived.Test.YtfkpioibinpfhaaPSpec
namespace Go.Proofs.Ytfkpioibinpfhaa
open Go.RowKit
def Shp.enc (s : Shp) : List Value := [.int .i64 s.W, .int .i64 s.H, .int .i64 s.V, .bool s.T]
theorem Shp.enc_len (s : Shp) : s.enc.length = 4 := rfl
def cutE (c : Int × Int) : List Value := [.int .i64 c.1, .int .i64 c.2]
theorem cutE_len (c : Int × Int) : (cutE c).length = 2 := rfl
theorem SlE.at4 {w : World} {A : Option Addr} {n k : Nat} {l : List Shp} (h : SlE Shp.enc 4 w A n l) (hk : k < n) :
    ∃ b o s, A = some ⟨b, o, none⟩ ∧ b < w.heap.size ∧ l[k]? = some s ∧ w.cell? ⟨b, o + k * 4, none⟩ = some (.int .i64 s.W) ∧ w.cell? ⟨b, o + k * 4 + 1, none⟩ = some (.int .i64 s.H) ∧
      w.cell? ⟨b, o + k * 4 + 2, none⟩ = some (.int .i64 s.V) ∧ w.cell? ⟨b, o + k * 4 + 3, none⟩ = some (.bool s.T) := by
  obtain ⟨b, o, x, hA, hb, hx, hc⟩ := h.at_ Shp.enc_len hk
  exact ⟨b, o, x, hA, hb, hx, by simpa using hc 0 _ rfl, by simpa [Nat.add_assoc] using hc 1 _ rfl, by simpa [Nat.add_assoc] using hc 2 _ rfl, by simpa [Nat.add_assoc] using hc 3 _ rfl⟩
theorem SlE.at2 {w : World} {A : Option Addr} {n k : Nat} {l : List (Int × Int)} (h : SlE cutE 2 w A n l) (hk : k < n) :
    ∃ b o s, A = some ⟨b, o, none⟩ ∧ b < w.heap.size ∧ l[k]? = some s ∧ w.cell? ⟨b, o + k * 2, none⟩ = some (.int .i64 s.1) ∧ w.cell? ⟨b, o + k * 2 + 1, none⟩ = some (.int .i64 s.2) := by
  obtain ⟨b, o, x, hA, hb, hx, hc⟩ := h.at_ cutE_len hk
  exact ⟨b, o, x, hA, hb, hx, by simpa using hc 0 _ rfl, by simpa [Nat.add_assoc] using hc 1 _ rfl⟩
theorem all_of_take {α : Type} (p : α → Bool) (l : List α) (k : Nat) (x : α) (h : (l.take k).all p = true) (hx : l[k]? = some x) (hp : p x = true) : (l.take (k + 1)).all p = true := by
  obtain ⟨hk, rfl⟩ := List.getElem?_eq_some_iff.1 hx
  rw [List.take_succ_eq_append_getElem hk, List.all_append, h]
  simpa using hp
theorem all_false_of {α : Type} (p : α → Bool) (l : List α) (k : Nat) (x : α) (hx : l[k]? = some x) (hp : p x = false) : l.all p = false := by
  rw [List.all_eq_false]
  exact ⟨x, List.mem_of_getElem? hx, by simp [hp]⟩
end Go.Proofs.Ytfkpioibinpfhaa
