/-
  Contracts of the references' Pow, Left, Root, Sides, Octave, Times, Freq, May, Closes and Tones; each states its condition.
-/
import Derived.Test.YtjibohkeapdalaaGreatDoorCi
namespace Go.Proofs.YtjibohkeapdalaaGreatDoor
section
section
open Go.RowKit
theorem SlE.at4'{w:World}{A:Option Addr}{n k:Nat}{L:List Tn}(h:SlE tnE 4 w A n L)(hk:k<n) :
 ∃ b o l,A=some ⟨b,o,none⟩/\b<w.heap.size/\L[k]?=some l/\w.cell? ⟨b,o+k*4,none⟩=some (.int .i64 l.two)/\w.cell? ⟨b,o+k*4+1,none⟩=some (.int .i64 l.three)/\w.cell? ⟨b,o+k*4+2,none⟩=some (.int .i64 l.five)/\w.cell? ⟨b,o+k*4+3,none⟩=some (.int .i64 l.den):=by
 obtain⟨b,o,x,hA,hb,hx,hc⟩:=h.at_ tnE_len hk
 exact⟨b,o,x,hA,hb,hx,by simpa using hc 0 _ rfl,by simpa[Nat.add_assoc] using hc 1 _ rfl,by simpa[Nat.add_assoc] using hc 2 _ rfl,by simpa[Nat.add_assoc] using hc 3 _ rfl⟩
end
end
end Go.Proofs.YtjibohkeapdalaaGreatDoor
