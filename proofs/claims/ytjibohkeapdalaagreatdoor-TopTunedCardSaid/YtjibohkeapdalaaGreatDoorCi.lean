/-
  Contracts of the first reference's Mul, DivMod, Gcd and the second's of, reduce, Make, Mul; each states its condition.
-/
import Derived.Test.YtjibohkeapdalaaGreatDoorCh
namespace Go.Proofs.YtjibohkeapdalaaGreatDoor
end Go.Proofs.YtjibohkeapdalaaGreatDoor
