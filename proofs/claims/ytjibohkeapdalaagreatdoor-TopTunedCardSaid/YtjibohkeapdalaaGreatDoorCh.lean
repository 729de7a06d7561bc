/-
  Contracts of the first reference's Of, Small, Bits, Bit, Cmp, Add, Sub; each states its condition.
-/
import Derived.Test.YtjibohkeapdalaaGreatDoorCe
namespace Go.Proofs.YtjibohkeapdalaaGreatDoor
end Go.Proofs.YtjibohkeapdalaaGreatDoor
