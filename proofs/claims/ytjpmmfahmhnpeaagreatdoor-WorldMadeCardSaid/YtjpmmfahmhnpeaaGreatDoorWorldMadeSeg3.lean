/-
  WorldMade: piece 4 of the run.
-/
import Derived.KernelRfl
import Derived.Test.YtjpmmfahmhnpeaaGreatDoorWorldMadeSt3
import Derived.Test.YtjpmmfahmhnpeaaGreatDoorWorldMadeSt4
namespace Go.Proofs.YtjpmmfahmhnpeaaGreatDoor.worldMade
open Go.Eng
set_option maxRecDepth 1000000
theorem piece3 : outcome keys4 at4 (krun Tryz.prog (fRec Tryz.prog 1000 60) 9000 (at3.st keys3)) = some (at4.ks, true) := by kernel_rfl
end Go.Proofs.YtjpmmfahmhnpeaaGreatDoor.worldMade
