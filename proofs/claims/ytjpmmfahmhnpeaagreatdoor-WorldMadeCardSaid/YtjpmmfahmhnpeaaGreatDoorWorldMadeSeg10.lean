/-
  WorldMade: piece 11 of the run.
-/
import Derived.KernelRfl
import Derived.Test.YtjpmmfahmhnpeaaGreatDoorWorldMadeSt10
import Derived.Test.YtjpmmfahmhnpeaaGreatDoorWorldMadeSt11
namespace Go.Proofs.YtjpmmfahmhnpeaaGreatDoor.worldMade
open Go.Eng
set_option maxRecDepth 1000000
theorem piece10 : outcome keys11 at11 (krun Tryz.prog (fRec Tryz.prog 1000 60) 9000 (at10.st keys10)) = some (at11.ks, true) := by kernel_rfl
end Go.Proofs.YtjpmmfahmhnpeaaGreatDoor.worldMade
