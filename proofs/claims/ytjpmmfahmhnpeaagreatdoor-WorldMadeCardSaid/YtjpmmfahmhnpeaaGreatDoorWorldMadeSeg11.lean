/-
  WorldMade: piece 12 of the run.
-/
import Derived.KernelRfl
import Derived.Test.YtjpmmfahmhnpeaaGreatDoorWorldMadeSt11
import Derived.Test.YtjpmmfahmhnpeaaGreatDoorWorldMadeSt0
namespace Go.Proofs.YtjpmmfahmhnpeaaGreatDoor.worldMade
open Go.Eng
set_option maxRecDepth 1000000
theorem piece11 : (krun Tryz.prog (fRec Tryz.prog 1000 60) 1324 (at11.st keys11)).bind (St.final Tryz.prog 3) = some (.bool true, (CH.first laid).heads) := by kernel_rfl
end Go.Proofs.YtjpmmfahmhnpeaaGreatDoor.worldMade
