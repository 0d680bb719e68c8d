/-
  WorldMade: piece 2 of the run.
-/
import Derived.KernelRfl
import Derived.Test.YtjpmmfahmhnpeaaGreatDoorWorldMadeSt1
import Derived.Test.YtjpmmfahmhnpeaaGreatDoorWorldMadeSt2
namespace Go.Proofs.YtjpmmfahmhnpeaaGreatDoor.worldMade
open Go.Eng
set_option maxRecDepth 1000000
theorem piece1 : outcome keys2 at2 (krun Tryz.prog (fRec Tryz.prog 1000 60) 9000 (at1.st keys1)) = some (at2.ks, true) := by kernel_rfl
end Go.Proofs.YtjpmmfahmhnpeaaGreatDoor.worldMade
