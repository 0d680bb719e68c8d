/-
  WorldMade: piece 3 of the run.
-/
import Derived.KernelRfl
import Derived.Test.YtjpmmfahmhnpeaaGreatDoorWorldMadeSt2
import Derived.Test.YtjpmmfahmhnpeaaGreatDoorWorldMadeSt3
namespace Go.Proofs.YtjpmmfahmhnpeaaGreatDoor.worldMade
open Go.Eng
set_option maxRecDepth 1000000
theorem piece2 : outcome keys3 at3 (krun Tryz.prog (fRec Tryz.prog 1000 60) 9000 (at2.st keys2)) = some (at3.ks, true) := by kernel_rfl
end Go.Proofs.YtjpmmfahmhnpeaaGreatDoor.worldMade
