/-
  WorldMade: piece 9 of the run.
-/
import Derived.KernelRfl
import Derived.Test.YtjpmmfahmhnpeaaGreatDoorWorldMadeSt8
import Derived.Test.YtjpmmfahmhnpeaaGreatDoorWorldMadeSt9
namespace Go.Proofs.YtjpmmfahmhnpeaaGreatDoor.worldMade
open Go.Eng
set_option maxRecDepth 1000000
theorem piece8 : outcome keys9 at9 (krun Tryz.prog (fRec Tryz.prog 1000 60) 9000 (at8.st keys8)) = some (at9.ks, true) := by kernel_rfl
end Go.Proofs.YtjpmmfahmhnpeaaGreatDoor.worldMade
