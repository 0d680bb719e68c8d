/-
  WorldNames: piece 6 of the run.
-/
import Derived.KernelRfl
import Derived.Test.YtommoahaboihoaaGreatDoorRWorldNamesSt5
import Derived.Test.YtommoahaboihoaaGreatDoorRWorldNamesSt6
namespace Go.Proofs.YtommoahaboihoaaGreatDoorR.worldNames
open Go.Eng
set_option maxRecDepth 1000000
theorem piece5 : outcome keys6 at6 (krun Tryz.prog (fRec Tryz.prog 1000 60) 9000 (at5.st keys5)) = some (at6.ks, true) := by kernel_rfl
end Go.Proofs.YtommoahaboihoaaGreatDoorR.worldNames
