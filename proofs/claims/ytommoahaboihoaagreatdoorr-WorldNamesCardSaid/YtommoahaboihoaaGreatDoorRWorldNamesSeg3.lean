/-
  WorldNames: piece 4 of the run.
-/
import Derived.KernelRfl
import Derived.Test.YtommoahaboihoaaGreatDoorRWorldNamesSt3
import Derived.Test.YtommoahaboihoaaGreatDoorRWorldNamesSt4
namespace Go.Proofs.YtommoahaboihoaaGreatDoorR.worldNames
open Go.Eng
set_option maxRecDepth 1000000
theorem piece3 : outcome keys4 at4 (krun Tryz.prog (fRec Tryz.prog 1000 60) 9000 (at3.st keys3)) = some (at4.ks, true) := by kernel_rfl
end Go.Proofs.YtommoahaboihoaaGreatDoorR.worldNames
