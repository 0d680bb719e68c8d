/-
  WorldMade: the whole run.
-/
import Derived.Test.YtjpmmfahmhnpeaaGreatDoorWorldMadeSeg0
import Derived.Test.YtjpmmfahmhnpeaaGreatDoorWorldMadeSeg1
import Derived.Test.YtjpmmfahmhnpeaaGreatDoorWorldMadeSeg2
import Derived.Test.YtjpmmfahmhnpeaaGreatDoorWorldMadeSeg3
import Derived.Test.YtjpmmfahmhnpeaaGreatDoorWorldMadeSeg4
import Derived.Test.YtjpmmfahmhnpeaaGreatDoorWorldMadeSeg5
import Derived.Test.YtjpmmfahmhnpeaaGreatDoorWorldMadeSeg6
import Derived.Test.YtjpmmfahmhnpeaaGreatDoorWorldMadeSeg7
import Derived.Test.YtjpmmfahmhnpeaaGreatDoorWorldMadeSeg8
import Derived.Test.YtjpmmfahmhnpeaaGreatDoorWorldMadeSeg9
import Derived.Test.YtjpmmfahmhnpeaaGreatDoorWorldMadeSeg10
import Derived.Test.YtjpmmfahmhnpeaaGreatDoorWorldMadeSeg11
namespace Go.Proofs.YtjpmmfahmhnpeaaGreatDoor.worldMade
open Go.Eng
set_option maxRecDepth 1000000
def quiet (P : Program) : Bool := P.funcs.toList.all fun fn => !fn.body.isSome || !(fn.name == "runtime.NumGoroutine")
theorem noCount {P : Program} (h : quiet P = true) : Eng.NoCount P := by
  intro f fn hf hb
  have hm : fn ∈ P.funcs.toList := by simpa using Array.mem_of_getElem? hf
  have := List.all_eq_true.1 h fn hm
  simpa [hb] using this
theorem counted : quiet Tryz.prog = true := by kernel_rfl
theorem mixed : Tryz.prog.follows .mixedOrders = true := by kernel_rfl
theorem ran : ∃ S : St, Eng.Reach Tryz.prog start S ∧ S.final Tryz.prog 3 = some (.bool true, (CH.first laid).heads) := by
  obtain ⟨S, h, hf⟩ := reach_last (noCount counted) mixed piece11
  refine ⟨S, ?_, hf⟩
  exact (reach_piece (noCount counted) mixed piece0).trans ((reach_piece (noCount counted) mixed piece1).trans ((reach_piece (noCount counted) mixed piece2).trans ((reach_piece (noCount counted) mixed piece3).trans ((reach_piece (noCount counted) mixed piece4).trans ((reach_piece (noCount counted) mixed piece5).trans ((reach_piece (noCount counted) mixed piece6).trans ((reach_piece (noCount counted) mixed piece7).trans ((reach_piece (noCount counted) mixed piece8).trans ((reach_piece (noCount counted) mixed piece9).trans ((reach_piece (noCount counted) mixed piece10).trans h))))))))))
end Go.Proofs.YtjpmmfahmhnpeaaGreatDoor.worldMade
