/-
  WorldBounds: the closed facts of its row, part A.
-/
import Derived.Test.YtjoelgicffojcaaGreatDoorRows
import Derived.JoinedOf
import Derived.ProofKit
import Derived.KernelRfl
namespace Go.Proofs.YtjoelgicffojcaaGreatDoor.worldBounds
set_option maxHeartbeats 4000000 in
set_option maxRecDepth 100000 in
theorem k0 : Rows.worldBoundsRow.wf (OpenSpec.ofChange Rows.worldBoundsSpec) = true := by kernel_rfl
set_option maxHeartbeats 4000000 in
set_option maxRecDepth 100000 in
theorem l1 : (List.range Tryz.pinned.checked.prog.types.size).all (rowFine Tryz.pinned.checked.prog) = true := by kernel_rfl
set_option maxHeartbeats 4000000 in
set_option maxRecDepth 100000 in
theorem l2 : Tryz.pinned.checked.prog.globals.all (fun g => decide (g.type < Tryz.pinned.checked.prog.types.size)) = true := by kernel_rfl
set_option maxHeartbeats 4000000 in
set_option maxRecDepth 100000 in
theorem l3 : Tryz.pinned.checked.prog.funcs.all (fun f => f.params.all fun t => decide (t < Tryz.pinned.checked.prog.types.size)) = true := by kernel_rfl
theorem k1 : laidOutB Tryz.pinned.checked.prog = true := by
  unfold laidOutB
  rw [l1, l2, l3]
  rfl
set_option maxHeartbeats 4000000 in
set_option maxRecDepth 100000 in
theorem k2 : mapsRowed Tryz.pinned.checked.prog = true := by kernel_rfl
end Go.Proofs.YtjoelgicffojcaaGreatDoor.worldBounds
