/-
  WorldBounds: the closed facts of its row, part D.
-/
import Derived.Test.YtjoelgicffojcaaGreatDoorRows
import Derived.JoinedOf
import Derived.ProofKit
import Derived.KernelRfl
namespace Go.Proofs.YtjoelgicffojcaaGreatDoor.worldBounds
set_option maxHeartbeats 4000000 in
set_option maxRecDepth 100000 in
theorem k23 : Rows.worldBoundsRow.shortTexts.isNone = true := by kernel_rfl
set_option maxHeartbeats 4000000 in
set_option maxRecDepth 100000 in
theorem k24 : Tryz.pinned.checked.prog.stopsHeard = true := by kernel_rfl
set_option maxHeartbeats 4000000 in
set_option maxRecDepth 100000 in
theorem k25 : Tryz.pinned.checked.prog.mayEnter = true := by kernel_rfl
set_option maxHeartbeats 4000000 in
set_option maxRecDepth 100000 in
theorem k26 : (Rows.worldBoundsRow.lifted == Tryz.pinned.checked.prog.liftsFinal) = true := by kernel_rfl
set_option maxHeartbeats 4000000 in
set_option maxRecDepth 100000 in
theorem k27 : (Tryz.pinned.checked.prog.make == some Rows.worldBoundsRow.make) = true := by kernel_rfl
set_option maxHeartbeats 4000000 in
set_option maxRecDepth 100000 in
theorem k28 : (Rows.worldBoundsRow.kinds == (if Rows.worldBoundsRow.domain.isEmpty then [] else Tryz.f3.params.toList.map fun t => match Tryz.pinned.checked.prog.underlying t with | some (.int k) => some k | _ => none)) = true := by kernel_rfl
set_option maxHeartbeats 4000000 in
set_option maxRecDepth 100000 in
theorem k29 : (Rows.worldBoundsRow.pinned == Rows.worldBoundsRow.pinnedBy) = true := by kernel_rfl
set_option maxHeartbeats 4000000 in
set_option maxRecDepth 100000 in
theorem k30 : (Rows.worldBoundsRow.veiled == (Tryz.f3.params.toList ++ Rows.worldBoundsSpec.plain.varTypes Tryz.pinned.checked.prog ++ Tryz.f3.resultTypes.toList).any (Tryz.pinned.checked.prog.veiledRec ·)) = true := by kernel_rfl
set_option maxHeartbeats 4000000 in
set_option maxRecDepth 100000 in
theorem k31 : Rows.worldBoundsRow.veiledFits Tryz.pinned.checked.prog Tryz.f3.params.toList (Tryz.f3.params.toList ++ Rows.worldBoundsSpec.plain.varTypes Tryz.pinned.checked.prog ++ Tryz.f3.resultTypes.toList) = true := by kernel_rfl
theorem named : Tryz.pinned.checked.prog.funcNamed Rows.worldBoundsRow.func = some 3 := by kernel_rfl
theorem instanced : Tryz.f3.isInstance Tryz.pinned.checked.prog Rows.worldBoundsRow.origin Rows.worldBoundsRow.targs := of_decide_eq_true (by kernel_rfl)
theorem wrapped : Tryz.f3.isWrapper Tryz.pinned.checked.prog Rows.worldBoundsRow.wrapper Rows.worldBoundsRow.mainSum := by
  unfold Func.isWrapper
  first | (rw [if_pos (by decide +kernel)]; kernel_rfl) | (rw [if_neg (by decide +kernel)]; exact ⟨rfl, rfl⟩)
end Go.Proofs.YtjoelgicffojcaaGreatDoor.worldBounds
