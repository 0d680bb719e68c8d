/-
  SenderMade: the closed facts of its row, part D.
-/
import Derived.Test.YtoaplpdbmpendaaGreatDoorRows
import Derived.JoinedOf
import Derived.ProofKit
import Derived.KernelRfl
namespace Go.Proofs.YtoaplpdbmpendaaGreatDoor.senderMade
set_option maxHeartbeats 4000000 in
set_option maxRecDepth 100000 in
theorem k23 : Rows.senderMadeRow.shortTexts.isNone = true := by kernel_rfl
set_option maxHeartbeats 4000000 in
set_option maxRecDepth 100000 in
theorem k24 : Tryz.pinned.checked.prog.stopsHeard = true := by kernel_rfl
set_option maxHeartbeats 4000000 in
set_option maxRecDepth 100000 in
theorem k25 : Tryz.pinned.checked.prog.mayEnter = true := by kernel_rfl
set_option maxHeartbeats 4000000 in
set_option maxRecDepth 100000 in
theorem k26 : (Rows.senderMadeRow.lifted == Tryz.pinned.checked.prog.liftsFinal) = true := by kernel_rfl
set_option maxHeartbeats 4000000 in
set_option maxRecDepth 100000 in
theorem k27 : (Tryz.pinned.checked.prog.make == some Rows.senderMadeRow.make) = true := by kernel_rfl
set_option maxHeartbeats 4000000 in
set_option maxRecDepth 100000 in
theorem k28 : (Rows.senderMadeRow.kinds == (if Rows.senderMadeRow.domain.isEmpty then [] else Tryz.f3.params.toList.map fun t => match Tryz.pinned.checked.prog.underlying t with | some (.int k) => some k | _ => none)) = true := by kernel_rfl
set_option maxHeartbeats 4000000 in
set_option maxRecDepth 100000 in
theorem k29 : (Rows.senderMadeRow.pinned == Rows.senderMadeRow.pinnedBy) = true := by kernel_rfl
set_option maxHeartbeats 4000000 in
set_option maxRecDepth 100000 in
theorem k30 : (Rows.senderMadeRow.veiled == (Tryz.f3.params.toList ++ Rows.senderMadeSpec.plain.varTypes Tryz.pinned.checked.prog ++ Tryz.f3.resultTypes.toList).any (Tryz.pinned.checked.prog.veiledRec ·)) = true := by kernel_rfl
set_option maxHeartbeats 4000000 in
set_option maxRecDepth 100000 in
theorem k31 : Rows.senderMadeRow.veiledFits Tryz.pinned.checked.prog Tryz.f3.params.toList (Tryz.f3.params.toList ++ Rows.senderMadeSpec.plain.varTypes Tryz.pinned.checked.prog ++ Tryz.f3.resultTypes.toList) = true := by kernel_rfl
theorem named : Tryz.pinned.checked.prog.funcNamed Rows.senderMadeRow.func = some 3 := by kernel_rfl
theorem instanced : Tryz.f3.isInstance Tryz.pinned.checked.prog Rows.senderMadeRow.origin Rows.senderMadeRow.targs := of_decide_eq_true (by kernel_rfl)
theorem wrapped : Tryz.f3.isWrapper Tryz.pinned.checked.prog Rows.senderMadeRow.wrapper Rows.senderMadeRow.mainSum := by
  unfold Func.isWrapper
  first | (rw [if_pos (by decide +kernel)]; kernel_rfl) | (rw [if_neg (by decide +kernel)]; exact ⟨rfl, rfl⟩)
end Go.Proofs.YtoaplpdbmpendaaGreatDoor.senderMade
