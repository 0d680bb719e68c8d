/-
  SenderNews: the closed facts of its row, part D.
-/
import Derived.Test.YtokhollghednaaaGreatDoorRows
import Derived.JoinedOf
import Derived.ProofKit
import Derived.KernelRfl
import Derived.Test.YtokhollghednaaaGreatDoorSenderNewsFactsA
import Derived.Test.YtokhollghednaaaGreatDoorSenderNewsFactsB
import Derived.Test.YtokhollghednaaaGreatDoorSenderNewsFactsC
namespace Go.Proofs.YtokhollghednaaaGreatDoor.senderNews
set_option maxHeartbeats 4000000 in
set_option maxRecDepth 100000 in
theorem k23 : Rows.senderNewsRow.shortTexts.isNone = true := by kernel_rfl
set_option maxHeartbeats 4000000 in
set_option maxRecDepth 100000 in
theorem k24 : Tryz.pinned.checked.prog.stopsHeard = true := by kernel_rfl
set_option maxHeartbeats 4000000 in
set_option maxRecDepth 100000 in
theorem k25 : Tryz.pinned.checked.prog.mayEnter = true := by kernel_rfl
set_option maxHeartbeats 4000000 in
set_option maxRecDepth 100000 in
theorem k26 : (Rows.senderNewsRow.lifted == Tryz.pinned.checked.prog.liftsFinal) = true := by kernel_rfl
set_option maxHeartbeats 4000000 in
set_option maxRecDepth 100000 in
theorem k27 : (Tryz.pinned.checked.prog.make == some Rows.senderNewsRow.make) = true := by kernel_rfl
set_option maxHeartbeats 4000000 in
set_option maxRecDepth 100000 in
theorem k28 : (Rows.senderNewsRow.kinds == (if Rows.senderNewsRow.domain.isEmpty then [] else Tryz.f3.params.toList.map fun t => match Tryz.pinned.checked.prog.underlying t with | some (.int k) => some k | _ => none)) = true := by kernel_rfl
set_option maxHeartbeats 4000000 in
set_option maxRecDepth 100000 in
theorem k29 : (Rows.senderNewsRow.pinned == Rows.senderNewsRow.pinnedBy) = true := by kernel_rfl
set_option maxHeartbeats 4000000 in
set_option maxRecDepth 100000 in
theorem k30 : (Rows.senderNewsRow.veiled == (Tryz.f3.params.toList ++ Rows.senderNewsSpec.plain.varTypes Tryz.pinned.checked.prog ++ Tryz.f3.resultTypes.toList).any (Tryz.pinned.checked.prog.veiledRec ·)) = true := by kernel_rfl
set_option maxHeartbeats 4000000 in
set_option maxRecDepth 100000 in
theorem k31 : Rows.senderNewsRow.veiledFits Tryz.pinned.checked.prog Tryz.f3.params.toList (Tryz.f3.params.toList ++ Rows.senderNewsSpec.plain.varTypes Tryz.pinned.checked.prog ++ Tryz.f3.resultTypes.toList) = true := by kernel_rfl
theorem named : Tryz.pinned.checked.prog.funcNamed Rows.senderNewsRow.func = some 3 := by kernel_rfl
theorem instanced : Tryz.f3.isInstance Tryz.pinned.checked.prog Rows.senderNewsRow.origin Rows.senderNewsRow.targs := of_decide_eq_true (by kernel_rfl)
theorem wrapped : Tryz.f3.isWrapper Tryz.pinned.checked.prog Rows.senderNewsRow.wrapper Rows.senderNewsRow.mainSum := by
  unfold Func.isWrapper
  first | (rw [if_pos (by decide +kernel)]; kernel_rfl) | (rw [if_neg (by decide +kernel)]; exact ⟨rfl, rfl⟩)
end Go.Proofs.YtokhollghednaaaGreatDoor.senderNews
namespace Go.Proofs.YtokhollghednaaaGreatDoor.senderNews
theorem and_t {a b : Bool} (h1 : a = true) (h2 : b = true) : (a && b) = true := by rw [h1, h2]; rfl
set_option maxHeartbeats 4000000 in
set_option maxRecDepth 100000 in
theorem facts : joinedFacts Tryz.pinned.checked.prog 3 Tryz.f3 Rows.senderNewsSpec Rows.senderNewsRow = true := by
  unfold joinedFacts
  exact (and_t (and_t (and_t (and_t (and_t (and_t (and_t (and_t (and_t (and_t (and_t (and_t (and_t (and_t (and_t (and_t (and_t (and_t (and_t (and_t (and_t (and_t (and_t (and_t (and_t (and_t (and_t (and_t (and_t (and_t (and_t k0 k1) k2) k3) k4) k5) k6) k7) k8) k9) k10) k11) k12) k13) k14) k15) k16) k17) k18) k19) k20) k21) k22) k23) k24) k25) k26) k27) k28) k29) k30) k31)
end Go.Proofs.YtokhollghednaaaGreatDoor.senderNews
