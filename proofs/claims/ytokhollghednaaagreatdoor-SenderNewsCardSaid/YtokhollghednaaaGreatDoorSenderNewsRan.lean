/-
  SenderNews: it always ends, and answers true.
-/
import Derived.KernelRfl
import Derived.Test.YtokhollghednaaaGreatDoorSenderNewsRun0
import Derived.Test.YtokhollghednaaaGreatDoorSenderNewsRun1
import Derived.Test.YtokhollghednaaaGreatDoorSenderNewsRun2
import Derived.Test.YtokhollghednaaaGreatDoorSenderNewsRun3
import Derived.Test.YtokhollghednaaaGreatDoorSenderNewsRun4
namespace Go.Proofs.YtokhollghednaaaGreatDoor.senderNews
open Go.Eng Go.Conc.Lib
set_option maxRecDepth 1000000
set_option linter.unusedVariables false
set_option linter.unusedSimpArgs false
set_option linter.unusedSectionVars false
def Ends (S : St) : Prop := ∃ S' : St, Eng.Reach Tryz.prog S S' ∧ S'.final Tryz.prog 3 = some (.bool true, (CH.first laid).heads)
theorem ends_of {q : List (Nat × Nat × Bool)} {l : List Nat} {S : St} {vs : List Value} (h : routeOut Tryz.prog R 3 l q S = some (vs, (.bool true, (CH.first laid).heads))) (hv : vs = q.map (fun x => .bool x.2.2)) : Ends S := route_ok (noCount counted) mixed lawHooked h hv
theorem eq_self (a : Int) : (a == a) = true := beq_self_eq_true a
theorem ran (a d w p c l : Int) : Ends (start a d w p c l) := by
  by_cases h1 : a < 1
  · exact ends_of (low a d w p c l) (by simp [h1])
  have e1 : decide (a < 1) = false := decide_eq_false h1
  by_cases h2 : a > 1152921504606846976
  · have e2 : decide (a > 1152921504606846976) = true := decide_eq_true h2
    exact ends_of (high a d w p c l) (by rw [e1, e2]; rfl)
  have e2 : decide (a > 1152921504606846976) = false := decide_eq_false h2
  have e3 : decide (a > 0) = true := decide_eq_true (by omega)
  by_cases k0 : d ≥ 1
  rotate_left
  · have g0 : decide (d ≥ 1) = false := decide_eq_false k0
    exact ends_of (ref0 a d w p c l) (by rw [e1, e2, g0]; rfl)
  have g0 : decide (d ≥ 1) = true := decide_eq_true k0
  by_cases k1 : d ≤ 3
  rotate_left
  · have g1 : decide (d ≤ 3) = false := decide_eq_false k1
    exact ends_of (ref1 a d w p c l) (by rw [e1, e2, g0, g1]; rfl)
  have g1 : decide (d ≤ 3) = true := decide_eq_true k1
  by_cases k2 : w ≥ 1
  rotate_left
  · have g2 : decide (w ≥ 1) = false := decide_eq_false k2
    exact ends_of (ref2 a d w p c l) (by rw [e1, e2, g0, g1, g2]; rfl)
  have g2 : decide (w ≥ 1) = true := decide_eq_true k2
  by_cases k3 : w ≤ 64
  rotate_left
  · have g3 : decide (w ≤ 64) = false := decide_eq_false k3
    exact ends_of (ref3 a d w p c l) (by rw [e1, e2, g0, g1, g2, g3]; rfl)
  have g3 : decide (w ≤ 64) = true := decide_eq_true k3
  by_cases k4 : p ≥ 1
  rotate_left
  · have g4 : decide (p ≥ 1) = false := decide_eq_false k4
    exact ends_of (ref4 a d w p c l) (by rw [e1, e2, g0, g1, g2, g3, g4]; rfl)
  have g4 : decide (p ≥ 1) = true := decide_eq_true k4
  by_cases k5 : p ≤ 100
  rotate_left
  · have g5 : decide (p ≤ 100) = false := decide_eq_false k5
    exact ends_of (ref5 a d w p c l) (by rw [e1, e2, g0, g1, g2, g3, g4, g5]; rfl)
  have g5 : decide (p ≤ 100) = true := decide_eq_true k5
  by_cases k6 : c ≥ 64
  rotate_left
  · have g6 : decide (c ≥ 64) = false := decide_eq_false k6
    exact ends_of (ref6 a d w p c l) (by rw [e1, e2, g0, g1, g2, g3, g4, g5, g6]; rfl)
  have g6 : decide (c ≥ 64) = true := decide_eq_true k6
  by_cases k7 : c ≤ 262144
  rotate_left
  · have g7 : decide (c ≤ 262144) = false := decide_eq_false k7
    exact ends_of (ref7 a d w p c l) (by rw [e1, e2, g0, g1, g2, g3, g4, g5, g6, g7]; rfl)
  have g7 : decide (c ≤ 262144) = true := decide_eq_true k7
  by_cases k8 : l ≥ 1
  rotate_left
  · have g8 : decide (l ≥ 1) = false := decide_eq_false k8
    exact ends_of (ref8 a d w p c l) (by rw [e1, e2, g0, g1, g2, g3, g4, g5, g6, g7, g8]; rfl)
  have g8 : decide (l ≥ 1) = true := decide_eq_true k8
  by_cases k9 : l ≤ 4096
  rotate_left
  · have g9 : decide (l ≤ 4096) = false := decide_eq_false k9
    exact ends_of (ref9 a d w p c l) (by rw [e1, e2, g0, g1, g2, g3, g4, g5, g6, g7, g8, g9]; rfl)
  have g9 : decide (l ≤ 4096) = true := decide_eq_true k9
  have hd : d = .ofNat 1 ∨ d = .ofNat 2 ∨ d = .ofNat 3 := by
    have : d = 1 ∨ d = 2 ∨ d = 3 := by omega
    exact this
  rcases hd with rfl | rfl | rfl
  · exact ends_of (new1 a w p c l) (by rw [e1, e2, e3, eq_self, g0, g1, g2, g3, g4, g5, g6, g7, g8, g9]; rfl)
  · exact ends_of (new2 a w p c l) (by rw [e1, e2, e3, eq_self, g0, g1, g2, g3, g4, g5, g6, g7, g8, g9]; rfl)
  · exact ends_of (new3 a w p c l) (by rw [e1, e2, e3, eq_self, g0, g1, g2, g3, g4, g5, g6, g7, g8, g9]; rfl)
#print axioms ran
end Go.Proofs.YtokhollghednaaaGreatDoor.senderNews
