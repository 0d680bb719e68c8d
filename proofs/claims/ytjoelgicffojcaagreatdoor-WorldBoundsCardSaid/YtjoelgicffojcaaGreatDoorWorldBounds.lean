/-
  WorldBounds answers true, whatever setup and numbers it is handed. No conditions.
-/
import Derived.Test.YtjoelgicffojcaaGreatDoorRows
import Derived.Test.YtjoelgicffojcaaGreatDoorCards
import Derived.Test.YtjoelgicffojcaaGreatDoorTie
import Derived.WalkKit
import Derived.ProofKit
import Derived.LaidMore
import Derived.Lay
import Derived.SevenTiedAt
import Derived.MakeChecks
import Derived.Test.YtjoelgicffojcaaGreatDoorWbLaw
import Derived.Test.YtjoelgicffojcaaGreatDoorWorldBoundsFacts
namespace Go.Proofs.YtjoelgicffojcaaGreatDoor.worldBounds
open Go.ChangeShapes Go.WideShapes Go.ChangeAt Go.RowKit
set_option linter.unusedVariables false
set_option linter.unusedSimpArgs false

theorem own : ownKnob Tryz.prog.godebug = none := by kernel_rfl

set_option maxRecDepth 100000 in
theorem lifted (os : Os) (started : os.Started) (H : Type) (enc : TypeId × Value → H) :
    ReturnsInHanded {} Tryz.checked os 3 .any (fun w args => (Rows.worldBoundsSpec.pre enc Tryz.prog Tryz.f3 Rows.worldBoundsRow.domain false w args ∧ laidMetH Tryz.prog Rows.worldBoundsRow.laid w) ∧ sizedMet enc Tryz.prog Tryz.f3 (OpenSpec.ofChange Rows.worldBoundsSpec) false w args)
      (Rows.worldBoundsSpec.post enc Tryz.prog Tryz.f3 false true false false) := by
  refine wb.handed_of_lone (C := Tryz.checked) (X := fun w _ => laidMetH Tryz.prog Rows.worldBoundsRow.laid w) (fun _ _ _ hh h => h.of_heap hh) own started Tryz.func3
    (ChangeSpec.witness_shaped (enc := enc) (C := Tryz.checked) (os := os) (X := fun w _ => laidMetH Tryz.prog Rows.worldBoundsRow.laid w) false (World.laidAll Tryz.prog os Rows.worldBoundsRow.laid) #[((Tryz.prog.info? 26).bind (·.zero)).getD default, ((Tryz.prog.info? 3).bind (·.zero)).getD default, ((Tryz.prog.info? 3).bind (·.zero)).getD default] 30 (World.laidAll_os _ _ _)
      (World.shaped_of_ZipB (by kernel_rfl) (by kernel_rfl)) (by kernel_rfl) (by kernel_rfl) (by kernel_rfl)
      (by rw [MakeChecks.laidMetH_plain _ _ _ (by kernel_rfl)]; exact laidMet_laidAll _ (by kernel_rfl) (by kernel_rfl))) ?_
  intro W base args ds gs before hval hW hwt hS
  exact wb.law_run (s := Rows.worldBoundsSpec) rfl (fun _ _ _ => rfl) hval hW hwt hS

theorem holds : Rows.WorldBoundsSaid :=
  OpenClaim.holds_of_wide 3 Tryz.f3 rfl rfl rfl rfl rfl rfl rfl ⟨rfl, rfl, rfl, rfl, rfl⟩ rfl rfl rfl rfl rfl named Tryz.func3 facts
    instanced wrapped
    (fun os started H enc _ => lifted os started H enc)

set_option maxHeartbeats 4000000 in
theorem rests : false = Rows.worldBoundsRow.goesBy Tryz.pinned.checked.prog := by kernel_rfl
set_option maxHeartbeats 4000000 in
/-- The statement. -/
theorem proved : Rows.WorldBoundsCardSaid :=
  Claim7.holds_tied_plain_at .later [] [.data, .pinned] true (true, "ea362bbbdb604de5b0cad46fc817c7b8c871b4f44015ef3b9574370071af0970") true holds (fun _ h => by cases h) (by as_aux_lemma => kernel_rfl) (fun _ h => by cases h) worldBounds_row_tie rfl ⟨rfl, rfl⟩ (by as_aux_lemma => kernel_rfl) rfl
    (fun f fn hf hfn => by
      obtain rfl : f = 3 := Option.some.inj ((show Tryz.prog.funcNamed "hawser/hawserlaw25.WorldBounds" = some 3 by as_aux_lemma => kernel_rfl).symm.trans hf) |>.symm
      obtain rfl : fn = Tryz.f3 := (Option.some.inj (Tryz.func3.symm.trans hfn)).symm
      exact ⟨by as_aux_lemma => kernel_rfl, fun j t ht => by
        rw [wb.tParams] at ht
        have hm : t ∈ [26, 3, 3] := by simpa using Array.mem_of_getElem? ht
        have hall : ([26, 3, 3].all fun u => !Tryz.prog.wantsStandIn u) = true := by kernel_rfl
        exact (show Tryz.prog.wantsStandIn t = false by simpa using List.all_eq_true.1 hall t hm)⟩)
    rests
#print axioms proved
end Go.Proofs.YtjoelgicffojcaaGreatDoor.worldBounds
