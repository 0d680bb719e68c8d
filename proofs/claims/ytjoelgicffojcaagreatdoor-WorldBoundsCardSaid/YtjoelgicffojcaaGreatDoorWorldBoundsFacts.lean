/-
  WorldBounds: the closed facts of its row, joined.
-/
import Derived.Test.YtjoelgicffojcaaGreatDoorRows
import Derived.JoinedOf
import Derived.ProofKit
import Derived.KernelRfl
import Derived.Test.YtjoelgicffojcaaGreatDoorWorldBoundsFactsA
import Derived.Test.YtjoelgicffojcaaGreatDoorWorldBoundsFactsB
import Derived.Test.YtjoelgicffojcaaGreatDoorWorldBoundsFactsC
import Derived.Test.YtjoelgicffojcaaGreatDoorWorldBoundsFactsD
namespace Go.Proofs.YtjoelgicffojcaaGreatDoor.worldBounds
theorem and_t {a b : Bool} (h1 : a = true) (h2 : b = true) : (a && b) = true := by rw [h1, h2]; rfl
set_option maxHeartbeats 4000000 in
set_option maxRecDepth 100000 in
theorem facts : joinedFacts Tryz.pinned.checked.prog 3 Tryz.f3 Rows.worldBoundsSpec Rows.worldBoundsRow = true := by
  unfold joinedFacts
  exact (and_t (and_t (and_t (and_t (and_t (and_t (and_t (and_t (and_t (and_t (and_t (and_t (and_t (and_t (and_t (and_t (and_t (and_t (and_t (and_t (and_t (and_t (and_t (and_t (and_t (and_t (and_t (and_t (and_t (and_t (and_t k0 k1) k2) k3) k4) k5) k6) k7) k8) k9) k10) k11) k12) k13) k14) k15) k16) k17) k18) k19) k20) k21) k22) k23) k24) k25) k26) k27) k28) k29) k30) k31)
end Go.Proofs.YtjoelgicffojcaaGreatDoor.worldBounds
