/-
  DERIVED. GIVEN WITH THE SEED: THE CARDS: each row of YtjoelgicffojcaaGreatDoorRows.lean that lists a variable, with what it lists TIED to the program's text (the seventh form; the later family's looks); each row that meets fmt, with fmt's text TOLD by the authors' own Lean function (tested against real Go, not proved from fmt's source: count such statements apart). THE CARD IS WHAT COUNTS. Prove the row's statement (the work); the ties are given (YtjoelgicffojcaaGreatDoorTie.lean); close each card by the builder's one call (the guide's Derived/Test/ToyasCard.lean, 'card_holds'). Laid BY PROGRAM, IN A SANDBOX (cutbox-door.mjs). By AI agents, Wed Nov 11 2026. No macro, syntax, notation, axiom, sorry.
-/
import Derived.Test.YtjoelgicffojcaaGreatDoorRows
import GoSem.ClaimSeven
namespace Go.Proofs.YtjoelgicffojcaaGreatDoor
namespace Rows

/-- THE TIED CARD OF 'hawserlaw25.WorldBounds'. -/
def worldBoundsCard : Claim7 := { stood := { row := worldBoundsRow, standIns := [], harness := (true, "ea362bbbdb604de5b0cad46fc817c7b8c871b4f44015ef3b9574370071af0970"), looks := true }, kinds := [], alts := [], laidByText := true, laidKinds := [.data, .pinned], laidTests := true, laidLooks := .later }
def WorldBoundsCardSaid : Prop := Claim7.holds Tryz.pinned (.plain (OpenSpec.ofChange worldBoundsSpec)) worldBoundsCard

/-- THE SECOND FORM's CARD OF 'hawserlaw25.WorldBounds'. -/
def worldBoundsUptoCard : Claim7 := { stood := { row := worldBoundsUptoRow, standIns := [], harness := (true, "ea362bbbdb604de5b0cad46fc817c7b8c871b4f44015ef3b9574370071af0970"), looks := true }, kinds := [], alts := [], laidByText := true, laidKinds := [.data, .pinned], laidTests := true, laidLooks := .later }
def WorldBoundsUptoCardSaid : Prop := Claim7.holds Tryz.pinned (.plain (OpenSpec.upto worldBoundsSpec)) worldBoundsUptoCard
end Rows
end Go.Proofs.YtjoelgicffojcaaGreatDoor
