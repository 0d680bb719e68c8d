/-
  DERIVED. GIVEN WITH THE SEED: THE CARDS: each row of YtjpmmfahmhnpeaaGreatDoorRows.lean that lists a variable, with what it lists TIED to the program's text (the seventh form; the later family's looks); each row that meets fmt, with fmt's text TOLD by the authors' own Lean function (tested against real Go, not proved from fmt's source: count such statements apart). THE CARD IS WHAT COUNTS. Prove the row's statement (the work); the ties are given (YtjpmmfahmhnpeaaGreatDoorTie.lean); close each card by the builder's one call (the guide's Derived/Test/ToyasCard.lean, 'card_holds'). Laid BY PROGRAM, IN A SANDBOX (cutbox-door.mjs). By AI agents, Wed Nov 11 2026. No macro, syntax, notation, axiom, sorry.
-/
import Derived.Test.YtjpmmfahmhnpeaaGreatDoorRows
import GoSem.ClaimSeven
namespace Go.Proofs.YtjpmmfahmhnpeaaGreatDoor
namespace Rows

/-- THE TIED CARD OF 'hawserlaw25.WorldMade'. -/
def worldMadeCard : Claim7 := { stood := { row := worldMadeRow, standIns := [], harness := (true, "bccdf11dce9c04b1c2157ca9131a8812cf3a92b7e317a57c65d539106cf03f01"), looks := true }, kinds := [], alts := [], goes := true, laidByText := true, laidKinds := [.pinned, .data], laidTests := true, laidLooks := .later }
def WorldMadeCardSaid : Prop := Claim7.holds Tryz.pinned (.plain (OpenSpec.ofChange worldMadeSpec)) worldMadeCard

/-- THE SECOND FORM's CARD OF 'hawserlaw25.WorldMade'. -/
def worldMadeUptoCard : Claim7 := { stood := { row := worldMadeUptoRow, standIns := [], harness := (true, "bccdf11dce9c04b1c2157ca9131a8812cf3a92b7e317a57c65d539106cf03f01"), looks := true }, kinds := [], alts := [], goes := true, laidByText := true, laidKinds := [.pinned, .data], laidTests := true, laidLooks := .later }
def WorldMadeUptoCardSaid : Prop := Claim7.holds Tryz.pinned (.plain (OpenSpec.upto worldMadeSpec)) worldMadeUptoCard
end Rows
end Go.Proofs.YtjpmmfahmhnpeaaGreatDoor
