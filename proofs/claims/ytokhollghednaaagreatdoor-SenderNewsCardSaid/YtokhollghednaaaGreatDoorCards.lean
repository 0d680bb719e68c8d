/-
  DERIVED. GIVEN WITH THE SEED: THE CARDS: each row of YtokhollghednaaaGreatDoorRows.lean that lists a variable, with what it lists TIED to the program's text (the seventh form; the later family's looks); each row that meets fmt, with fmt's text TOLD by the authors' own Lean function (tested against real Go, not proved from fmt's source: count such statements apart). THE CARD IS WHAT COUNTS. Prove the row's statement (the work); the ties are given (YtokhollghednaaaGreatDoorTie.lean); close each card by the builder's one call (the guide's Derived/Test/ToyasCard.lean, 'card_holds'). Laid BY PROGRAM, IN A SANDBOX (cutbox-door.mjs). By AI agents, Wed Nov 11 2026. No macro, syntax, notation, axiom, sorry.
-/
import Derived.Test.YtokhollghednaaaGreatDoorRows
import GoSem.ClaimSeven
namespace Go.Proofs.YtokhollghednaaaGreatDoor
namespace Rows

/-- THE TIED CARD OF 'hawserlaw17.SenderNews'. -/
def senderNewsCard : Claim7 := { stood := { row := senderNewsRow, standIns := [], harness := (true, "8a314a55b8d0dedc289602cd4ad7ce9bbc7e8821693e7ae7b86c4ea8fcd8c615"), looks := false }, kinds := [], alts := [], goes := true, laidByText := true, laidKinds := [.data, .pinned], laidTests := true, laidLooks := .later }
def SenderNewsCardSaid : Prop := Claim7.holds Tryz.pinned (.plain (OpenSpec.ofChange senderNewsSpec)) senderNewsCard

/-- THE SECOND FORM's CARD OF 'hawserlaw17.SenderNews'. -/
def senderNewsUptoCard : Claim7 := { stood := { row := senderNewsUptoRow, standIns := [], harness := (true, "8a314a55b8d0dedc289602cd4ad7ce9bbc7e8821693e7ae7b86c4ea8fcd8c615"), looks := false }, kinds := [], alts := [], goes := true, laidByText := true, laidKinds := [.data, .pinned], laidTests := true, laidLooks := .later }
def SenderNewsUptoCardSaid : Prop := Claim7.holds Tryz.pinned (.plain (OpenSpec.upto senderNewsSpec)) senderNewsUptoCard
end Rows
end Go.Proofs.YtokhollghednaaaGreatDoor
