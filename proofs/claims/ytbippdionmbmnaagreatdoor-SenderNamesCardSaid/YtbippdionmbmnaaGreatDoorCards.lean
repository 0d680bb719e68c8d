/-
  DERIVED. GIVEN WITH THE SEED: THE CARDS: each row of YtbippdionmbmnaaGreatDoorRows.lean that lists a variable, with what it lists TIED to the program's text (the seventh form; the later family's looks); each row that meets fmt, with fmt's text TOLD by the authors' own Lean function (tested against real Go, not proved from fmt's source: count such statements apart). THE CARD IS WHAT COUNTS. Prove the row's statement (the work); the ties are given (YtbippdionmbmnaaGreatDoorTie.lean); close each card by the builder's one call (the guide's Derived/Test/ToyasCard.lean, 'card_holds'). Laid BY PROGRAM, IN A SANDBOX (cutbox-door.mjs). By AI agents, Wed Nov 11 2026. No macro, syntax, notation, axiom, sorry.
-/
import Derived.Test.YtbippdionmbmnaaGreatDoorRows
import GoSem.ClaimSeven
namespace Go.Proofs.YtbippdionmbmnaaGreatDoor
namespace Rows

/-- THE TIED CARD OF 'hawserlaw17.SenderNames'. -/
def senderNamesCard : Claim7 := { stood := { row := senderNamesRow, standIns := [], harness := (true, "e5567b077a0e1df423be94cef2551bb71d90a2f2bf45c5b403f3fdef3938ba09"), looks := false }, kinds := [], alts := [], goes := true, laidByText := true, laidKinds := [.data, .pinned], laidTests := true, laidLooks := .later }
def SenderNamesCardSaid : Prop := Claim7.holds Tryz.pinned (.plain (OpenSpec.ofChange senderNamesSpec)) senderNamesCard

/-- THE SECOND FORM's CARD OF 'hawserlaw17.SenderNames'. -/
def senderNamesUptoCard : Claim7 := { stood := { row := senderNamesUptoRow, standIns := [], harness := (true, "e5567b077a0e1df423be94cef2551bb71d90a2f2bf45c5b403f3fdef3938ba09"), looks := false }, kinds := [], alts := [], goes := true, laidByText := true, laidKinds := [.data, .pinned], laidTests := true, laidLooks := .later }
def SenderNamesUptoCardSaid : Prop := Claim7.holds Tryz.pinned (.plain (OpenSpec.upto senderNamesSpec)) senderNamesUptoCard
end Rows
end Go.Proofs.YtbippdionmbmnaaGreatDoor
