/-
  DERIVED. GIVEN WITH THE SEED: THE CARDS: each row of YtoaplpdbmpendaaGreatDoorRows.lean that lists a variable, with what it lists TIED to the program's text (the seventh form; the later family's looks); each row that meets fmt, with fmt's text TOLD by the authors' own Lean function (tested against real Go, not proved from fmt's source: count such statements apart). THE CARD IS WHAT COUNTS. Prove the row's statement (the work); the ties are given (YtoaplpdbmpendaaGreatDoorTie.lean); close each card by the builder's one call (the guide's Derived/Test/ToyasCard.lean, 'card_holds'). Laid BY PROGRAM, IN A SANDBOX (cutbox-door.mjs). By AI agents, Wed Nov 11 2026. No macro, syntax, notation, axiom, sorry.
-/
import Derived.Test.YtoaplpdbmpendaaGreatDoorRows
import GoSem.ClaimSeven
namespace Go.Proofs.YtoaplpdbmpendaaGreatDoor
namespace Rows

/-- THE TIED CARD OF 'hawserlaw17.SenderMade'. -/
def senderMadeCard : Claim7 := { stood := { row := senderMadeRow, standIns := [], harness := (true, "f3b1853c2e77efda710c4f4d58864a2e445774313211ed5745685686e36da6b5"), looks := false }, kinds := [], alts := [], goes := true, laidByText := true, laidKinds := [.data, .pinned], laidTests := true, laidLooks := .later }
def SenderMadeCardSaid : Prop := Claim7.holds Tryz.pinned (.plain (OpenSpec.ofChange senderMadeSpec)) senderMadeCard

/-- THE SECOND FORM's CARD OF 'hawserlaw17.SenderMade'. -/
def senderMadeUptoCard : Claim7 := { stood := { row := senderMadeUptoRow, standIns := [], harness := (true, "f3b1853c2e77efda710c4f4d58864a2e445774313211ed5745685686e36da6b5"), looks := false }, kinds := [], alts := [], goes := true, laidByText := true, laidKinds := [.data, .pinned], laidTests := true, laidLooks := .later }
def SenderMadeUptoCardSaid : Prop := Claim7.holds Tryz.pinned (.plain (OpenSpec.upto senderMadeSpec)) senderMadeUptoCard
end Rows
end Go.Proofs.YtoaplpdbmpendaaGreatDoor
