/-
  DERIVED. GIVEN WITH THE SEED: THE CARDS: each row of YtkoacifcimbmnaaGreatDoorRows.lean that lists a variable, with what it lists TIED to the program's text (the seventh form; the later family's looks); each row that meets fmt, with fmt's text TOLD by the authors' own Lean function (tested against real Go, not proved from fmt's source: count such statements apart). THE CARD IS WHAT COUNTS. Prove the row's statement (the work); the ties are given (YtkoacifcimbmnaaGreatDoorTie.lean); close each card by the builder's one call (the guide's Derived/Test/ToyasCard.lean, 'card_holds'). Laid BY PROGRAM, IN A SANDBOX (cutbox-door.mjs). By AI agents, Wed Nov 11 2026. No macro, syntax, notation, axiom, sorry.
-/
import Derived.Test.YtkoacifcimbmnaaGreatDoorRows
import GoSem.ClaimSeven
namespace Go.Proofs.YtkoacifcimbmnaaGreatDoor
namespace Rows

/-- THE TIED CARD OF 'hawserlaw22.JoinerNames'. -/
def joinerNamesCard : Claim7 := { stood := { row := joinerNamesRow, standIns := [], harness := (true, "c6b059ad05aafbb509760f99d23a0ed938806bb5e0ac661aa73f30da39288145"), looks := true }, kinds := [], alts := [], goes := true, laidByText := true, laidKinds := [.data, .pinned], laidTests := true, laidLooks := .later }
def JoinerNamesCardSaid : Prop := Claim7.holds Tryz.pinned (.plain (OpenSpec.ofChange joinerNamesSpec)) joinerNamesCard

/-- THE TIED CARD OF 'hawserlaw22.JoinerNone'. -/
def joinerNoneCard : Claim7 := { stood := { row := joinerNoneRow, standIns := [], harness := (true, "c6b059ad05aafbb509760f99d23a0ed938806bb5e0ac661aa73f30da39288145"), looks := true }, kinds := [], alts := [], goes := true, laidByText := true, laidKinds := [.data, .pinned], laidTests := true, laidLooks := .later }
def JoinerNoneCardSaid : Prop := Claim7.holds Tryz.pinned (.plain (OpenSpec.ofChange joinerNoneSpec)) joinerNoneCard

/-- THE SECOND FORM's CARD OF 'hawserlaw22.JoinerNames'. -/
def joinerNamesUptoCard : Claim7 := { stood := { row := joinerNamesUptoRow, standIns := [], harness := (true, "c6b059ad05aafbb509760f99d23a0ed938806bb5e0ac661aa73f30da39288145"), looks := true }, kinds := [], alts := [], goes := true, laidByText := true, laidKinds := [.data, .pinned], laidTests := true, laidLooks := .later }
def JoinerNamesUptoCardSaid : Prop := Claim7.holds Tryz.pinned (.plain (OpenSpec.upto joinerNamesSpec)) joinerNamesUptoCard

/-- THE SECOND FORM's CARD OF 'hawserlaw22.JoinerNone'. -/
def joinerNoneUptoCard : Claim7 := { stood := { row := joinerNoneUptoRow, standIns := [], harness := (true, "c6b059ad05aafbb509760f99d23a0ed938806bb5e0ac661aa73f30da39288145"), looks := true }, kinds := [], alts := [], goes := true, laidByText := true, laidKinds := [.data, .pinned], laidTests := true, laidLooks := .later }
def JoinerNoneUptoCardSaid : Prop := Claim7.holds Tryz.pinned (.plain (OpenSpec.upto joinerNoneSpec)) joinerNoneUptoCard
end Rows
end Go.Proofs.YtkoacifcimbmnaaGreatDoor
