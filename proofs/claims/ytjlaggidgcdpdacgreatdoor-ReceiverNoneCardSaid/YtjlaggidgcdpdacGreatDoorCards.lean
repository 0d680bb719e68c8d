/-
  DERIVED. GIVEN WITH THE SEED: THE CARDS: each row of YtjlaggidgcdpdacGreatDoorRows.lean that lists a variable, with what it lists TIED to the program's text (the seventh form; the later family's looks); each row that meets fmt, with fmt's text TOLD by the authors' own Lean function (tested against real Go, not proved from fmt's source: count such statements apart). THE CARD IS WHAT COUNTS. Prove the row's statement (the work); the ties are given (YtjlaggidgcdpdacGreatDoorTie.lean); close each card by the builder's one call (the guide's Derived/Test/ToyasCard.lean, 'card_holds'). Laid BY PROGRAM, IN A SANDBOX (cutbox-door.mjs). By AI agents, Wed Nov 11 2026. No macro, syntax, notation, axiom, sorry.
-/
import Derived.Test.YtjlaggidgcdpdacGreatDoorRows
import GoSem.ClaimSeven
namespace Go.Proofs.YtjlaggidgcdpdacGreatDoor
namespace Rows

/-- THE TIED CARD OF 'hawserlaw18.ReceiverNone'. -/
def receiverNoneCard : Claim7 := { stood := { row := receiverNoneRow, standIns := [], harness := (true, "09d4e03827765192659aa1a54ea4e357aca40c6489f3802d20320975a313b9b1"), looks := true }, kinds := [], alts := [], goes := true, laidByText := true, laidKinds := [.data, .pinned], laidTests := true, laidLooks := .later }
def ReceiverNoneCardSaid : Prop := Claim7.holds Tryz.pinned (.plain (OpenSpec.ofChange receiverNoneSpec)) receiverNoneCard

/-- THE TIED CARD OF 'hawserlaw18.ReceiverInstalls'. -/
def receiverInstallsCard : Claim7 := { stood := { row := receiverInstallsRow, standIns := [], harness := (true, "09d4e03827765192659aa1a54ea4e357aca40c6489f3802d20320975a313b9b1"), looks := true }, kinds := [], alts := [], goes := true, laidByText := true, laidKinds := [.data, .pinned], laidTests := true, laidLooks := .later }
def ReceiverInstallsCardSaid : Prop := Claim7.holds Tryz.pinned (.plain (OpenSpec.ofChange receiverInstallsSpec)) receiverInstallsCard

/-- THE SECOND FORM's CARD OF 'hawserlaw18.ReceiverNone'. -/
def receiverNoneUptoCard : Claim7 := { stood := { row := receiverNoneUptoRow, standIns := [], harness := (true, "09d4e03827765192659aa1a54ea4e357aca40c6489f3802d20320975a313b9b1"), looks := true }, kinds := [], alts := [], goes := true, laidByText := true, laidKinds := [.data, .pinned], laidTests := true, laidLooks := .later }
def ReceiverNoneUptoCardSaid : Prop := Claim7.holds Tryz.pinned (.plain (OpenSpec.upto receiverNoneSpec)) receiverNoneUptoCard

/-- THE SECOND FORM's CARD OF 'hawserlaw18.ReceiverInstalls'. -/
def receiverInstallsUptoCard : Claim7 := { stood := { row := receiverInstallsUptoRow, standIns := [], harness := (true, "09d4e03827765192659aa1a54ea4e357aca40c6489f3802d20320975a313b9b1"), looks := true }, kinds := [], alts := [], goes := true, laidByText := true, laidKinds := [.data, .pinned], laidTests := true, laidLooks := .later }
def ReceiverInstallsUptoCardSaid : Prop := Claim7.holds Tryz.pinned (.plain (OpenSpec.upto receiverInstallsSpec)) receiverInstallsUptoCard
end Rows
end Go.Proofs.YtjlaggidgcdpdacGreatDoor
