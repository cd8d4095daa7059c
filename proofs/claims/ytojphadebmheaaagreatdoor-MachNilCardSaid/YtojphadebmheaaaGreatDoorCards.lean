/-
  DERIVED. GIVEN WITH THE SEED: THE CARDS: each row of YtojphadebmheaaaGreatDoorRows.lean that lists a variable, with what it lists TIED to the program's text (the seventh form; the later family's looks); each row that meets fmt, with fmt's text TOLD by the authors' own Lean function (tested against real Go, not proved from fmt's source: count such statements apart). THE CARD IS WHAT COUNTS. Prove the row's statement (the work); the ties are given (YtojphadebmheaaaGreatDoorTie.lean); close each card by the builder's one call (the guide's Derived/Test/ToyasCard.lean, 'card_holds'). Laid BY PROGRAM, IN A SANDBOX (cutbox-door.mjs). By AI agents, Wed Nov 11 2026. No macro, syntax, notation, axiom, sorry.
-/
import Derived.Test.YtojphadebmheaaaGreatDoorRows
import GoSem.ClaimSeven
namespace Go.Proofs.YtojphadebmheaaaGreatDoor
namespace Rows

/-- THE TIED CARD OF 'hindcastlaw18.MachNil'. -/
def machNilCard : Claim7 := { stood := { row := machNilRow, standIns := [], harness := (true, "36f9d76461410f40660b3d5de5be947a050bd1cb3c43802fe2fbe5093fec21e0"), looks := false }, kinds := [], alts := [], laidByText := true, laidKinds := [.data, .data, .data], laidTests := true, laidLooks := .later }
def MachNilCardSaid : Prop := Claim7.holds Tryz.pinned (.plain (OpenSpec.ofChange machNilSpec)) machNilCard

/-- THE SECOND FORM's CARD OF 'hindcastlaw18.MachNil'. -/
def machNilUptoCard : Claim7 := { stood := { row := machNilUptoRow, standIns := [], harness := (true, "36f9d76461410f40660b3d5de5be947a050bd1cb3c43802fe2fbe5093fec21e0"), looks := false }, kinds := [], alts := [], laidByText := true, laidKinds := [.data, .data, .data], laidTests := true, laidLooks := .later }
def MachNilUptoCardSaid : Prop := Claim7.holds Tryz.pinned (.plain (OpenSpec.upto machNilSpec)) machNilUptoCard
end Rows
end Go.Proofs.YtojphadebmheaaaGreatDoor
