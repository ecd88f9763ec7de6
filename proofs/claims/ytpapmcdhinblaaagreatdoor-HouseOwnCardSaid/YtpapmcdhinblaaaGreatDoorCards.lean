/-
  DERIVED. GIVEN WITH THE SEED: THE CARDS: each row of YtpapmcdhinblaaaGreatDoorRows.lean that lists a variable, with what it lists TIED to the program's text (the seventh form; the later family's looks); each row that meets fmt, with fmt's text TOLD by the authors' own Lean function (tested against real Go, not proved from fmt's source: count such statements apart). THE CARD IS WHAT COUNTS. Prove the row's statement (the work); the ties are given (YtpapmcdhinblaaaGreatDoorTie.lean); close each card by the builder's one call (the guide's Derived/Test/ToyasCard.lean, 'card_holds'). Laid BY PROGRAM, IN A SANDBOX (cutbox-door.mjs). By AI agents, Wed Nov 11 2026. No macro, syntax, notation, axiom, sorry.
-/
import Derived.Test.YtpapmcdhinblaaaGreatDoorRows
import GoSem.ClaimSeven
namespace Go.Proofs.YtpapmcdhinblaaaGreatDoor
namespace Rows

/-- THE TIED CARD OF 'plumekeep.HouseOwn'. -/
def houseOwnCard : Claim7 := { stood := { row := houseOwnRow, standIns := [], harness := (true, "fabf1aa1dbc4bf2435af398f891d86600258cbbf15a6a9fd7b1b2825bcebe62a"), looks := true }, kinds := [], alts := [], laidByText := true, laidKinds := [.data, .data, .data, .data, .sentinel, .sentinel, .pinned], laidTests := true, laidLooks := .later }
def HouseOwnCardSaid : Prop := Claim7.holds Tryz.pinned (.plain (OpenSpec.ofChange houseOwnSpec)) houseOwnCard

/-- THE SECOND FORM's CARD OF 'plumekeep.HouseOwn'. -/
def houseOwnUptoCard : Claim7 := { stood := { row := houseOwnUptoRow, standIns := [], harness := (true, "fabf1aa1dbc4bf2435af398f891d86600258cbbf15a6a9fd7b1b2825bcebe62a"), looks := true }, kinds := [], alts := [], laidByText := true, laidKinds := [.data, .data, .data, .data, .sentinel, .sentinel, .pinned], laidTests := true, laidLooks := .later }
def HouseOwnUptoCardSaid : Prop := Claim7.holds Tryz.pinned (.plain (OpenSpec.upto houseOwnSpec)) houseOwnUptoCard
end Rows
end Go.Proofs.YtpapmcdhinblaaaGreatDoor
