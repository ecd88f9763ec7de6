/-
  DERIVED. GIVEN WITH THE SEED: THE CARDS: each row of YthhpnohbfigggaaGreatDoorRows.lean that lists a variable, with what it lists TIED to the program's text (the seventh form; the later family's looks); each row that meets fmt, with fmt's text TOLD by the authors' own Lean function (tested against real Go, not proved from fmt's source: count such statements apart). THE CARD IS WHAT COUNTS. Prove the row's statement (the work); the ties are given (YthhpnohbfigggaaGreatDoorTie.lean); close each card by the builder's one call (the guide's Derived/Test/ToyasCard.lean, 'card_holds'). Laid BY PROGRAM, IN A SANDBOX (cutbox-door.mjs). By AI agents, Wed Nov 11 2026. No macro, syntax, notation, axiom, sorry.
-/
import Derived.Test.YthhpnohbfigggaaGreatDoorRows
import GoSem.ClaimSeven
namespace Go.Proofs.YthhpnohbfigggaaGreatDoor
namespace Rows

/-- THE TIED CARD OF 'plumekeep.ManyAlike'. -/
def manyAlikeCard : Claim7 := { stood := { row := manyAlikeRow, standIns := [], harness := (true, "542f62847856da875e6d97c690086c1608cfa3a8b58eeb1a0398897dc50cd0df"), looks := true }, kinds := [], alts := [], goes := true, laidByText := true, laidKinds := [.data, .data, .data, .data, .sentinel, .sentinel, .pinned], laidTests := true, laidLooks := .later }
def ManyAlikeCardSaid : Prop := Claim7.holds Tryz.pinned (.plain (OpenSpec.ofChange manyAlikeSpec)) manyAlikeCard

/-- THE SECOND FORM's CARD OF 'plumekeep.ManyAlike'. -/
def manyAlikeUptoCard : Claim7 := { stood := { row := manyAlikeUptoRow, standIns := [], harness := (true, "542f62847856da875e6d97c690086c1608cfa3a8b58eeb1a0398897dc50cd0df"), looks := true }, kinds := [], alts := [], goes := true, laidByText := true, laidKinds := [.data, .data, .data, .data, .sentinel, .sentinel, .pinned], laidTests := true, laidLooks := .later }
def ManyAlikeUptoCardSaid : Prop := Claim7.holds Tryz.pinned (.plain (OpenSpec.upto manyAlikeSpec)) manyAlikeUptoCard
end Rows
end Go.Proofs.YthhpnohbfigggaaGreatDoor
