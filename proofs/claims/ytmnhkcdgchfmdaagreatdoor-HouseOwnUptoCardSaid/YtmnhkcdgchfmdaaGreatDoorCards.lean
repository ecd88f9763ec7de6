/-
  DERIVED. GIVEN WITH THE SEED: THE CARDS: each row of YtmnhkcdgchfmdaaGreatDoorRows.lean that lists a variable, with what it lists TIED to the program's text (the seventh form; the later family's looks); each row that meets fmt, with fmt's text TOLD by the authors' own Lean function (tested against real Go, not proved from fmt's source: count such statements apart). THE CARD IS WHAT COUNTS. Prove the row's statement (the work); the ties are given (YtmnhkcdgchfmdaaGreatDoorTie.lean); close each card by the builder's one call (the guide's Derived/Test/ToyasCard.lean, 'card_holds'). Laid BY PROGRAM, IN A SANDBOX (cutbox-door.mjs). By AI agents, Wed Nov 11 2026. No macro, syntax, notation, axiom, sorry.
-/
import Derived.Test.YtmnhkcdgchfmdaaGreatDoorRows
import GoSem.ClaimSeven
namespace Go.Proofs.YtmnhkcdgchfmdaaGreatDoor
namespace Rows

/-- THE TIED CARD OF 'plumekeep.HouseMoney'. -/
def houseMoneyCard : Claim7 := { stood := { row := houseMoneyRow, standIns := [], harness := (true, "8e45dfd6950ac795ea1bcabd3cc9429815c5bfe530c0f7f21acea3a9ff564371"), looks := true }, kinds := [], alts := [], laidByText := true, laidKinds := [.data, .data, .data, .data, .sentinel, .sentinel, .pinned], laidTests := true, laidLooks := .later }
def HouseMoneyCardSaid : Prop := Claim7.holds Tryz.pinned (.plain (OpenSpec.ofChange houseMoneySpec)) houseMoneyCard

/-- THE TIED CARD OF 'plumekeep.HouseKeeps'. -/
def houseKeepsCard : Claim7 := { stood := { row := houseKeepsRow, standIns := [], harness := (true, "8e45dfd6950ac795ea1bcabd3cc9429815c5bfe530c0f7f21acea3a9ff564371"), looks := true }, kinds := [], alts := [], laidByText := true, laidKinds := [.data, .data, .data, .data, .sentinel, .sentinel, .pinned], laidTests := true, laidLooks := .later }
def HouseKeepsCardSaid : Prop := Claim7.holds Tryz.pinned (.plain (OpenSpec.ofChange houseKeepsSpec)) houseKeepsCard

/-- THE TIED CARD OF 'plumekeep.HouseRefuses'. -/
def houseRefusesCard : Claim7 := { stood := { row := houseRefusesRow, standIns := [], harness := (true, "8e45dfd6950ac795ea1bcabd3cc9429815c5bfe530c0f7f21acea3a9ff564371"), looks := true }, kinds := [], alts := [], laidByText := true, laidKinds := [.data, .data, .data, .data, .sentinel, .sentinel, .pinned], laidTests := true, laidLooks := .later }
def HouseRefusesCardSaid : Prop := Claim7.holds Tryz.pinned (.plain (OpenSpec.ofChange houseRefusesSpec)) houseRefusesCard

/-- THE TIED CARD OF 'plumekeep.HouseSafe'. -/
def houseSafeCard : Claim7 := { stood := { row := houseSafeRow, standIns := [], harness := (true, "8e45dfd6950ac795ea1bcabd3cc9429815c5bfe530c0f7f21acea3a9ff564371"), looks := true }, kinds := [], alts := [], laidByText := true, laidKinds := [.data, .data, .data, .data, .sentinel, .sentinel, .pinned], laidTests := true, laidLooks := .later }
def HouseSafeCardSaid : Prop := Claim7.holds Tryz.pinned (.plain (OpenSpec.ofChange houseSafeSpec)) houseSafeCard

/-- THE TIED CARD OF 'plumekeep.HouseOwn'. -/
def houseOwnCard : Claim7 := { stood := { row := houseOwnRow, standIns := [], harness := (true, "8e45dfd6950ac795ea1bcabd3cc9429815c5bfe530c0f7f21acea3a9ff564371"), looks := true }, kinds := [], alts := [], laidByText := true, laidKinds := [.data, .data, .data, .data, .sentinel, .sentinel, .pinned], laidTests := true, laidLooks := .later }
def HouseOwnCardSaid : Prop := Claim7.holds Tryz.pinned (.plain (OpenSpec.ofChange houseOwnSpec)) houseOwnCard

/-- THE SECOND FORM's CARD OF 'plumekeep.HouseMoney'. -/
def houseMoneyUptoCard : Claim7 := { stood := { row := houseMoneyUptoRow, standIns := [], harness := (true, "8e45dfd6950ac795ea1bcabd3cc9429815c5bfe530c0f7f21acea3a9ff564371"), looks := true }, kinds := [], alts := [], laidByText := true, laidKinds := [.data, .data, .data, .data, .sentinel, .sentinel, .pinned], laidTests := true, laidLooks := .later }
def HouseMoneyUptoCardSaid : Prop := Claim7.holds Tryz.pinned (.plain (OpenSpec.upto houseMoneySpec)) houseMoneyUptoCard

/-- THE SECOND FORM's CARD OF 'plumekeep.HouseKeeps'. -/
def houseKeepsUptoCard : Claim7 := { stood := { row := houseKeepsUptoRow, standIns := [], harness := (true, "8e45dfd6950ac795ea1bcabd3cc9429815c5bfe530c0f7f21acea3a9ff564371"), looks := true }, kinds := [], alts := [], laidByText := true, laidKinds := [.data, .data, .data, .data, .sentinel, .sentinel, .pinned], laidTests := true, laidLooks := .later }
def HouseKeepsUptoCardSaid : Prop := Claim7.holds Tryz.pinned (.plain (OpenSpec.upto houseKeepsSpec)) houseKeepsUptoCard

/-- THE SECOND FORM's CARD OF 'plumekeep.HouseRefuses'. -/
def houseRefusesUptoCard : Claim7 := { stood := { row := houseRefusesUptoRow, standIns := [], harness := (true, "8e45dfd6950ac795ea1bcabd3cc9429815c5bfe530c0f7f21acea3a9ff564371"), looks := true }, kinds := [], alts := [], laidByText := true, laidKinds := [.data, .data, .data, .data, .sentinel, .sentinel, .pinned], laidTests := true, laidLooks := .later }
def HouseRefusesUptoCardSaid : Prop := Claim7.holds Tryz.pinned (.plain (OpenSpec.upto houseRefusesSpec)) houseRefusesUptoCard

/-- THE SECOND FORM's CARD OF 'plumekeep.HouseSafe'. -/
def houseSafeUptoCard : Claim7 := { stood := { row := houseSafeUptoRow, standIns := [], harness := (true, "8e45dfd6950ac795ea1bcabd3cc9429815c5bfe530c0f7f21acea3a9ff564371"), looks := true }, kinds := [], alts := [], laidByText := true, laidKinds := [.data, .data, .data, .data, .sentinel, .sentinel, .pinned], laidTests := true, laidLooks := .later }
def HouseSafeUptoCardSaid : Prop := Claim7.holds Tryz.pinned (.plain (OpenSpec.upto houseSafeSpec)) houseSafeUptoCard

/-- THE SECOND FORM's CARD OF 'plumekeep.HouseOwn'. -/
def houseOwnUptoCard : Claim7 := { stood := { row := houseOwnUptoRow, standIns := [], harness := (true, "8e45dfd6950ac795ea1bcabd3cc9429815c5bfe530c0f7f21acea3a9ff564371"), looks := true }, kinds := [], alts := [], laidByText := true, laidKinds := [.data, .data, .data, .data, .sentinel, .sentinel, .pinned], laidTests := true, laidLooks := .later }
def HouseOwnUptoCardSaid : Prop := Claim7.holds Tryz.pinned (.plain (OpenSpec.upto houseOwnSpec)) houseOwnUptoCard
end Rows
end Go.Proofs.YtmnhkcdgchfmdaaGreatDoor
