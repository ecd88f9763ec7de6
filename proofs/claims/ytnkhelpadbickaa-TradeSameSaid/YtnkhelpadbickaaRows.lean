/-
  No cell of these rows narrows 'for every input' (looked for: loops, veiled, ifaces, maps, wideKeys, modest, calm, conditions, laid).
  DERIVED. THE GIVEN ROWS OF THIS SEAT. 12 by the template 'for every input the law returns true; each argument reads behind the call as it read before'; 0 by the template 'total and deterministic' (their statements: YtnkhelpadbickaaTotals.lean).
  GIVEN WITH THE SEED: the statements are not yours to turn. If you find one false, say at which input.
  Laid BY PROGRAM, IN A SANDBOX (cutbox-rows.mjs): the forced cells as the released guide's own fill.sh prints them over the translation df874c3eb5fe0671… (all of the seat's roots in one cut). By AI agents, Wed Nov 11 2026. No macro, syntax, notation, axiom, sorry.
-/
import Derived.Test.YtnkhelpadbickaaChecked
import GoSem.Claim
import GoSem.ClaimJoined
import GoSem.ClaimMapViews
import Derived.JoinedTies
import Derived.KernelRfl
namespace Go.Proofs.Ytnkhelpadbickaa
/- THE CELL 'sum', in the pinned program and in every row, IS THE sha256 OF THE DUMP (.gsa) THAT YtnkhelpadbickaaProg.lean LOADS. Nothing in Lean hashes anything: it is a label: what it is worth is what the hold of that sum in a sandbox is worth. -/
noncomputable def Try.pinned : Pinned := { name := "ytnkhelpadbickaa", sum := "df874c3eb5fe0671d05ae5f6492fbf1475c50aecd9cab724bfcaf6cd19ae486b", checked := Try.checked }
namespace Rows
def none {H : Type} : Left H := { results := [], args := [] }

/-- 'plumekeep.TreePart': WHATEVER THE INPUT: true; the input reads as it did. -/
def treePartSpec : ChangeSpec := { name := "treePart", fn := fun _ => fun
  | [d1, d2, d3] => { results := [.lit (.bool true)], args := [d1, d2, d3] }
  | _ => none }
def treePartRow : OpenClaim := { program := "ytnkhelpadbickaa", sum := "df874c3eb5fe0671d05ae5f6492fbf1475c50aecd9cab724bfcaf6cd19ae486b", func := "feathermark/plumekeep.TreePart", spec := "treePart", unfollowed := true, recurses := true, apart := false }
def TreePartSaid : Prop := treePartRow.holds Try.pinned (OpenSpec.ofChange treePartSpec)

/-- ITS FALSE NEIGHBOUR: 'it returns false'. Refute it at one input. -/
def treePartWrong : ChangeSpec := { name := "treePart", fn := fun _ => fun
  | [d1, d2, d3] => { results := [.lit (.bool false)], args := [d1, d2, d3] }
  | _ => none }
def TreePartWrongFalsely : Prop := treePartRow.holds Try.pinned (OpenSpec.ofChange treePartWrong)

/-- 'plumekeep.TreeKuhn': WHATEVER THE INPUT: true; the input reads as it did. -/
def treeKuhnSpec : ChangeSpec := { name := "treeKuhn", fn := fun _ => fun
  | [d1, d2, d3, d4] => { results := [.lit (.bool true)], args := [d1, d2, d3, d4] }
  | _ => none }
def treeKuhnRow : OpenClaim := { program := "ytnkhelpadbickaa", sum := "df874c3eb5fe0671d05ae5f6492fbf1475c50aecd9cab724bfcaf6cd19ae486b", func := "feathermark/plumekeep.TreeKuhn", spec := "treeKuhn", apart := false }
def TreeKuhnSaid : Prop := treeKuhnRow.holds Try.pinned (OpenSpec.ofChange treeKuhnSpec)

/-- ITS FALSE NEIGHBOUR: 'it returns false'. Refute it at one input. -/
def treeKuhnWrong : ChangeSpec := { name := "treeKuhn", fn := fun _ => fun
  | [d1, d2, d3, d4] => { results := [.lit (.bool false)], args := [d1, d2, d3, d4] }
  | _ => none }
def TreeKuhnWrongFalsely : Prop := treeKuhnRow.holds Try.pinned (OpenSpec.ofChange treeKuhnWrong)

/-- 'plumekeep.RoadsRest': WHATEVER THE INPUT: true; the input reads as it did. -/
def roadsRestSpec : ChangeSpec := { name := "roadsRest", fn := fun _ => fun
  | [d1, d2] => { results := [.lit (.bool true)], args := [d1, d2] }
  | _ => none }
def roadsRestRow : OpenClaim := { program := "ytnkhelpadbickaa", sum := "df874c3eb5fe0671d05ae5f6492fbf1475c50aecd9cab724bfcaf6cd19ae486b", func := "feathermark/plumekeep.RoadsRest", spec := "roadsRest", unfollowed := true, recurses := true, apart := false }
def RoadsRestSaid : Prop := roadsRestRow.holds Try.pinned (OpenSpec.ofChange roadsRestSpec)

/-- ITS FALSE NEIGHBOUR: 'it returns false'. Refute it at one input. -/
def roadsRestWrong : ChangeSpec := { name := "roadsRest", fn := fun _ => fun
  | [d1, d2] => { results := [.lit (.bool false)], args := [d1, d2] }
  | _ => none }
def RoadsRestWrongFalsely : Prop := roadsRestRow.holds Try.pinned (OpenSpec.ofChange roadsRestWrong)

/-- 'plumekeep.TreeZermelo': WHATEVER THE INPUT: true; the input reads as it did. -/
def treeZermeloSpec : ChangeSpec := { name := "treeZermelo", fn := fun _ => fun
  | [d1, d2, d3] => { results := [.lit (.bool true)], args := [d1, d2, d3] }
  | _ => none }
def treeZermeloRow : OpenClaim := { program := "ytnkhelpadbickaa", sum := "df874c3eb5fe0671d05ae5f6492fbf1475c50aecd9cab724bfcaf6cd19ae486b", func := "feathermark/plumekeep.TreeZermelo", spec := "treeZermelo", unfollowed := true, recurses := true, apart := false }
def TreeZermeloSaid : Prop := treeZermeloRow.holds Try.pinned (OpenSpec.ofChange treeZermeloSpec)

/-- ITS FALSE NEIGHBOUR: 'it returns false'. Refute it at one input. -/
def treeZermeloWrong : ChangeSpec := { name := "treeZermelo", fn := fun _ => fun
  | [d1, d2, d3] => { results := [.lit (.bool false)], args := [d1, d2, d3] }
  | _ => none }
def TreeZermeloWrongFalsely : Prop := treeZermeloRow.holds Try.pinned (OpenSpec.ofChange treeZermeloWrong)

/-- 'plumekeep.TradeSame': WHATEVER THE INPUT: true; the input reads as it did. -/
def tradeSameSpec : ChangeSpec := { name := "tradeSame", fn := fun _ => fun
  | [d1, d2] => { results := [.lit (.bool true)], args := [d1, d2] }
  | _ => none }
def tradeSameRow : OpenClaim := { program := "ytnkhelpadbickaa", sum := "df874c3eb5fe0671d05ae5f6492fbf1475c50aecd9cab724bfcaf6cd19ae486b", func := "feathermark/plumekeep.TradeSame", spec := "tradeSame", unfollowed := true, recurses := true, apart := false }
def TradeSameSaid : Prop := tradeSameRow.holds Try.pinned (OpenSpec.ofChange tradeSameSpec)

/-- ITS FALSE NEIGHBOUR: 'it returns false'. Refute it at one input. -/
def tradeSameWrong : ChangeSpec := { name := "tradeSame", fn := fun _ => fun
  | [d1, d2] => { results := [.lit (.bool false)], args := [d1, d2] }
  | _ => none }
def TradeSameWrongFalsely : Prop := tradeSameRow.holds Try.pinned (OpenSpec.ofChange tradeSameWrong)

/-- 'plumekeep.RoadsHeight': WHATEVER THE INPUT: true; the input reads as it did. -/
def roadsHeightSpec : ChangeSpec := { name := "roadsHeight", fn := fun _ => fun
  | [d1, d2, d3, d4] => { results := [.lit (.bool true)], args := [d1, d2, d3, d4] }
  | _ => none }
def roadsHeightRow : OpenClaim := { program := "ytnkhelpadbickaa", sum := "df874c3eb5fe0671d05ae5f6492fbf1475c50aecd9cab724bfcaf6cd19ae486b", func := "feathermark/plumekeep.RoadsHeight", spec := "roadsHeight", unfollowed := true, recurses := true, apart := false }
def RoadsHeightSaid : Prop := roadsHeightRow.holds Try.pinned (OpenSpec.ofChange roadsHeightSpec)

/-- ITS FALSE NEIGHBOUR: 'it returns false'. Refute it at one input. -/
def roadsHeightWrong : ChangeSpec := { name := "roadsHeight", fn := fun _ => fun
  | [d1, d2, d3, d4] => { results := [.lit (.bool false)], args := [d1, d2, d3, d4] }
  | _ => none }
def RoadsHeightWrongFalsely : Prop := roadsHeightRow.holds Try.pinned (OpenSpec.ofChange roadsHeightWrong)

/-- 'plumekeep.TreesOwn': WHATEVER THE INPUT: true; the input reads as it did. -/
def treesOwnSpec : ChangeSpec := { name := "treesOwn", fn := fun _ => fun
  | [d1, d2] => { results := [.lit (.bool true)], args := [d1, d2] }
  | _ => none }
def treesOwnRow : OpenClaim := { program := "ytnkhelpadbickaa", sum := "df874c3eb5fe0671d05ae5f6492fbf1475c50aecd9cab724bfcaf6cd19ae486b", func := "feathermark/plumekeep.TreesOwn", spec := "treesOwn", unfollowed := true, recurses := true, apart := false }
def TreesOwnSaid : Prop := treesOwnRow.holds Try.pinned (OpenSpec.ofChange treesOwnSpec)

/-- ITS FALSE NEIGHBOUR: 'it returns false'. Refute it at one input. -/
def treesOwnWrong : ChangeSpec := { name := "treesOwn", fn := fun _ => fun
  | [d1, d2] => { results := [.lit (.bool false)], args := [d1, d2] }
  | _ => none }
def TreesOwnWrongFalsely : Prop := treesOwnRow.holds Try.pinned (OpenSpec.ofChange treesOwnWrong)

/-- 'plumekeep.TradeRounds': WHATEVER THE INPUT: true; the input reads as it did. -/
def tradeRoundsSpec : ChangeSpec := { name := "tradeRounds", fn := fun _ => fun
  | [d1, d2] => { results := [.lit (.bool true)], args := [d1, d2] }
  | _ => none }
def tradeRoundsRow : OpenClaim := { program := "ytnkhelpadbickaa", sum := "df874c3eb5fe0671d05ae5f6492fbf1475c50aecd9cab724bfcaf6cd19ae486b", func := "feathermark/plumekeep.TradeRounds", spec := "tradeRounds", unfollowed := true, recurses := true, apart := false }
def TradeRoundsSaid : Prop := tradeRoundsRow.holds Try.pinned (OpenSpec.ofChange tradeRoundsSpec)

/-- ITS FALSE NEIGHBOUR: 'it returns false'. Refute it at one input. -/
def tradeRoundsWrong : ChangeSpec := { name := "tradeRounds", fn := fun _ => fun
  | [d1, d2] => { results := [.lit (.bool false)], args := [d1, d2] }
  | _ => none }
def TradeRoundsWrongFalsely : Prop := tradeRoundsRow.holds Try.pinned (OpenSpec.ofChange tradeRoundsWrong)

/-- 'plumekeep.TradeTruth': WHATEVER THE INPUT: true; the input reads as it did. -/
def tradeTruthSpec : ChangeSpec := { name := "tradeTruth", fn := fun _ => fun
  | [d1, d2, d3, d4] => { results := [.lit (.bool true)], args := [d1, d2, d3, d4] }
  | _ => none }
def tradeTruthRow : OpenClaim := { program := "ytnkhelpadbickaa", sum := "df874c3eb5fe0671d05ae5f6492fbf1475c50aecd9cab724bfcaf6cd19ae486b", func := "feathermark/plumekeep.TradeTruth", spec := "tradeTruth", unfollowed := true, recurses := true, apart := false }
def TradeTruthSaid : Prop := tradeTruthRow.holds Try.pinned (OpenSpec.ofChange tradeTruthSpec)

/-- ITS FALSE NEIGHBOUR: 'it returns false'. Refute it at one input. -/
def tradeTruthWrong : ChangeSpec := { name := "tradeTruth", fn := fun _ => fun
  | [d1, d2, d3, d4] => { results := [.lit (.bool false)], args := [d1, d2, d3, d4] }
  | _ => none }
def TradeTruthWrongFalsely : Prop := tradeTruthRow.holds Try.pinned (OpenSpec.ofChange tradeTruthWrong)

/-- 'plumekeep.RoadsSame': WHATEVER THE INPUT: true; the input reads as it did. -/
def roadsSameSpec : ChangeSpec := { name := "roadsSame", fn := fun _ => fun
  | [d1, d2, d3] => { results := [.lit (.bool true)], args := [d1, d2, d3] }
  | _ => none }
def roadsSameRow : OpenClaim := { program := "ytnkhelpadbickaa", sum := "df874c3eb5fe0671d05ae5f6492fbf1475c50aecd9cab724bfcaf6cd19ae486b", func := "feathermark/plumekeep.RoadsSame", spec := "roadsSame", unfollowed := true, recurses := true, apart := false }
def RoadsSameSaid : Prop := roadsSameRow.holds Try.pinned (OpenSpec.ofChange roadsSameSpec)

/-- ITS FALSE NEIGHBOUR: 'it returns false'. Refute it at one input. -/
def roadsSameWrong : ChangeSpec := { name := "roadsSame", fn := fun _ => fun
  | [d1, d2, d3] => { results := [.lit (.bool false)], args := [d1, d2, d3] }
  | _ => none }
def RoadsSameWrongFalsely : Prop := roadsSameRow.holds Try.pinned (OpenSpec.ofChange roadsSameWrong)

/-- 'plumekeep.TradeOnly': WHATEVER THE INPUT: true; the input reads as it did. -/
def tradeOnlySpec : ChangeSpec := { name := "tradeOnly", fn := fun _ => fun
  | [d1, d2, d3] => { results := [.lit (.bool true)], args := [d1, d2, d3] }
  | _ => none }
def tradeOnlyRow : OpenClaim := { program := "ytnkhelpadbickaa", sum := "df874c3eb5fe0671d05ae5f6492fbf1475c50aecd9cab724bfcaf6cd19ae486b", func := "feathermark/plumekeep.TradeOnly", spec := "tradeOnly", unfollowed := true, recurses := true, apart := false }
def TradeOnlySaid : Prop := tradeOnlyRow.holds Try.pinned (OpenSpec.ofChange tradeOnlySpec)

/-- ITS FALSE NEIGHBOUR: 'it returns false'. Refute it at one input. -/
def tradeOnlyWrong : ChangeSpec := { name := "tradeOnly", fn := fun _ => fun
  | [d1, d2, d3] => { results := [.lit (.bool false)], args := [d1, d2, d3] }
  | _ => none }
def TradeOnlyWrongFalsely : Prop := tradeOnlyRow.holds Try.pinned (OpenSpec.ofChange tradeOnlyWrong)

/-- 'plumekeep.TradeHolds': WHATEVER THE INPUT: true; the input reads as it did. -/
def tradeHoldsSpec : ChangeSpec := { name := "tradeHolds", fn := fun _ => fun
  | [d1, d2] => { results := [.lit (.bool true)], args := [d1, d2] }
  | _ => none }
def tradeHoldsRow : OpenClaim := { program := "ytnkhelpadbickaa", sum := "df874c3eb5fe0671d05ae5f6492fbf1475c50aecd9cab724bfcaf6cd19ae486b", func := "feathermark/plumekeep.TradeHolds", spec := "tradeHolds", unfollowed := true, recurses := true, apart := false }
def TradeHoldsSaid : Prop := tradeHoldsRow.holds Try.pinned (OpenSpec.ofChange tradeHoldsSpec)

/-- ITS FALSE NEIGHBOUR: 'it returns false'. Refute it at one input. -/
def tradeHoldsWrong : ChangeSpec := { name := "tradeHolds", fn := fun _ => fun
  | [d1, d2] => { results := [.lit (.bool false)], args := [d1, d2] }
  | _ => none }
def TradeHoldsWrongFalsely : Prop := tradeHoldsRow.holds Try.pinned (OpenSpec.ofChange tradeHoldsWrong)

/- THE SECOND FORM. 'bulk': how many values and letters a reading holds, each counted each time it is reached (what is shared counts as often as it is met; a slice's spare places count too). A statement '..UptoSaid' is the law's where the arguments, and the package variables that the reading takes, are together of bulk at most 1048576: NARROWER than '..Said'. Prove '..Said' where nothing that the law and all that it calls make is longer than what came in: it says more and counts as full. Else prove '..UptoSaid'. A law counts once. -/
mutual
def uptoBulk {H : Type} : DataW H → Nat
  | .lit (.string bytes) => bytes.length + 1
  | .lit _ => 1
  | .nil => 1
  | .ptr d => uptoBulk d + 1
  | .slice elems spare => uptoBulkAll elems + uptoBulkAll spare + 1
  | .agg parts => uptoBulkAll parts + 1
  | .iface _ d => uptoBulk d + 1
  | .map entries => uptoBulkEntries entries + 1
  | .held _ => 1
def uptoBulkAll {H : Type} : List (DataW H) → Nat
  | [] => 0
  | d :: r => uptoBulk d + uptoBulkAll r
def uptoBulkEntries {H : Type} : List (Lit × DataW H) → Nat
  | [] => 0
  | x :: r => uptoBulkEntry x + uptoBulkEntries r
def uptoBulkEntry {H : Type} : Lit × DataW H → Nat
  | (.string bytes, d) => bytes.length + uptoBulk d + 1
  | (_, d) => uptoBulk d + 1
 end
def uptoSmall : (H : Type) → List (DataW H) → Bool := fun _ ds => decide (uptoBulkAll ds ≤ 1048576)
def OpenSpec.upto (s : _root_.Go.ChangeSpec) : _root_.Go.OpenSpec := { _root_.Go.OpenSpec.ofChange s with cond := some uptoSmall }

/-- 'plumekeep.TreePart', WHERE WHAT IT READS IS OF BULK AT MOST 1048576: true; the input reads as it did. -/
def treePartUptoRow : OpenClaim := { program := "ytnkhelpadbickaa", sum := "df874c3eb5fe0671d05ae5f6492fbf1475c50aecd9cab724bfcaf6cd19ae486b", func := "feathermark/plumekeep.TreePart", spec := "treePart", unfollowed := true, recurses := true, apart := false, narrowed := true }
def TreePartUptoSaid : Prop := treePartUptoRow.holds Try.pinned (OpenSpec.upto treePartSpec)

/-- 'plumekeep.TreeKuhn', WHERE WHAT IT READS IS OF BULK AT MOST 1048576: true; the input reads as it did. -/
def treeKuhnUptoRow : OpenClaim := { program := "ytnkhelpadbickaa", sum := "df874c3eb5fe0671d05ae5f6492fbf1475c50aecd9cab724bfcaf6cd19ae486b", func := "feathermark/plumekeep.TreeKuhn", spec := "treeKuhn", apart := false, narrowed := true }
def TreeKuhnUptoSaid : Prop := treeKuhnUptoRow.holds Try.pinned (OpenSpec.upto treeKuhnSpec)

/-- 'plumekeep.RoadsRest', WHERE WHAT IT READS IS OF BULK AT MOST 1048576: true; the input reads as it did. -/
def roadsRestUptoRow : OpenClaim := { program := "ytnkhelpadbickaa", sum := "df874c3eb5fe0671d05ae5f6492fbf1475c50aecd9cab724bfcaf6cd19ae486b", func := "feathermark/plumekeep.RoadsRest", spec := "roadsRest", unfollowed := true, recurses := true, apart := false, narrowed := true }
def RoadsRestUptoSaid : Prop := roadsRestUptoRow.holds Try.pinned (OpenSpec.upto roadsRestSpec)

/-- 'plumekeep.TreeZermelo', WHERE WHAT IT READS IS OF BULK AT MOST 1048576: true; the input reads as it did. -/
def treeZermeloUptoRow : OpenClaim := { program := "ytnkhelpadbickaa", sum := "df874c3eb5fe0671d05ae5f6492fbf1475c50aecd9cab724bfcaf6cd19ae486b", func := "feathermark/plumekeep.TreeZermelo", spec := "treeZermelo", unfollowed := true, recurses := true, apart := false, narrowed := true }
def TreeZermeloUptoSaid : Prop := treeZermeloUptoRow.holds Try.pinned (OpenSpec.upto treeZermeloSpec)

/-- 'plumekeep.TradeSame', WHERE WHAT IT READS IS OF BULK AT MOST 1048576: true; the input reads as it did. -/
def tradeSameUptoRow : OpenClaim := { program := "ytnkhelpadbickaa", sum := "df874c3eb5fe0671d05ae5f6492fbf1475c50aecd9cab724bfcaf6cd19ae486b", func := "feathermark/plumekeep.TradeSame", spec := "tradeSame", unfollowed := true, recurses := true, apart := false, narrowed := true }
def TradeSameUptoSaid : Prop := tradeSameUptoRow.holds Try.pinned (OpenSpec.upto tradeSameSpec)

/-- 'plumekeep.RoadsHeight', WHERE WHAT IT READS IS OF BULK AT MOST 1048576: true; the input reads as it did. -/
def roadsHeightUptoRow : OpenClaim := { program := "ytnkhelpadbickaa", sum := "df874c3eb5fe0671d05ae5f6492fbf1475c50aecd9cab724bfcaf6cd19ae486b", func := "feathermark/plumekeep.RoadsHeight", spec := "roadsHeight", unfollowed := true, recurses := true, apart := false, narrowed := true }
def RoadsHeightUptoSaid : Prop := roadsHeightUptoRow.holds Try.pinned (OpenSpec.upto roadsHeightSpec)

/-- 'plumekeep.TreesOwn', WHERE WHAT IT READS IS OF BULK AT MOST 1048576: true; the input reads as it did. -/
def treesOwnUptoRow : OpenClaim := { program := "ytnkhelpadbickaa", sum := "df874c3eb5fe0671d05ae5f6492fbf1475c50aecd9cab724bfcaf6cd19ae486b", func := "feathermark/plumekeep.TreesOwn", spec := "treesOwn", unfollowed := true, recurses := true, apart := false, narrowed := true }
def TreesOwnUptoSaid : Prop := treesOwnUptoRow.holds Try.pinned (OpenSpec.upto treesOwnSpec)

/-- 'plumekeep.TradeRounds', WHERE WHAT IT READS IS OF BULK AT MOST 1048576: true; the input reads as it did. -/
def tradeRoundsUptoRow : OpenClaim := { program := "ytnkhelpadbickaa", sum := "df874c3eb5fe0671d05ae5f6492fbf1475c50aecd9cab724bfcaf6cd19ae486b", func := "feathermark/plumekeep.TradeRounds", spec := "tradeRounds", unfollowed := true, recurses := true, apart := false, narrowed := true }
def TradeRoundsUptoSaid : Prop := tradeRoundsUptoRow.holds Try.pinned (OpenSpec.upto tradeRoundsSpec)

/-- 'plumekeep.TradeTruth', WHERE WHAT IT READS IS OF BULK AT MOST 1048576: true; the input reads as it did. -/
def tradeTruthUptoRow : OpenClaim := { program := "ytnkhelpadbickaa", sum := "df874c3eb5fe0671d05ae5f6492fbf1475c50aecd9cab724bfcaf6cd19ae486b", func := "feathermark/plumekeep.TradeTruth", spec := "tradeTruth", unfollowed := true, recurses := true, apart := false, narrowed := true }
def TradeTruthUptoSaid : Prop := tradeTruthUptoRow.holds Try.pinned (OpenSpec.upto tradeTruthSpec)

/-- 'plumekeep.RoadsSame', WHERE WHAT IT READS IS OF BULK AT MOST 1048576: true; the input reads as it did. -/
def roadsSameUptoRow : OpenClaim := { program := "ytnkhelpadbickaa", sum := "df874c3eb5fe0671d05ae5f6492fbf1475c50aecd9cab724bfcaf6cd19ae486b", func := "feathermark/plumekeep.RoadsSame", spec := "roadsSame", unfollowed := true, recurses := true, apart := false, narrowed := true }
def RoadsSameUptoSaid : Prop := roadsSameUptoRow.holds Try.pinned (OpenSpec.upto roadsSameSpec)

/-- 'plumekeep.TradeOnly', WHERE WHAT IT READS IS OF BULK AT MOST 1048576: true; the input reads as it did. -/
def tradeOnlyUptoRow : OpenClaim := { program := "ytnkhelpadbickaa", sum := "df874c3eb5fe0671d05ae5f6492fbf1475c50aecd9cab724bfcaf6cd19ae486b", func := "feathermark/plumekeep.TradeOnly", spec := "tradeOnly", unfollowed := true, recurses := true, apart := false, narrowed := true }
def TradeOnlyUptoSaid : Prop := tradeOnlyUptoRow.holds Try.pinned (OpenSpec.upto tradeOnlySpec)

/-- 'plumekeep.TradeHolds', WHERE WHAT IT READS IS OF BULK AT MOST 1048576: true; the input reads as it did. -/
def tradeHoldsUptoRow : OpenClaim := { program := "ytnkhelpadbickaa", sum := "df874c3eb5fe0671d05ae5f6492fbf1475c50aecd9cab724bfcaf6cd19ae486b", func := "feathermark/plumekeep.TradeHolds", spec := "tradeHolds", unfollowed := true, recurses := true, apart := false, narrowed := true }
def TradeHoldsUptoSaid : Prop := tradeHoldsUptoRow.holds Try.pinned (OpenSpec.upto tradeHoldsSpec)

end Rows
end Go.Proofs.Ytnkhelpadbickaa
