/-
  No cell of these rows narrows 'for every input' (looked for: loops, veiled, ifaces, maps, wideKeys, modest, calm, conditions, laid).
  DERIVED. THE GIVEN ROWS OF THIS SEAT. 11 by the template 'for every input the law returns true; each argument reads behind the call as it read before'; 0 by the template 'total and deterministic' (their statements: YtdmolnfnpinhcaaTotals.lean).
  GIVEN WITH THE SEED: the statements are not yours to turn. If you find one false, say at which input.
  Laid BY PROGRAM, IN A SANDBOX (cutbox-rows.mjs): the forced cells as the released guide's own fill.sh prints them over the translation 1ff796577bcfd48c… (all of the seat's roots in one cut). By AI agents, Wed Nov 11 2026. No macro, syntax, notation, axiom, sorry.
-/
import Derived.Test.YtdmolnfnpinhcaaChecked
import GoSem.Claim
import GoSem.ClaimJoined
import GoSem.ClaimMapViews
import Derived.JoinedTies
import Derived.KernelRfl
namespace Go.Proofs.Ytdmolnfnpinhcaa
/- THE CELL 'sum', in the pinned program and in every row, IS THE sha256 OF THE DUMP (.gsa) THAT YtdmolnfnpinhcaaProg.lean LOADS. Nothing in Lean hashes anything: it is a label: what it is worth is what the hold of that sum in a sandbox is worth. -/
noncomputable def Try.pinned : Pinned := { name := "ytdmolnfnpinhcaa", sum := "1ff796577bcfd48c302cc43a14f89a0a842471c671843e69fb0bbd985a55aa7c", checked := Try.checked }
namespace Rows
def none {H : Type} : Left H := { results := [], args := [] }

/-- 'plumekeep.LogTurned': WHATEVER THE INPUT: true; the input reads as it did. -/
def logTurnedSpec : ChangeSpec := { name := "logTurned", fn := fun _ => fun
  | [d1, d2, d3] => { results := [.lit (.bool true)], args := [d1, d2, d3] }
  | _ => none }
def logTurnedRow : OpenClaim := { program := "ytdmolnfnpinhcaa", sum := "1ff796577bcfd48c302cc43a14f89a0a842471c671843e69fb0bbd985a55aa7c", func := "feathermark/plumekeep.LogTurned", spec := "logTurned", apart := false }
def LogTurnedSaid : Prop := logTurnedRow.holds Try.pinned (OpenSpec.ofChange logTurnedSpec)

/-- ITS FALSE NEIGHBOUR: 'it returns false'. Refute it at one input. -/
def logTurnedWrong : ChangeSpec := { name := "logTurned", fn := fun _ => fun
  | [d1, d2, d3] => { results := [.lit (.bool false)], args := [d1, d2, d3] }
  | _ => none }
def LogTurnedWrongFalsely : Prop := logTurnedRow.holds Try.pinned (OpenSpec.ofChange logTurnedWrong)

/-- 'plumekeep.LogBack': WHATEVER THE INPUT: true; the input reads as it did. -/
def logBackSpec : ChangeSpec := { name := "logBack", fn := fun _ => fun
  | [d1, d2] => { results := [.lit (.bool true)], args := [d1, d2] }
  | _ => none }
def logBackRow : OpenClaim := { program := "ytdmolnfnpinhcaa", sum := "1ff796577bcfd48c302cc43a14f89a0a842471c671843e69fb0bbd985a55aa7c", func := "feathermark/plumekeep.LogBack", spec := "logBack", apart := false }
def LogBackSaid : Prop := logBackRow.holds Try.pinned (OpenSpec.ofChange logBackSpec)

/-- ITS FALSE NEIGHBOUR: 'it returns false'. Refute it at one input. -/
def logBackWrong : ChangeSpec := { name := "logBack", fn := fun _ => fun
  | [d1, d2] => { results := [.lit (.bool false)], args := [d1, d2] }
  | _ => none }
def LogBackWrongFalsely : Prop := logBackRow.holds Try.pinned (OpenSpec.ofChange logBackWrong)

/-- 'plumekeep.LogFull': WHATEVER THE INPUT: true; the input reads as it did. -/
def logFullSpec : ChangeSpec := { name := "logFull", fn := fun _ => fun
  | [d] => { results := [.lit (.bool true)], args := [d] }
  | _ => none }
def logFullRow : OpenClaim := { program := "ytdmolnfnpinhcaa", sum := "1ff796577bcfd48c302cc43a14f89a0a842471c671843e69fb0bbd985a55aa7c", func := "feathermark/plumekeep.LogFull", spec := "logFull", apart := false }
def LogFullSaid : Prop := logFullRow.holds Try.pinned (OpenSpec.ofChange logFullSpec)

/-- ITS FALSE NEIGHBOUR: 'it returns false'. Refute it at one input. -/
def logFullWrong : ChangeSpec := { name := "logFull", fn := fun _ => fun
  | [d] => { results := [.lit (.bool false)], args := [d] }
  | _ => none }
def LogFullWrongFalsely : Prop := logFullRow.holds Try.pinned (OpenSpec.ofChange logFullWrong)

/-- 'plumekeep.GrovesBest': WHATEVER THE INPUT: true; the input reads as it did. -/
def grovesBestSpec : ChangeSpec := { name := "grovesBest", fn := fun _ => fun
  | [d1, d2, d3, d4] => { results := [.lit (.bool true)], args := [d1, d2, d3, d4] }
  | _ => none }
def grovesBestRow : OpenClaim := { program := "ytdmolnfnpinhcaa", sum := "1ff796577bcfd48c302cc43a14f89a0a842471c671843e69fb0bbd985a55aa7c", func := "feathermark/plumekeep.GrovesBest", spec := "grovesBest", unfollowed := true, recurses := true, apart := false }
def GrovesBestSaid : Prop := grovesBestRow.holds Try.pinned (OpenSpec.ofChange grovesBestSpec)

/-- ITS FALSE NEIGHBOUR: 'it returns false'. Refute it at one input. -/
def grovesBestWrong : ChangeSpec := { name := "grovesBest", fn := fun _ => fun
  | [d1, d2, d3, d4] => { results := [.lit (.bool false)], args := [d1, d2, d3, d4] }
  | _ => none }
def GrovesBestWrongFalsely : Prop := grovesBestRow.holds Try.pinned (OpenSpec.ofChange grovesBestWrong)

/-- 'plumekeep.GrovesPays': WHATEVER THE INPUT: true; the input reads as it did. -/
def grovesPaysSpec : ChangeSpec := { name := "grovesPays", fn := fun _ => fun
  | [d1, d2, d3] => { results := [.lit (.bool true)], args := [d1, d2, d3] }
  | _ => none }
def grovesPaysRow : OpenClaim := { program := "ytdmolnfnpinhcaa", sum := "1ff796577bcfd48c302cc43a14f89a0a842471c671843e69fb0bbd985a55aa7c", func := "feathermark/plumekeep.GrovesPays", spec := "grovesPays", unfollowed := true, recurses := true, apart := false }
def GrovesPaysSaid : Prop := grovesPaysRow.holds Try.pinned (OpenSpec.ofChange grovesPaysSpec)

/-- ITS FALSE NEIGHBOUR: 'it returns false'. Refute it at one input. -/
def grovesPaysWrong : ChangeSpec := { name := "grovesPays", fn := fun _ => fun
  | [d1, d2, d3] => { results := [.lit (.bool false)], args := [d1, d2, d3] }
  | _ => none }
def GrovesPaysWrongFalsely : Prop := grovesPaysRow.holds Try.pinned (OpenSpec.ofChange grovesPaysWrong)

/-- 'plumekeep.LogKeeps': WHATEVER THE INPUT: true; the input reads as it did. -/
def logKeepsSpec : ChangeSpec := { name := "logKeeps", fn := fun _ => fun
  | [d1, d2, d3, d4] => { results := [.lit (.bool true)], args := [d1, d2, d3, d4] }
  | _ => none }
def logKeepsRow : OpenClaim := { program := "ytdmolnfnpinhcaa", sum := "1ff796577bcfd48c302cc43a14f89a0a842471c671843e69fb0bbd985a55aa7c", func := "feathermark/plumekeep.LogKeeps", spec := "logKeeps", apart := false }
def LogKeepsSaid : Prop := logKeepsRow.holds Try.pinned (OpenSpec.ofChange logKeepsSpec)

/-- ITS FALSE NEIGHBOUR: 'it returns false'. Refute it at one input. -/
def logKeepsWrong : ChangeSpec := { name := "logKeeps", fn := fun _ => fun
  | [d1, d2, d3, d4] => { results := [.lit (.bool false)], args := [d1, d2, d3, d4] }
  | _ => none }
def LogKeepsWrongFalsely : Prop := logKeepsRow.holds Try.pinned (OpenSpec.ofChange logKeepsWrong)

/-- 'plumekeep.GrovesTruth': WHATEVER THE INPUT: true; the input reads as it did. -/
def grovesTruthSpec : ChangeSpec := { name := "grovesTruth", fn := fun _ => fun
  | [d1, d2, d3, d4, d5] => { results := [.lit (.bool true)], args := [d1, d2, d3, d4, d5] }
  | _ => none }
def grovesTruthRow : OpenClaim := { program := "ytdmolnfnpinhcaa", sum := "1ff796577bcfd48c302cc43a14f89a0a842471c671843e69fb0bbd985a55aa7c", func := "feathermark/plumekeep.GrovesTruth", spec := "grovesTruth", unfollowed := true, recurses := true, apart := false }
def GrovesTruthSaid : Prop := grovesTruthRow.holds Try.pinned (OpenSpec.ofChange grovesTruthSpec)

/-- ITS FALSE NEIGHBOUR: 'it returns false'. Refute it at one input. -/
def grovesTruthWrong : ChangeSpec := { name := "grovesTruth", fn := fun _ => fun
  | [d1, d2, d3, d4, d5] => { results := [.lit (.bool false)], args := [d1, d2, d3, d4, d5] }
  | _ => none }
def GrovesTruthWrongFalsely : Prop := grovesTruthRow.holds Try.pinned (OpenSpec.ofChange grovesTruthWrong)

/-- 'plumekeep.AuctionTruth': WHATEVER THE INPUT: true; the input reads as it did. -/
def auctionTruthSpec : ChangeSpec := { name := "auctionTruth", fn := fun _ => fun
  | [d1, d2, d3, d4] => { results := [.lit (.bool true)], args := [d1, d2, d3, d4] }
  | _ => none }
def auctionTruthRow : OpenClaim := { program := "ytdmolnfnpinhcaa", sum := "1ff796577bcfd48c302cc43a14f89a0a842471c671843e69fb0bbd985a55aa7c", func := "feathermark/plumekeep.AuctionTruth", spec := "auctionTruth", unfollowed := true, recurses := true, apart := false }
def AuctionTruthSaid : Prop := auctionTruthRow.holds Try.pinned (OpenSpec.ofChange auctionTruthSpec)

/-- ITS FALSE NEIGHBOUR: 'it returns false'. Refute it at one input. -/
def auctionTruthWrong : ChangeSpec := { name := "auctionTruth", fn := fun _ => fun
  | [d1, d2, d3, d4] => { results := [.lit (.bool false)], args := [d1, d2, d3, d4] }
  | _ => none }
def AuctionTruthWrongFalsely : Prop := auctionTruthRow.holds Try.pinned (OpenSpec.ofChange auctionTruthWrong)

/-- 'plumekeep.AuctionPays': WHATEVER THE INPUT: true; the input reads as it did. -/
def auctionPaysSpec : ChangeSpec := { name := "auctionPays", fn := fun _ => fun
  | [d1, d2] => { results := [.lit (.bool true)], args := [d1, d2] }
  | _ => none }
def auctionPaysRow : OpenClaim := { program := "ytdmolnfnpinhcaa", sum := "1ff796577bcfd48c302cc43a14f89a0a842471c671843e69fb0bbd985a55aa7c", func := "feathermark/plumekeep.AuctionPays", spec := "auctionPays", unfollowed := true, recurses := true, apart := false }
def AuctionPaysSaid : Prop := auctionPaysRow.holds Try.pinned (OpenSpec.ofChange auctionPaysSpec)

/-- ITS FALSE NEIGHBOUR: 'it returns false'. Refute it at one input. -/
def auctionPaysWrong : ChangeSpec := { name := "auctionPays", fn := fun _ => fun
  | [d1, d2] => { results := [.lit (.bool false)], args := [d1, d2] }
  | _ => none }
def AuctionPaysWrongFalsely : Prop := auctionPaysRow.holds Try.pinned (OpenSpec.ofChange auctionPaysWrong)

/-- 'plumekeep.AuctionRise': WHATEVER THE INPUT: true; the input reads as it did. -/
def auctionRiseSpec : ChangeSpec := { name := "auctionRise", fn := fun _ => fun
  | [d1, d2, d3] => { results := [.lit (.bool true)], args := [d1, d2, d3] }
  | _ => none }
def auctionRiseRow : OpenClaim := { program := "ytdmolnfnpinhcaa", sum := "1ff796577bcfd48c302cc43a14f89a0a842471c671843e69fb0bbd985a55aa7c", func := "feathermark/plumekeep.AuctionRise", spec := "auctionRise", unfollowed := true, recurses := true, apart := false }
def AuctionRiseSaid : Prop := auctionRiseRow.holds Try.pinned (OpenSpec.ofChange auctionRiseSpec)

/-- ITS FALSE NEIGHBOUR: 'it returns false'. Refute it at one input. -/
def auctionRiseWrong : ChangeSpec := { name := "auctionRise", fn := fun _ => fun
  | [d1, d2, d3] => { results := [.lit (.bool false)], args := [d1, d2, d3] }
  | _ => none }
def AuctionRiseWrongFalsely : Prop := auctionRiseRow.holds Try.pinned (OpenSpec.ofChange auctionRiseWrong)

/-- 'plumekeep.GrovesOne': WHATEVER THE INPUT: true; the input reads as it did. -/
def grovesOneSpec : ChangeSpec := { name := "grovesOne", fn := fun _ => fun
  | [d] => { results := [.lit (.bool true)], args := [d] }
  | _ => none }
def grovesOneRow : OpenClaim := { program := "ytdmolnfnpinhcaa", sum := "1ff796577bcfd48c302cc43a14f89a0a842471c671843e69fb0bbd985a55aa7c", func := "feathermark/plumekeep.GrovesOne", spec := "grovesOne", unfollowed := true, recurses := true, apart := false }
def GrovesOneSaid : Prop := grovesOneRow.holds Try.pinned (OpenSpec.ofChange grovesOneSpec)

/-- ITS FALSE NEIGHBOUR: 'it returns false'. Refute it at one input. -/
def grovesOneWrong : ChangeSpec := { name := "grovesOne", fn := fun _ => fun
  | [d] => { results := [.lit (.bool false)], args := [d] }
  | _ => none }
def GrovesOneWrongFalsely : Prop := grovesOneRow.holds Try.pinned (OpenSpec.ofChange grovesOneWrong)

/- THE SECOND FORM. 'bulk': how many values and letters a reading holds, each counted each time it is reached (what is shared counts as often as it is met; a slice's spare places count too). A statement '..UptoSaid' is the law's where the arguments, and the package variables that the reading takes, are together of bulk at most 1048576: NARROWER than '..Said'. Prove '..Said' where nothing that the law and all that it calls make is longer than what came in: it says more and counts as full. Else prove '..UptoSaid'. A law counts once. -/
mutual
def uptoBulk {H : Type} : DataW H → Nat
  | .lit (.string bytes) => bytes.length + 1
  | .lit _ => 1
  | .nil => 1
  | .ptr d => uptoBulk d + 1
  | .slice elems spare => uptoBulkAll elems + uptoBulkAll spare + 1
  | .agg parts => uptoBulkAll parts + 1
  | .iface _ d => uptoBulk d + 1
  | .map entries => uptoBulkEntries entries + 1
  | .held _ => 1
def uptoBulkAll {H : Type} : List (DataW H) → Nat
  | [] => 0
  | d :: r => uptoBulk d + uptoBulkAll r
def uptoBulkEntries {H : Type} : List (Lit × DataW H) → Nat
  | [] => 0
  | x :: r => uptoBulkEntry x + uptoBulkEntries r
def uptoBulkEntry {H : Type} : Lit × DataW H → Nat
  | (.string bytes, d) => bytes.length + uptoBulk d + 1
  | (_, d) => uptoBulk d + 1
 end
def uptoSmall : (H : Type) → List (DataW H) → Bool := fun _ ds => decide (uptoBulkAll ds ≤ 1048576)
def OpenSpec.upto (s : _root_.Go.ChangeSpec) : _root_.Go.OpenSpec := { _root_.Go.OpenSpec.ofChange s with cond := some uptoSmall }

/-- 'plumekeep.LogTurned', WHERE WHAT IT READS IS OF BULK AT MOST 1048576: true; the input reads as it did. -/
def logTurnedUptoRow : OpenClaim := { program := "ytdmolnfnpinhcaa", sum := "1ff796577bcfd48c302cc43a14f89a0a842471c671843e69fb0bbd985a55aa7c", func := "feathermark/plumekeep.LogTurned", spec := "logTurned", apart := false, narrowed := true }
def LogTurnedUptoSaid : Prop := logTurnedUptoRow.holds Try.pinned (OpenSpec.upto logTurnedSpec)

/-- 'plumekeep.LogBack', WHERE WHAT IT READS IS OF BULK AT MOST 1048576: true; the input reads as it did. -/
def logBackUptoRow : OpenClaim := { program := "ytdmolnfnpinhcaa", sum := "1ff796577bcfd48c302cc43a14f89a0a842471c671843e69fb0bbd985a55aa7c", func := "feathermark/plumekeep.LogBack", spec := "logBack", apart := false, narrowed := true }
def LogBackUptoSaid : Prop := logBackUptoRow.holds Try.pinned (OpenSpec.upto logBackSpec)

/-- 'plumekeep.LogFull', WHERE WHAT IT READS IS OF BULK AT MOST 1048576: true; the input reads as it did. -/
def logFullUptoRow : OpenClaim := { program := "ytdmolnfnpinhcaa", sum := "1ff796577bcfd48c302cc43a14f89a0a842471c671843e69fb0bbd985a55aa7c", func := "feathermark/plumekeep.LogFull", spec := "logFull", apart := false, narrowed := true }
def LogFullUptoSaid : Prop := logFullUptoRow.holds Try.pinned (OpenSpec.upto logFullSpec)

/-- 'plumekeep.GrovesBest', WHERE WHAT IT READS IS OF BULK AT MOST 1048576: true; the input reads as it did. -/
def grovesBestUptoRow : OpenClaim := { program := "ytdmolnfnpinhcaa", sum := "1ff796577bcfd48c302cc43a14f89a0a842471c671843e69fb0bbd985a55aa7c", func := "feathermark/plumekeep.GrovesBest", spec := "grovesBest", unfollowed := true, recurses := true, apart := false, narrowed := true }
def GrovesBestUptoSaid : Prop := grovesBestUptoRow.holds Try.pinned (OpenSpec.upto grovesBestSpec)

/-- 'plumekeep.GrovesPays', WHERE WHAT IT READS IS OF BULK AT MOST 1048576: true; the input reads as it did. -/
def grovesPaysUptoRow : OpenClaim := { program := "ytdmolnfnpinhcaa", sum := "1ff796577bcfd48c302cc43a14f89a0a842471c671843e69fb0bbd985a55aa7c", func := "feathermark/plumekeep.GrovesPays", spec := "grovesPays", unfollowed := true, recurses := true, apart := false, narrowed := true }
def GrovesPaysUptoSaid : Prop := grovesPaysUptoRow.holds Try.pinned (OpenSpec.upto grovesPaysSpec)

/-- 'plumekeep.LogKeeps', WHERE WHAT IT READS IS OF BULK AT MOST 1048576: true; the input reads as it did. -/
def logKeepsUptoRow : OpenClaim := { program := "ytdmolnfnpinhcaa", sum := "1ff796577bcfd48c302cc43a14f89a0a842471c671843e69fb0bbd985a55aa7c", func := "feathermark/plumekeep.LogKeeps", spec := "logKeeps", apart := false, narrowed := true }
def LogKeepsUptoSaid : Prop := logKeepsUptoRow.holds Try.pinned (OpenSpec.upto logKeepsSpec)

/-- 'plumekeep.GrovesTruth', WHERE WHAT IT READS IS OF BULK AT MOST 1048576: true; the input reads as it did. -/
def grovesTruthUptoRow : OpenClaim := { program := "ytdmolnfnpinhcaa", sum := "1ff796577bcfd48c302cc43a14f89a0a842471c671843e69fb0bbd985a55aa7c", func := "feathermark/plumekeep.GrovesTruth", spec := "grovesTruth", unfollowed := true, recurses := true, apart := false, narrowed := true }
def GrovesTruthUptoSaid : Prop := grovesTruthUptoRow.holds Try.pinned (OpenSpec.upto grovesTruthSpec)

/-- 'plumekeep.AuctionTruth', WHERE WHAT IT READS IS OF BULK AT MOST 1048576: true; the input reads as it did. -/
def auctionTruthUptoRow : OpenClaim := { program := "ytdmolnfnpinhcaa", sum := "1ff796577bcfd48c302cc43a14f89a0a842471c671843e69fb0bbd985a55aa7c", func := "feathermark/plumekeep.AuctionTruth", spec := "auctionTruth", unfollowed := true, recurses := true, apart := false, narrowed := true }
def AuctionTruthUptoSaid : Prop := auctionTruthUptoRow.holds Try.pinned (OpenSpec.upto auctionTruthSpec)

/-- 'plumekeep.AuctionPays', WHERE WHAT IT READS IS OF BULK AT MOST 1048576: true; the input reads as it did. -/
def auctionPaysUptoRow : OpenClaim := { program := "ytdmolnfnpinhcaa", sum := "1ff796577bcfd48c302cc43a14f89a0a842471c671843e69fb0bbd985a55aa7c", func := "feathermark/plumekeep.AuctionPays", spec := "auctionPays", unfollowed := true, recurses := true, apart := false, narrowed := true }
def AuctionPaysUptoSaid : Prop := auctionPaysUptoRow.holds Try.pinned (OpenSpec.upto auctionPaysSpec)

/-- 'plumekeep.AuctionRise', WHERE WHAT IT READS IS OF BULK AT MOST 1048576: true; the input reads as it did. -/
def auctionRiseUptoRow : OpenClaim := { program := "ytdmolnfnpinhcaa", sum := "1ff796577bcfd48c302cc43a14f89a0a842471c671843e69fb0bbd985a55aa7c", func := "feathermark/plumekeep.AuctionRise", spec := "auctionRise", unfollowed := true, recurses := true, apart := false, narrowed := true }
def AuctionRiseUptoSaid : Prop := auctionRiseUptoRow.holds Try.pinned (OpenSpec.upto auctionRiseSpec)

/-- 'plumekeep.GrovesOne', WHERE WHAT IT READS IS OF BULK AT MOST 1048576: true; the input reads as it did. -/
def grovesOneUptoRow : OpenClaim := { program := "ytdmolnfnpinhcaa", sum := "1ff796577bcfd48c302cc43a14f89a0a842471c671843e69fb0bbd985a55aa7c", func := "feathermark/plumekeep.GrovesOne", spec := "grovesOne", unfollowed := true, recurses := true, apart := false, narrowed := true }
def GrovesOneUptoSaid : Prop := grovesOneUptoRow.holds Try.pinned (OpenSpec.upto grovesOneSpec)

end Rows
end Go.Proofs.Ytdmolnfnpinhcaa
