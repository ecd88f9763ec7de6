/-
  No cell of these rows narrows 'for every input' (looked for: loops, veiled, ifaces, maps, wideKeys, modest, calm, conditions, laid).
  DERIVED. THE GIVEN ROWS OF THIS SEAT. 11 by the template 'for every input the law returns true; each argument reads behind the call as it read before'; 0 by the template 'total and deterministic' (their statements: YtflbneojjnpegaaTotals.lean).
  GIVEN WITH THE SEED: the statements are not yours to turn. If you find one false, say at which input.
  Laid BY PROGRAM, IN A SANDBOX (cutbox-rows.mjs): the forced cells as the released guide's own fill.sh prints them over the translation 3c799e7497551b02… (all of the seat's roots in one cut). By AI agents, Wed Nov 11 2026. No macro, syntax, notation, axiom, sorry.
-/
import Derived.Test.YtflbneojjnpegaaChecked
import GoSem.Claim
import GoSem.ClaimJoined
import GoSem.ClaimMapViews
import Derived.JoinedTies
import Derived.KernelRfl
namespace Go.Proofs.Ytflbneojjnpegaa
/- THE CELL 'sum', in the pinned program and in every row, IS THE sha256 OF THE DUMP (.gsa) THAT YtflbneojjnpegaaProg.lean LOADS. Nothing in Lean hashes anything: it is a label: what it is worth is what the hold of that sum in a sandbox is worth. -/
noncomputable def Try.pinned : Pinned := { name := "ytflbneojjnpegaa", sum := "3c799e7497551b027bb859d1f98e68ba2f7d7f690883faf966fe78becd361e05", checked := Try.checked }
namespace Rows
def none {H : Type} : Left H := { results := [], args := [] }

/-- 'plumekeep.QueueOne': WHATEVER THE INPUT: true; the input reads as it did. -/
def queueOneSpec : ChangeSpec := { name := "queueOne", fn := fun _ => fun
  | [d] => { results := [.lit (.bool true)], args := [d] }
  | _ => none }
def queueOneRow : OpenClaim := { program := "ytflbneojjnpegaa", sum := "3c799e7497551b027bb859d1f98e68ba2f7d7f690883faf966fe78becd361e05", func := "feathermark/plumekeep.QueueOne", spec := "queueOne", unfollowed := true, recurses := true, apart := false }
def QueueOneSaid : Prop := queueOneRow.holds Try.pinned (OpenSpec.ofChange queueOneSpec)

/-- ITS FALSE NEIGHBOUR: 'it returns false'. Refute it at one input. -/
def queueOneWrong : ChangeSpec := { name := "queueOne", fn := fun _ => fun
  | [d] => { results := [.lit (.bool false)], args := [d] }
  | _ => none }
def QueueOneWrongFalsely : Prop := queueOneRow.holds Try.pinned (OpenSpec.ofChange queueOneWrong)

/-- 'plumekeep.QueueAdd': WHATEVER THE INPUT: true; the input reads as it did. -/
def queueAddSpec : ChangeSpec := { name := "queueAdd", fn := fun _ => fun
  | [d1, d2] => { results := [.lit (.bool true)], args := [d1, d2] }
  | _ => none }
def queueAddRow : OpenClaim := { program := "ytflbneojjnpegaa", sum := "3c799e7497551b027bb859d1f98e68ba2f7d7f690883faf966fe78becd361e05", func := "feathermark/plumekeep.QueueAdd", spec := "queueAdd", unfollowed := true, recurses := true, apart := false }
def QueueAddSaid : Prop := queueAddRow.holds Try.pinned (OpenSpec.ofChange queueAddSpec)

/-- ITS FALSE NEIGHBOUR: 'it returns false'. Refute it at one input. -/
def queueAddWrong : ChangeSpec := { name := "queueAdd", fn := fun _ => fun
  | [d1, d2] => { results := [.lit (.bool false)], args := [d1, d2] }
  | _ => none }
def QueueAddWrongFalsely : Prop := queueAddRow.holds Try.pinned (OpenSpec.ofChange queueAddWrong)

/-- 'plumekeep.QueueClean': WHATEVER THE INPUT: true; the input reads as it did. -/
def queueCleanSpec : ChangeSpec := { name := "queueClean", fn := fun _ => fun
  | [d1, d2] => { results := [.lit (.bool true)], args := [d1, d2] }
  | _ => none }
def queueCleanRow : OpenClaim := { program := "ytflbneojjnpegaa", sum := "3c799e7497551b027bb859d1f98e68ba2f7d7f690883faf966fe78becd361e05", func := "feathermark/plumekeep.QueueClean", spec := "queueClean", unfollowed := true, recurses := true, apart := false }
def QueueCleanSaid : Prop := queueCleanRow.holds Try.pinned (OpenSpec.ofChange queueCleanSpec)

/-- ITS FALSE NEIGHBOUR: 'it returns false'. Refute it at one input. -/
def queueCleanWrong : ChangeSpec := { name := "queueClean", fn := fun _ => fun
  | [d1, d2] => { results := [.lit (.bool false)], args := [d1, d2] }
  | _ => none }
def QueueCleanWrongFalsely : Prop := queueCleanRow.holds Try.pinned (OpenSpec.ofChange queueCleanWrong)

/-- 'plumekeep.PickAll': WHATEVER THE INPUT: true; the input reads as it did. -/
def pickAllSpec : ChangeSpec := { name := "pickAll", fn := fun _ => fun
  | [d1, d2, d3, d4] => { results := [.lit (.bool true)], args := [d1, d2, d3, d4] }
  | _ => none }
def pickAllRow : OpenClaim := { program := "ytflbneojjnpegaa", sum := "3c799e7497551b027bb859d1f98e68ba2f7d7f690883faf966fe78becd361e05", func := "feathermark/plumekeep.PickAll", spec := "pickAll", unfollowed := true, recurses := true, apart := false }
def PickAllSaid : Prop := pickAllRow.holds Try.pinned (OpenSpec.ofChange pickAllSpec)

/-- ITS FALSE NEIGHBOUR: 'it returns false'. Refute it at one input. -/
def pickAllWrong : ChangeSpec := { name := "pickAll", fn := fun _ => fun
  | [d1, d2, d3, d4] => { results := [.lit (.bool false)], args := [d1, d2, d3, d4] }
  | _ => none }
def PickAllWrongFalsely : Prop := pickAllRow.holds Try.pinned (OpenSpec.ofChange pickAllWrong)

/-- 'plumekeep.PickNext': WHATEVER THE INPUT: true; the input reads as it did. -/
def pickNextSpec : ChangeSpec := { name := "pickNext", fn := fun _ => fun
  | [d1, d2, d3, d4] => { results := [.lit (.bool true)], args := [d1, d2, d3, d4] }
  | _ => none }
def pickNextRow : OpenClaim := { program := "ytflbneojjnpegaa", sum := "3c799e7497551b027bb859d1f98e68ba2f7d7f690883faf966fe78becd361e05", func := "feathermark/plumekeep.PickNext", spec := "pickNext", unfollowed := true, recurses := true, apart := false }
def PickNextSaid : Prop := pickNextRow.holds Try.pinned (OpenSpec.ofChange pickNextSpec)

/-- ITS FALSE NEIGHBOUR: 'it returns false'. Refute it at one input. -/
def pickNextWrong : ChangeSpec := { name := "pickNext", fn := fun _ => fun
  | [d1, d2, d3, d4] => { results := [.lit (.bool false)], args := [d1, d2, d3, d4] }
  | _ => none }
def PickNextWrongFalsely : Prop := pickNextRow.holds Try.pinned (OpenSpec.ofChange pickNextWrong)

/-- 'plumekeep.PickReplay': WHATEVER THE INPUT: true; the input reads as it did. -/
def pickReplaySpec : ChangeSpec := { name := "pickReplay", fn := fun _ => fun
  | [d1, d2, d3, d4] => { results := [.lit (.bool true)], args := [d1, d2, d3, d4] }
  | _ => none }
def pickReplayRow : OpenClaim := { program := "ytflbneojjnpegaa", sum := "3c799e7497551b027bb859d1f98e68ba2f7d7f690883faf966fe78becd361e05", func := "feathermark/plumekeep.PickReplay", spec := "pickReplay", unfollowed := true, recurses := true, apart := false }
def PickReplaySaid : Prop := pickReplayRow.holds Try.pinned (OpenSpec.ofChange pickReplaySpec)

/-- ITS FALSE NEIGHBOUR: 'it returns false'. Refute it at one input. -/
def pickReplayWrong : ChangeSpec := { name := "pickReplay", fn := fun _ => fun
  | [d1, d2, d3, d4] => { results := [.lit (.bool false)], args := [d1, d2, d3, d4] }
  | _ => none }
def PickReplayWrongFalsely : Prop := pickReplayRow.holds Try.pinned (OpenSpec.ofChange pickReplayWrong)

/-- 'plumekeep.UnitsTruth': WHATEVER THE INPUT: true; the input reads as it did. -/
def unitsTruthSpec : ChangeSpec := { name := "unitsTruth", fn := fun _ => fun
  | [d1, d2, d3, d4] => { results := [.lit (.bool true)], args := [d1, d2, d3, d4] }
  | _ => none }
def unitsTruthRow : OpenClaim := { program := "ytflbneojjnpegaa", sum := "3c799e7497551b027bb859d1f98e68ba2f7d7f690883faf966fe78becd361e05", func := "feathermark/plumekeep.UnitsTruth", spec := "unitsTruth", unfollowed := true, recurses := true, apart := false }
def UnitsTruthSaid : Prop := unitsTruthRow.holds Try.pinned (OpenSpec.ofChange unitsTruthSpec)

/-- ITS FALSE NEIGHBOUR: 'it returns false'. Refute it at one input. -/
def unitsTruthWrong : ChangeSpec := { name := "unitsTruth", fn := fun _ => fun
  | [d1, d2, d3, d4] => { results := [.lit (.bool false)], args := [d1, d2, d3, d4] }
  | _ => none }
def UnitsTruthWrongFalsely : Prop := unitsTruthRow.holds Try.pinned (OpenSpec.ofChange unitsTruthWrong)

/-- 'plumekeep.UnitsFair': WHATEVER THE INPUT: true; the input reads as it did. -/
def unitsFairSpec : ChangeSpec := { name := "unitsFair", fn := fun _ => fun
  | [d1, d2, d3, d4] => { results := [.lit (.bool true)], args := [d1, d2, d3, d4] }
  | _ => none }
def unitsFairRow : OpenClaim := { program := "ytflbneojjnpegaa", sum := "3c799e7497551b027bb859d1f98e68ba2f7d7f690883faf966fe78becd361e05", func := "feathermark/plumekeep.UnitsFair", spec := "unitsFair", unfollowed := true, recurses := true, apart := false }
def UnitsFairSaid : Prop := unitsFairRow.holds Try.pinned (OpenSpec.ofChange unitsFairSpec)

/-- ITS FALSE NEIGHBOUR: 'it returns false'. Refute it at one input. -/
def unitsFairWrong : ChangeSpec := { name := "unitsFair", fn := fun _ => fun
  | [d1, d2, d3, d4] => { results := [.lit (.bool false)], args := [d1, d2, d3, d4] }
  | _ => none }
def UnitsFairWrongFalsely : Prop := unitsFairRow.holds Try.pinned (OpenSpec.ofChange unitsFairWrong)

/-- 'plumekeep.UnitsSold': WHATEVER THE INPUT: true; the input reads as it did. -/
def unitsSoldSpec : ChangeSpec := { name := "unitsSold", fn := fun _ => fun
  | [d1, d2] => { results := [.lit (.bool true)], args := [d1, d2] }
  | _ => none }
def unitsSoldRow : OpenClaim := { program := "ytflbneojjnpegaa", sum := "3c799e7497551b027bb859d1f98e68ba2f7d7f690883faf966fe78becd361e05", func := "feathermark/plumekeep.UnitsSold", spec := "unitsSold", unfollowed := true, recurses := true, apart := false }
def UnitsSoldSaid : Prop := unitsSoldRow.holds Try.pinned (OpenSpec.ofChange unitsSoldSpec)

/-- ITS FALSE NEIGHBOUR: 'it returns false'. Refute it at one input. -/
def unitsSoldWrong : ChangeSpec := { name := "unitsSold", fn := fun _ => fun
  | [d1, d2] => { results := [.lit (.bool false)], args := [d1, d2] }
  | _ => none }
def UnitsSoldWrongFalsely : Prop := unitsSoldRow.holds Try.pinned (OpenSpec.ofChange unitsSoldWrong)

/-- 'plumekeep.UnitsMeet': WHATEVER THE INPUT: true; the input reads as it did. -/
def unitsMeetSpec : ChangeSpec := { name := "unitsMeet", fn := fun _ => fun
  | [d1, d2, d3] => { results := [.lit (.bool true)], args := [d1, d2, d3] }
  | _ => none }
def unitsMeetRow : OpenClaim := { program := "ytflbneojjnpegaa", sum := "3c799e7497551b027bb859d1f98e68ba2f7d7f690883faf966fe78becd361e05", func := "feathermark/plumekeep.UnitsMeet", spec := "unitsMeet", unfollowed := true, recurses := true, apart := false }
def UnitsMeetSaid : Prop := unitsMeetRow.holds Try.pinned (OpenSpec.ofChange unitsMeetSpec)

/-- ITS FALSE NEIGHBOUR: 'it returns false'. Refute it at one input. -/
def unitsMeetWrong : ChangeSpec := { name := "unitsMeet", fn := fun _ => fun
  | [d1, d2, d3] => { results := [.lit (.bool false)], args := [d1, d2, d3] }
  | _ => none }
def UnitsMeetWrongFalsely : Prop := unitsMeetRow.holds Try.pinned (OpenSpec.ofChange unitsMeetWrong)

/-- 'plumekeep.UnitsOne': WHATEVER THE INPUT: true; the input reads as it did. -/
def unitsOneSpec : ChangeSpec := { name := "unitsOne", fn := fun _ => fun
  | [d] => { results := [.lit (.bool true)], args := [d] }
  | _ => none }
def unitsOneRow : OpenClaim := { program := "ytflbneojjnpegaa", sum := "3c799e7497551b027bb859d1f98e68ba2f7d7f690883faf966fe78becd361e05", func := "feathermark/plumekeep.UnitsOne", spec := "unitsOne", unfollowed := true, recurses := true, apart := false }
def UnitsOneSaid : Prop := unitsOneRow.holds Try.pinned (OpenSpec.ofChange unitsOneSpec)

/-- ITS FALSE NEIGHBOUR: 'it returns false'. Refute it at one input. -/
def unitsOneWrong : ChangeSpec := { name := "unitsOne", fn := fun _ => fun
  | [d] => { results := [.lit (.bool false)], args := [d] }
  | _ => none }
def UnitsOneWrongFalsely : Prop := unitsOneRow.holds Try.pinned (OpenSpec.ofChange unitsOneWrong)

/- THE SECOND FORM. 'bulk': how many values and letters a reading holds, each counted each time it is reached (what is shared counts as often as it is met; a slice's spare places count too). A statement '..UptoSaid' is the law's where the arguments, and the package variables that the reading takes, are together of bulk at most 1048576: NARROWER than '..Said'. Prove '..Said' where nothing that the law and all that it calls make is longer than what came in: it says more and counts as full. Else prove '..UptoSaid'. A law counts once. -/
mutual
def uptoBulk {H : Type} : DataW H → Nat
  | .lit (.string bytes) => bytes.length + 1
  | .lit _ => 1
  | .nil => 1
  | .ptr d => uptoBulk d + 1
  | .slice elems spare => uptoBulkAll elems + uptoBulkAll spare + 1
  | .agg parts => uptoBulkAll parts + 1
  | .iface _ d => uptoBulk d + 1
  | .map entries => uptoBulkEntries entries + 1
  | .held _ => 1
def uptoBulkAll {H : Type} : List (DataW H) → Nat
  | [] => 0
  | d :: r => uptoBulk d + uptoBulkAll r
def uptoBulkEntries {H : Type} : List (Lit × DataW H) → Nat
  | [] => 0
  | x :: r => uptoBulkEntry x + uptoBulkEntries r
def uptoBulkEntry {H : Type} : Lit × DataW H → Nat
  | (.string bytes, d) => bytes.length + uptoBulk d + 1
  | (_, d) => uptoBulk d + 1
 end
def uptoSmall : (H : Type) → List (DataW H) → Bool := fun _ ds => decide (uptoBulkAll ds ≤ 1048576)
def OpenSpec.upto (s : _root_.Go.ChangeSpec) : _root_.Go.OpenSpec := { _root_.Go.OpenSpec.ofChange s with cond := some uptoSmall }

/-- 'plumekeep.QueueOne', WHERE WHAT IT READS IS OF BULK AT MOST 1048576: true; the input reads as it did. -/
def queueOneUptoRow : OpenClaim := { program := "ytflbneojjnpegaa", sum := "3c799e7497551b027bb859d1f98e68ba2f7d7f690883faf966fe78becd361e05", func := "feathermark/plumekeep.QueueOne", spec := "queueOne", unfollowed := true, recurses := true, apart := false, narrowed := true }
def QueueOneUptoSaid : Prop := queueOneUptoRow.holds Try.pinned (OpenSpec.upto queueOneSpec)

/-- 'plumekeep.QueueAdd', WHERE WHAT IT READS IS OF BULK AT MOST 1048576: true; the input reads as it did. -/
def queueAddUptoRow : OpenClaim := { program := "ytflbneojjnpegaa", sum := "3c799e7497551b027bb859d1f98e68ba2f7d7f690883faf966fe78becd361e05", func := "feathermark/plumekeep.QueueAdd", spec := "queueAdd", unfollowed := true, recurses := true, apart := false, narrowed := true }
def QueueAddUptoSaid : Prop := queueAddUptoRow.holds Try.pinned (OpenSpec.upto queueAddSpec)

/-- 'plumekeep.QueueClean', WHERE WHAT IT READS IS OF BULK AT MOST 1048576: true; the input reads as it did. -/
def queueCleanUptoRow : OpenClaim := { program := "ytflbneojjnpegaa", sum := "3c799e7497551b027bb859d1f98e68ba2f7d7f690883faf966fe78becd361e05", func := "feathermark/plumekeep.QueueClean", spec := "queueClean", unfollowed := true, recurses := true, apart := false, narrowed := true }
def QueueCleanUptoSaid : Prop := queueCleanUptoRow.holds Try.pinned (OpenSpec.upto queueCleanSpec)

/-- 'plumekeep.PickAll', WHERE WHAT IT READS IS OF BULK AT MOST 1048576: true; the input reads as it did. -/
def pickAllUptoRow : OpenClaim := { program := "ytflbneojjnpegaa", sum := "3c799e7497551b027bb859d1f98e68ba2f7d7f690883faf966fe78becd361e05", func := "feathermark/plumekeep.PickAll", spec := "pickAll", unfollowed := true, recurses := true, apart := false, narrowed := true }
def PickAllUptoSaid : Prop := pickAllUptoRow.holds Try.pinned (OpenSpec.upto pickAllSpec)

/-- 'plumekeep.PickNext', WHERE WHAT IT READS IS OF BULK AT MOST 1048576: true; the input reads as it did. -/
def pickNextUptoRow : OpenClaim := { program := "ytflbneojjnpegaa", sum := "3c799e7497551b027bb859d1f98e68ba2f7d7f690883faf966fe78becd361e05", func := "feathermark/plumekeep.PickNext", spec := "pickNext", unfollowed := true, recurses := true, apart := false, narrowed := true }
def PickNextUptoSaid : Prop := pickNextUptoRow.holds Try.pinned (OpenSpec.upto pickNextSpec)

/-- 'plumekeep.PickReplay', WHERE WHAT IT READS IS OF BULK AT MOST 1048576: true; the input reads as it did. -/
def pickReplayUptoRow : OpenClaim := { program := "ytflbneojjnpegaa", sum := "3c799e7497551b027bb859d1f98e68ba2f7d7f690883faf966fe78becd361e05", func := "feathermark/plumekeep.PickReplay", spec := "pickReplay", unfollowed := true, recurses := true, apart := false, narrowed := true }
def PickReplayUptoSaid : Prop := pickReplayUptoRow.holds Try.pinned (OpenSpec.upto pickReplaySpec)

/-- 'plumekeep.UnitsTruth', WHERE WHAT IT READS IS OF BULK AT MOST 1048576: true; the input reads as it did. -/
def unitsTruthUptoRow : OpenClaim := { program := "ytflbneojjnpegaa", sum := "3c799e7497551b027bb859d1f98e68ba2f7d7f690883faf966fe78becd361e05", func := "feathermark/plumekeep.UnitsTruth", spec := "unitsTruth", unfollowed := true, recurses := true, apart := false, narrowed := true }
def UnitsTruthUptoSaid : Prop := unitsTruthUptoRow.holds Try.pinned (OpenSpec.upto unitsTruthSpec)

/-- 'plumekeep.UnitsFair', WHERE WHAT IT READS IS OF BULK AT MOST 1048576: true; the input reads as it did. -/
def unitsFairUptoRow : OpenClaim := { program := "ytflbneojjnpegaa", sum := "3c799e7497551b027bb859d1f98e68ba2f7d7f690883faf966fe78becd361e05", func := "feathermark/plumekeep.UnitsFair", spec := "unitsFair", unfollowed := true, recurses := true, apart := false, narrowed := true }
def UnitsFairUptoSaid : Prop := unitsFairUptoRow.holds Try.pinned (OpenSpec.upto unitsFairSpec)

/-- 'plumekeep.UnitsSold', WHERE WHAT IT READS IS OF BULK AT MOST 1048576: true; the input reads as it did. -/
def unitsSoldUptoRow : OpenClaim := { program := "ytflbneojjnpegaa", sum := "3c799e7497551b027bb859d1f98e68ba2f7d7f690883faf966fe78becd361e05", func := "feathermark/plumekeep.UnitsSold", spec := "unitsSold", unfollowed := true, recurses := true, apart := false, narrowed := true }
def UnitsSoldUptoSaid : Prop := unitsSoldUptoRow.holds Try.pinned (OpenSpec.upto unitsSoldSpec)

/-- 'plumekeep.UnitsMeet', WHERE WHAT IT READS IS OF BULK AT MOST 1048576: true; the input reads as it did. -/
def unitsMeetUptoRow : OpenClaim := { program := "ytflbneojjnpegaa", sum := "3c799e7497551b027bb859d1f98e68ba2f7d7f690883faf966fe78becd361e05", func := "feathermark/plumekeep.UnitsMeet", spec := "unitsMeet", unfollowed := true, recurses := true, apart := false, narrowed := true }
def UnitsMeetUptoSaid : Prop := unitsMeetUptoRow.holds Try.pinned (OpenSpec.upto unitsMeetSpec)

/-- 'plumekeep.UnitsOne', WHERE WHAT IT READS IS OF BULK AT MOST 1048576: true; the input reads as it did. -/
def unitsOneUptoRow : OpenClaim := { program := "ytflbneojjnpegaa", sum := "3c799e7497551b027bb859d1f98e68ba2f7d7f690883faf966fe78becd361e05", func := "feathermark/plumekeep.UnitsOne", spec := "unitsOne", unfollowed := true, recurses := true, apart := false, narrowed := true }
def UnitsOneUptoSaid : Prop := unitsOneUptoRow.holds Try.pinned (OpenSpec.upto unitsOneSpec)

end Rows
end Go.Proofs.Ytflbneojjnpegaa
