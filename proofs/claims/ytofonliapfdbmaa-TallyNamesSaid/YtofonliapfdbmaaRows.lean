/-
  No cell of these rows narrows 'for every input' (looked for: loops, veiled, ifaces, maps, wideKeys, modest, calm, conditions, laid).
  DERIVED. THE GIVEN ROWS OF THIS SEAT. 11 by the template 'for every input the law returns true; each argument reads behind the call as it read before'; 0 by the template 'total and deterministic' (their statements: YtofonliapfdbmaaTotals.lean).
  GIVEN WITH THE SEED: the statements are not yours to turn. If you find one false, say at which input.
  Laid BY PROGRAM, IN A SANDBOX (cutbox-rows.mjs): the forced cells as the released guide's own fill.sh prints them over the translation 0a818637656bbeb7… (all of the seat's roots in one cut). By AI agents, Wed Nov 11 2026. No macro, syntax, notation, axiom, sorry.
-/
import Derived.Test.YtofonliapfdbmaaChecked
import GoSem.Claim
import GoSem.ClaimJoined
import GoSem.ClaimMapViews
import Derived.JoinedTies
import Derived.KernelRfl
namespace Go.Proofs.Ytofonliapfdbmaa
/- THE CELL 'sum', in the pinned program and in every row, IS THE sha256 OF THE DUMP (.gsa) THAT YtofonliapfdbmaaProg.lean LOADS. Nothing in Lean hashes anything: it is a label: what it is worth is what the hold of that sum in a sandbox is worth. -/
noncomputable def Try.pinned : Pinned := { name := "ytofonliapfdbmaa", sum := "0a818637656bbeb7ef0d8e2291b284e02c16242a7357e70121aae4f6926d7fc6", checked := Try.checked }
namespace Rows
def none {H : Type} : Left H := { results := [], args := [] }

/-- 'plumekeep.WidestThird': WHATEVER THE INPUT: true; the input reads as it did. -/
def widestThirdSpec : ChangeSpec := { name := "widestThird", fn := fun _ => fun
  | [d] => { results := [.lit (.bool true)], args := [d] }
  | _ => none }
def widestThirdRow : OpenClaim := { program := "ytofonliapfdbmaa", sum := "0a818637656bbeb7ef0d8e2291b284e02c16242a7357e70121aae4f6926d7fc6", func := "feathermark/plumekeep.WidestThird", spec := "widestThird", unfollowed := true, recurses := true, apart := false }
def WidestThirdSaid : Prop := widestThirdRow.holds Try.pinned (OpenSpec.ofChange widestThirdSpec)

/-- ITS FALSE NEIGHBOUR: 'it returns false'. Refute it at one input. -/
def widestThirdWrong : ChangeSpec := { name := "widestThird", fn := fun _ => fun
  | [d] => { results := [.lit (.bool false)], args := [d] }
  | _ => none }
def WidestThirdWrongFalsely : Prop := widestThirdRow.holds Try.pinned (OpenSpec.ofChange widestThirdWrong)

/-- 'plumekeep.WidestOrder': WHATEVER THE INPUT: true; the input reads as it did. -/
def widestOrderSpec : ChangeSpec := { name := "widestOrder", fn := fun _ => fun
  | [d] => { results := [.lit (.bool true)], args := [d] }
  | _ => none }
def widestOrderRow : OpenClaim := { program := "ytofonliapfdbmaa", sum := "0a818637656bbeb7ef0d8e2291b284e02c16242a7357e70121aae4f6926d7fc6", func := "feathermark/plumekeep.WidestOrder", spec := "widestOrder", unfollowed := true, recurses := true, apart := false }
def WidestOrderSaid : Prop := widestOrderRow.holds Try.pinned (OpenSpec.ofChange widestOrderSpec)

/-- ITS FALSE NEIGHBOUR: 'it returns false'. Refute it at one input. -/
def widestOrderWrong : ChangeSpec := { name := "widestOrder", fn := fun _ => fun
  | [d] => { results := [.lit (.bool false)], args := [d] }
  | _ => none }
def WidestOrderWrongFalsely : Prop := widestOrderRow.holds Try.pinned (OpenSpec.ofChange widestOrderWrong)

/-- 'plumekeep.DuelMcGarvey': WHATEVER THE INPUT: true; the input reads as it did. -/
def duelMcGarveySpec : ChangeSpec := { name := "duelMcGarvey", fn := fun _ => fun
  | [d1, d2] => { results := [.lit (.bool true)], args := [d1, d2] }
  | _ => none }
def duelMcGarveyRow : OpenClaim := { program := "ytofonliapfdbmaa", sum := "0a818637656bbeb7ef0d8e2291b284e02c16242a7357e70121aae4f6926d7fc6", func := "feathermark/plumekeep.DuelMcGarvey", spec := "duelMcGarvey", unfollowed := true, recurses := true, apart := false }
def DuelMcGarveySaid : Prop := duelMcGarveyRow.holds Try.pinned (OpenSpec.ofChange duelMcGarveySpec)

/-- ITS FALSE NEIGHBOUR: 'it returns false'. Refute it at one input. -/
def duelMcGarveyWrong : ChangeSpec := { name := "duelMcGarvey", fn := fun _ => fun
  | [d1, d2] => { results := [.lit (.bool false)], args := [d1, d2] }
  | _ => none }
def DuelMcGarveyWrongFalsely : Prop := duelMcGarveyRow.holds Try.pinned (OpenSpec.ofChange duelMcGarveyWrong)

/-- 'plumekeep.DuelTop': WHATEVER THE INPUT: true; the input reads as it did. -/
def duelTopSpec : ChangeSpec := { name := "duelTop", fn := fun _ => fun
  | [d] => { results := [.lit (.bool true)], args := [d] }
  | _ => none }
def duelTopRow : OpenClaim := { program := "ytofonliapfdbmaa", sum := "0a818637656bbeb7ef0d8e2291b284e02c16242a7357e70121aae4f6926d7fc6", func := "feathermark/plumekeep.DuelTop", spec := "duelTop", unfollowed := true, recurses := true, apart := false }
def DuelTopSaid : Prop := duelTopRow.holds Try.pinned (OpenSpec.ofChange duelTopSpec)

/-- ITS FALSE NEIGHBOUR: 'it returns false'. Refute it at one input. -/
def duelTopWrong : ChangeSpec := { name := "duelTop", fn := fun _ => fun
  | [d] => { results := [.lit (.bool false)], args := [d] }
  | _ => none }
def DuelTopWrongFalsely : Prop := duelTopRow.holds Try.pinned (OpenSpec.ofChange duelTopWrong)

/-- 'plumekeep.DuelWorst': WHATEVER THE INPUT: true; the input reads as it did. -/
def duelWorstSpec : ChangeSpec := { name := "duelWorst", fn := fun _ => fun
  | [d] => { results := [.lit (.bool true)], args := [d] }
  | _ => none }
def duelWorstRow : OpenClaim := { program := "ytofonliapfdbmaa", sum := "0a818637656bbeb7ef0d8e2291b284e02c16242a7357e70121aae4f6926d7fc6", func := "feathermark/plumekeep.DuelWorst", spec := "duelWorst", unfollowed := true, recurses := true, apart := false }
def DuelWorstSaid : Prop := duelWorstRow.holds Try.pinned (OpenSpec.ofChange duelWorstSpec)

/-- ITS FALSE NEIGHBOUR: 'it returns false'. Refute it at one input. -/
def duelWorstWrong : ChangeSpec := { name := "duelWorst", fn := fun _ => fun
  | [d] => { results := [.lit (.bool false)], args := [d] }
  | _ => none }
def DuelWorstWrongFalsely : Prop := duelWorstRow.holds Try.pinned (OpenSpec.ofChange duelWorstWrong)

/-- 'plumekeep.TallyBeater': WHATEVER THE INPUT: true; the input reads as it did. -/
def tallyBeaterSpec : ChangeSpec := { name := "tallyBeater", fn := fun _ => fun
  | [d1, d2] => { results := [.lit (.bool true)], args := [d1, d2] }
  | _ => none }
def tallyBeaterRow : OpenClaim := { program := "ytofonliapfdbmaa", sum := "0a818637656bbeb7ef0d8e2291b284e02c16242a7357e70121aae4f6926d7fc6", func := "feathermark/plumekeep.TallyBeater", spec := "tallyBeater", unfollowed := true, recurses := true, apart := false }
def TallyBeaterSaid : Prop := tallyBeaterRow.holds Try.pinned (OpenSpec.ofChange tallyBeaterSpec)

/-- ITS FALSE NEIGHBOUR: 'it returns false'. Refute it at one input. -/
def tallyBeaterWrong : ChangeSpec := { name := "tallyBeater", fn := fun _ => fun
  | [d1, d2] => { results := [.lit (.bool false)], args := [d1, d2] }
  | _ => none }
def TallyBeaterWrongFalsely : Prop := tallyBeaterRow.holds Try.pinned (OpenSpec.ofChange tallyBeaterWrong)

/-- 'plumekeep.DuelWins': WHATEVER THE INPUT: true; the input reads as it did. -/
def duelWinsSpec : ChangeSpec := { name := "duelWins", fn := fun _ => fun
  | [d] => { results := [.lit (.bool true)], args := [d] }
  | _ => none }
def duelWinsRow : OpenClaim := { program := "ytofonliapfdbmaa", sum := "0a818637656bbeb7ef0d8e2291b284e02c16242a7357e70121aae4f6926d7fc6", func := "feathermark/plumekeep.DuelWins", spec := "duelWins", unfollowed := true, recurses := true, apart := false }
def DuelWinsSaid : Prop := duelWinsRow.holds Try.pinned (OpenSpec.ofChange duelWinsSpec)

/-- ITS FALSE NEIGHBOUR: 'it returns false'. Refute it at one input. -/
def duelWinsWrong : ChangeSpec := { name := "duelWins", fn := fun _ => fun
  | [d] => { results := [.lit (.bool false)], args := [d] }
  | _ => none }
def DuelWinsWrongFalsely : Prop := duelWinsRow.holds Try.pinned (OpenSpec.ofChange duelWinsWrong)

/-- 'plumekeep.TallySums': WHATEVER THE INPUT: true; the input reads as it did. -/
def tallySumsSpec : ChangeSpec := { name := "tallySums", fn := fun _ => fun
  | [d1, d2] => { results := [.lit (.bool true)], args := [d1, d2] }
  | _ => none }
def tallySumsRow : OpenClaim := { program := "ytofonliapfdbmaa", sum := "0a818637656bbeb7ef0d8e2291b284e02c16242a7357e70121aae4f6926d7fc6", func := "feathermark/plumekeep.TallySums", spec := "tallySums", unfollowed := true, recurses := true, apart := false }
def TallySumsSaid : Prop := tallySumsRow.holds Try.pinned (OpenSpec.ofChange tallySumsSpec)

/-- ITS FALSE NEIGHBOUR: 'it returns false'. Refute it at one input. -/
def tallySumsWrong : ChangeSpec := { name := "tallySums", fn := fun _ => fun
  | [d1, d2] => { results := [.lit (.bool false)], args := [d1, d2] }
  | _ => none }
def TallySumsWrongFalsely : Prop := tallySumsRow.holds Try.pinned (OpenSpec.ofChange tallySumsWrong)

/-- 'plumekeep.TallyTurned': WHATEVER THE INPUT: true; the input reads as it did. -/
def tallyTurnedSpec : ChangeSpec := { name := "tallyTurned", fn := fun _ => fun
  | [d1, d2] => { results := [.lit (.bool true)], args := [d1, d2] }
  | _ => none }
def tallyTurnedRow : OpenClaim := { program := "ytofonliapfdbmaa", sum := "0a818637656bbeb7ef0d8e2291b284e02c16242a7357e70121aae4f6926d7fc6", func := "feathermark/plumekeep.TallyTurned", spec := "tallyTurned", unfollowed := true, recurses := true, apart := false }
def TallyTurnedSaid : Prop := tallyTurnedRow.holds Try.pinned (OpenSpec.ofChange tallyTurnedSpec)

/-- ITS FALSE NEIGHBOUR: 'it returns false'. Refute it at one input. -/
def tallyTurnedWrong : ChangeSpec := { name := "tallyTurned", fn := fun _ => fun
  | [d1, d2] => { results := [.lit (.bool false)], args := [d1, d2] }
  | _ => none }
def TallyTurnedWrongFalsely : Prop := tallyTurnedRow.holds Try.pinned (OpenSpec.ofChange tallyTurnedWrong)

/-- 'plumekeep.TallyNames': WHATEVER THE INPUT: true; the input reads as it did. -/
def tallyNamesSpec : ChangeSpec := { name := "tallyNames", fn := fun _ => fun
  | [d1, d2, d3] => { results := [.lit (.bool true)], args := [d1, d2, d3] }
  | _ => none }
def tallyNamesRow : OpenClaim := { program := "ytofonliapfdbmaa", sum := "0a818637656bbeb7ef0d8e2291b284e02c16242a7357e70121aae4f6926d7fc6", func := "feathermark/plumekeep.TallyNames", spec := "tallyNames", unfollowed := true, recurses := true, apart := false }
def TallyNamesSaid : Prop := tallyNamesRow.holds Try.pinned (OpenSpec.ofChange tallyNamesSpec)

/-- ITS FALSE NEIGHBOUR: 'it returns false'. Refute it at one input. -/
def tallyNamesWrong : ChangeSpec := { name := "tallyNames", fn := fun _ => fun
  | [d1, d2, d3] => { results := [.lit (.bool false)], args := [d1, d2, d3] }
  | _ => none }
def TallyNamesWrongFalsely : Prop := tallyNamesRow.holds Try.pinned (OpenSpec.ofChange tallyNamesWrong)

/-- 'plumekeep.WidestTop': WHATEVER THE INPUT: true; the input reads as it did. -/
def widestTopSpec : ChangeSpec := { name := "widestTop", fn := fun _ => fun
  | [d] => { results := [.lit (.bool true)], args := [d] }
  | _ => none }
def widestTopRow : OpenClaim := { program := "ytofonliapfdbmaa", sum := "0a818637656bbeb7ef0d8e2291b284e02c16242a7357e70121aae4f6926d7fc6", func := "feathermark/plumekeep.WidestTop", spec := "widestTop", unfollowed := true, recurses := true, apart := false }
def WidestTopSaid : Prop := widestTopRow.holds Try.pinned (OpenSpec.ofChange widestTopSpec)

/-- ITS FALSE NEIGHBOUR: 'it returns false'. Refute it at one input. -/
def widestTopWrong : ChangeSpec := { name := "widestTop", fn := fun _ => fun
  | [d] => { results := [.lit (.bool false)], args := [d] }
  | _ => none }
def WidestTopWrongFalsely : Prop := widestTopRow.holds Try.pinned (OpenSpec.ofChange widestTopWrong)

/- THE SECOND FORM. 'bulk': how many values and letters a reading holds, each counted each time it is reached (what is shared counts as often as it is met; a slice's spare places count too). A statement '..UptoSaid' is the law's where the arguments, and the package variables that the reading takes, are together of bulk at most 1048576: NARROWER than '..Said'. Prove '..Said' where nothing that the law and all that it calls make is longer than what came in: it says more and counts as full. Else prove '..UptoSaid'. A law counts once. -/
mutual
def uptoBulk {H : Type} : DataW H → Nat
  | .lit (.string bytes) => bytes.length + 1
  | .lit _ => 1
  | .nil => 1
  | .ptr d => uptoBulk d + 1
  | .slice elems spare => uptoBulkAll elems + uptoBulkAll spare + 1
  | .agg parts => uptoBulkAll parts + 1
  | .iface _ d => uptoBulk d + 1
  | .map entries => uptoBulkEntries entries + 1
  | .held _ => 1
def uptoBulkAll {H : Type} : List (DataW H) → Nat
  | [] => 0
  | d :: r => uptoBulk d + uptoBulkAll r
def uptoBulkEntries {H : Type} : List (Lit × DataW H) → Nat
  | [] => 0
  | x :: r => uptoBulkEntry x + uptoBulkEntries r
def uptoBulkEntry {H : Type} : Lit × DataW H → Nat
  | (.string bytes, d) => bytes.length + uptoBulk d + 1
  | (_, d) => uptoBulk d + 1
 end
def uptoSmall : (H : Type) → List (DataW H) → Bool := fun _ ds => decide (uptoBulkAll ds ≤ 1048576)
def OpenSpec.upto (s : _root_.Go.ChangeSpec) : _root_.Go.OpenSpec := { _root_.Go.OpenSpec.ofChange s with cond := some uptoSmall }

/-- 'plumekeep.WidestThird', WHERE WHAT IT READS IS OF BULK AT MOST 1048576: true; the input reads as it did. -/
def widestThirdUptoRow : OpenClaim := { program := "ytofonliapfdbmaa", sum := "0a818637656bbeb7ef0d8e2291b284e02c16242a7357e70121aae4f6926d7fc6", func := "feathermark/plumekeep.WidestThird", spec := "widestThird", unfollowed := true, recurses := true, apart := false, narrowed := true }
def WidestThirdUptoSaid : Prop := widestThirdUptoRow.holds Try.pinned (OpenSpec.upto widestThirdSpec)

/-- 'plumekeep.WidestOrder', WHERE WHAT IT READS IS OF BULK AT MOST 1048576: true; the input reads as it did. -/
def widestOrderUptoRow : OpenClaim := { program := "ytofonliapfdbmaa", sum := "0a818637656bbeb7ef0d8e2291b284e02c16242a7357e70121aae4f6926d7fc6", func := "feathermark/plumekeep.WidestOrder", spec := "widestOrder", unfollowed := true, recurses := true, apart := false, narrowed := true }
def WidestOrderUptoSaid : Prop := widestOrderUptoRow.holds Try.pinned (OpenSpec.upto widestOrderSpec)

/-- 'plumekeep.DuelMcGarvey', WHERE WHAT IT READS IS OF BULK AT MOST 1048576: true; the input reads as it did. -/
def duelMcGarveyUptoRow : OpenClaim := { program := "ytofonliapfdbmaa", sum := "0a818637656bbeb7ef0d8e2291b284e02c16242a7357e70121aae4f6926d7fc6", func := "feathermark/plumekeep.DuelMcGarvey", spec := "duelMcGarvey", unfollowed := true, recurses := true, apart := false, narrowed := true }
def DuelMcGarveyUptoSaid : Prop := duelMcGarveyUptoRow.holds Try.pinned (OpenSpec.upto duelMcGarveySpec)

/-- 'plumekeep.DuelTop', WHERE WHAT IT READS IS OF BULK AT MOST 1048576: true; the input reads as it did. -/
def duelTopUptoRow : OpenClaim := { program := "ytofonliapfdbmaa", sum := "0a818637656bbeb7ef0d8e2291b284e02c16242a7357e70121aae4f6926d7fc6", func := "feathermark/plumekeep.DuelTop", spec := "duelTop", unfollowed := true, recurses := true, apart := false, narrowed := true }
def DuelTopUptoSaid : Prop := duelTopUptoRow.holds Try.pinned (OpenSpec.upto duelTopSpec)

/-- 'plumekeep.DuelWorst', WHERE WHAT IT READS IS OF BULK AT MOST 1048576: true; the input reads as it did. -/
def duelWorstUptoRow : OpenClaim := { program := "ytofonliapfdbmaa", sum := "0a818637656bbeb7ef0d8e2291b284e02c16242a7357e70121aae4f6926d7fc6", func := "feathermark/plumekeep.DuelWorst", spec := "duelWorst", unfollowed := true, recurses := true, apart := false, narrowed := true }
def DuelWorstUptoSaid : Prop := duelWorstUptoRow.holds Try.pinned (OpenSpec.upto duelWorstSpec)

/-- 'plumekeep.TallyBeater', WHERE WHAT IT READS IS OF BULK AT MOST 1048576: true; the input reads as it did. -/
def tallyBeaterUptoRow : OpenClaim := { program := "ytofonliapfdbmaa", sum := "0a818637656bbeb7ef0d8e2291b284e02c16242a7357e70121aae4f6926d7fc6", func := "feathermark/plumekeep.TallyBeater", spec := "tallyBeater", unfollowed := true, recurses := true, apart := false, narrowed := true }
def TallyBeaterUptoSaid : Prop := tallyBeaterUptoRow.holds Try.pinned (OpenSpec.upto tallyBeaterSpec)

/-- 'plumekeep.DuelWins', WHERE WHAT IT READS IS OF BULK AT MOST 1048576: true; the input reads as it did. -/
def duelWinsUptoRow : OpenClaim := { program := "ytofonliapfdbmaa", sum := "0a818637656bbeb7ef0d8e2291b284e02c16242a7357e70121aae4f6926d7fc6", func := "feathermark/plumekeep.DuelWins", spec := "duelWins", unfollowed := true, recurses := true, apart := false, narrowed := true }
def DuelWinsUptoSaid : Prop := duelWinsUptoRow.holds Try.pinned (OpenSpec.upto duelWinsSpec)

/-- 'plumekeep.TallySums', WHERE WHAT IT READS IS OF BULK AT MOST 1048576: true; the input reads as it did. -/
def tallySumsUptoRow : OpenClaim := { program := "ytofonliapfdbmaa", sum := "0a818637656bbeb7ef0d8e2291b284e02c16242a7357e70121aae4f6926d7fc6", func := "feathermark/plumekeep.TallySums", spec := "tallySums", unfollowed := true, recurses := true, apart := false, narrowed := true }
def TallySumsUptoSaid : Prop := tallySumsUptoRow.holds Try.pinned (OpenSpec.upto tallySumsSpec)

/-- 'plumekeep.TallyTurned', WHERE WHAT IT READS IS OF BULK AT MOST 1048576: true; the input reads as it did. -/
def tallyTurnedUptoRow : OpenClaim := { program := "ytofonliapfdbmaa", sum := "0a818637656bbeb7ef0d8e2291b284e02c16242a7357e70121aae4f6926d7fc6", func := "feathermark/plumekeep.TallyTurned", spec := "tallyTurned", unfollowed := true, recurses := true, apart := false, narrowed := true }
def TallyTurnedUptoSaid : Prop := tallyTurnedUptoRow.holds Try.pinned (OpenSpec.upto tallyTurnedSpec)

/-- 'plumekeep.TallyNames', WHERE WHAT IT READS IS OF BULK AT MOST 1048576: true; the input reads as it did. -/
def tallyNamesUptoRow : OpenClaim := { program := "ytofonliapfdbmaa", sum := "0a818637656bbeb7ef0d8e2291b284e02c16242a7357e70121aae4f6926d7fc6", func := "feathermark/plumekeep.TallyNames", spec := "tallyNames", unfollowed := true, recurses := true, apart := false, narrowed := true }
def TallyNamesUptoSaid : Prop := tallyNamesUptoRow.holds Try.pinned (OpenSpec.upto tallyNamesSpec)

/-- 'plumekeep.WidestTop', WHERE WHAT IT READS IS OF BULK AT MOST 1048576: true; the input reads as it did. -/
def widestTopUptoRow : OpenClaim := { program := "ytofonliapfdbmaa", sum := "0a818637656bbeb7ef0d8e2291b284e02c16242a7357e70121aae4f6926d7fc6", func := "feathermark/plumekeep.WidestTop", spec := "widestTop", unfollowed := true, recurses := true, apart := false, narrowed := true }
def WidestTopUptoSaid : Prop := widestTopUptoRow.holds Try.pinned (OpenSpec.upto widestTopSpec)

end Rows
end Go.Proofs.Ytofonliapfdbmaa
