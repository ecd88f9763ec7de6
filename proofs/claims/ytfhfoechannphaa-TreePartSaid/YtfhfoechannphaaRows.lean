/-
  No cell of these rows narrows 'for every input' (looked for: loops, veiled, ifaces, maps, wideKeys, modest, calm, conditions, laid).
  DERIVED. THE GIVEN ROWS OF THIS SEAT. 5 by the template 'for every input the law returns true; each argument reads behind the call as it read before'; 0 by the template 'total and deterministic' (their statements: YtfhfoechannphaaTotals.lean).
  GIVEN WITH THE SEED: the statements are not yours to turn. If you find one false, say at which input.
  Laid BY PROGRAM, IN A SANDBOX (cutbox-rows.mjs): the forced cells as the released guide's own fill.sh prints them over the translation fb0bf05b487c03bf… (all of the seat's roots in one cut). By AI agents, Wed Nov 11 2026. No macro, syntax, notation, axiom, sorry.
-/
import Derived.Test.YtfhfoechannphaaChecked
import GoSem.Claim
import GoSem.ClaimJoined
import GoSem.ClaimMapViews
import Derived.JoinedTies
import Derived.KernelRfl
namespace Go.Proofs.Ytfhfoechannphaa
/- THE CELL 'sum', in the pinned program and in every row, IS THE sha256 OF THE DUMP (.gsa) THAT YtfhfoechannphaaProg.lean LOADS. Nothing in Lean hashes anything: it is a label: what it is worth is what the hold of that sum in a sandbox is worth. -/
noncomputable def Try.pinned : Pinned := { name := "ytfhfoechannphaa", sum := "fb0bf05b487c03bfff3728033133e4f946ecce16f7d8037435c979391bd5ca69", checked := Try.checked }
namespace Rows
def none {H : Type} : Left H := { results := [], args := [] }

/-- 'plumekeep.KnapApart': WHATEVER THE INPUT: true; the input reads as it did. -/
def knapApartSpec : ChangeSpec := { name := "knapApart", fn := fun _ => fun
  | [d1, d2, d3] => { results := [.lit (.bool true)], args := [d1, d2, d3] }
  | _ => none }
def knapApartRow : OpenClaim := { program := "ytfhfoechannphaa", sum := "fb0bf05b487c03bfff3728033133e4f946ecce16f7d8037435c979391bd5ca69", func := "feathermark/plumekeep.KnapApart", spec := "knapApart", unfollowed := true, recurses := true, apart := false }
def KnapApartSaid : Prop := knapApartRow.holds Try.pinned (OpenSpec.ofChange knapApartSpec)

/-- ITS FALSE NEIGHBOUR: 'it returns false'. Refute it at one input. -/
def knapApartWrong : ChangeSpec := { name := "knapApart", fn := fun _ => fun
  | [d1, d2, d3] => { results := [.lit (.bool false)], args := [d1, d2, d3] }
  | _ => none }
def KnapApartWrongFalsely : Prop := knapApartRow.holds Try.pinned (OpenSpec.ofChange knapApartWrong)

/-- 'plumekeep.TreePart': WHATEVER THE INPUT: true; the input reads as it did. -/
def treePartSpec : ChangeSpec := { name := "treePart", fn := fun _ => fun
  | [d1, d2, d3] => { results := [.lit (.bool true)], args := [d1, d2, d3] }
  | _ => none }
def treePartRow : OpenClaim := { program := "ytfhfoechannphaa", sum := "fb0bf05b487c03bfff3728033133e4f946ecce16f7d8037435c979391bd5ca69", func := "feathermark/plumekeep.TreePart", spec := "treePart", unfollowed := true, recurses := true, apart := false }
def TreePartSaid : Prop := treePartRow.holds Try.pinned (OpenSpec.ofChange treePartSpec)

/-- ITS FALSE NEIGHBOUR: 'it returns false'. Refute it at one input. -/
def treePartWrong : ChangeSpec := { name := "treePart", fn := fun _ => fun
  | [d1, d2, d3] => { results := [.lit (.bool false)], args := [d1, d2, d3] }
  | _ => none }
def TreePartWrongFalsely : Prop := treePartRow.holds Try.pinned (OpenSpec.ofChange treePartWrong)

/-- 'plumekeep.DuelMcGarvey': WHATEVER THE INPUT: true; the input reads as it did. -/
def duelMcGarveySpec : ChangeSpec := { name := "duelMcGarvey", fn := fun _ => fun
  | [d1, d2] => { results := [.lit (.bool true)], args := [d1, d2] }
  | _ => none }
def duelMcGarveyRow : OpenClaim := { program := "ytfhfoechannphaa", sum := "fb0bf05b487c03bfff3728033133e4f946ecce16f7d8037435c979391bd5ca69", func := "feathermark/plumekeep.DuelMcGarvey", spec := "duelMcGarvey", unfollowed := true, recurses := true, apart := false }
def DuelMcGarveySaid : Prop := duelMcGarveyRow.holds Try.pinned (OpenSpec.ofChange duelMcGarveySpec)

/-- ITS FALSE NEIGHBOUR: 'it returns false'. Refute it at one input. -/
def duelMcGarveyWrong : ChangeSpec := { name := "duelMcGarvey", fn := fun _ => fun
  | [d1, d2] => { results := [.lit (.bool false)], args := [d1, d2] }
  | _ => none }
def DuelMcGarveyWrongFalsely : Prop := duelMcGarveyRow.holds Try.pinned (OpenSpec.ofChange duelMcGarveyWrong)

/-- 'plumekeep.PeakOrder': WHATEVER THE INPUT: true; the input reads as it did. -/
def peakOrderSpec : ChangeSpec := { name := "peakOrder", fn := fun _ => fun
  | [d1, d2, d3] => { results := [.lit (.bool true)], args := [d1, d2, d3] }
  | _ => none }
def peakOrderRow : OpenClaim := { program := "ytfhfoechannphaa", sum := "fb0bf05b487c03bfff3728033133e4f946ecce16f7d8037435c979391bd5ca69", func := "feathermark/plumekeep.PeakOrder", spec := "peakOrder", unfollowed := true, recurses := true, apart := false }
def PeakOrderSaid : Prop := peakOrderRow.holds Try.pinned (OpenSpec.ofChange peakOrderSpec)

/-- ITS FALSE NEIGHBOUR: 'it returns false'. Refute it at one input. -/
def peakOrderWrong : ChangeSpec := { name := "peakOrder", fn := fun _ => fun
  | [d1, d2, d3] => { results := [.lit (.bool false)], args := [d1, d2, d3] }
  | _ => none }
def PeakOrderWrongFalsely : Prop := peakOrderRow.holds Try.pinned (OpenSpec.ofChange peakOrderWrong)

/-- 'plumekeep.PeakBlack': WHATEVER THE INPUT: true; the input reads as it did. -/
def peakBlackSpec : ChangeSpec := { name := "peakBlack", fn := fun _ => fun
  | [d1, d2, d3] => { results := [.lit (.bool true)], args := [d1, d2, d3] }
  | _ => none }
def peakBlackRow : OpenClaim := { program := "ytfhfoechannphaa", sum := "fb0bf05b487c03bfff3728033133e4f946ecce16f7d8037435c979391bd5ca69", func := "feathermark/plumekeep.PeakBlack", spec := "peakBlack", unfollowed := true, recurses := true, apart := false }
def PeakBlackSaid : Prop := peakBlackRow.holds Try.pinned (OpenSpec.ofChange peakBlackSpec)

/-- ITS FALSE NEIGHBOUR: 'it returns false'. Refute it at one input. -/
def peakBlackWrong : ChangeSpec := { name := "peakBlack", fn := fun _ => fun
  | [d1, d2, d3] => { results := [.lit (.bool false)], args := [d1, d2, d3] }
  | _ => none }
def PeakBlackWrongFalsely : Prop := peakBlackRow.holds Try.pinned (OpenSpec.ofChange peakBlackWrong)

/- THE SECOND FORM. 'bulk': how many values and letters a reading holds, each counted each time it is reached (what is shared counts as often as it is met; a slice's spare places count too). A statement '..UptoSaid' is the law's where the arguments, and the package variables that the reading takes, are together of bulk at most 1048576: NARROWER than '..Said'. Prove '..Said' where nothing that the law and all that it calls make is longer than what came in: it says more and counts as full. Else prove '..UptoSaid'. A law counts once. -/
mutual
def uptoBulk {H : Type} : DataW H → Nat
  | .lit (.string bytes) => bytes.length + 1
  | .lit _ => 1
  | .nil => 1
  | .ptr d => uptoBulk d + 1
  | .slice elems spare => uptoBulkAll elems + uptoBulkAll spare + 1
  | .agg parts => uptoBulkAll parts + 1
  | .iface _ d => uptoBulk d + 1
  | .map entries => uptoBulkEntries entries + 1
  | .held _ => 1
def uptoBulkAll {H : Type} : List (DataW H) → Nat
  | [] => 0
  | d :: r => uptoBulk d + uptoBulkAll r
def uptoBulkEntries {H : Type} : List (Lit × DataW H) → Nat
  | [] => 0
  | x :: r => uptoBulkEntry x + uptoBulkEntries r
def uptoBulkEntry {H : Type} : Lit × DataW H → Nat
  | (.string bytes, d) => bytes.length + uptoBulk d + 1
  | (_, d) => uptoBulk d + 1
 end
def uptoSmall : (H : Type) → List (DataW H) → Bool := fun _ ds => decide (uptoBulkAll ds ≤ 1048576)
def OpenSpec.upto (s : _root_.Go.ChangeSpec) : _root_.Go.OpenSpec := { _root_.Go.OpenSpec.ofChange s with cond := some uptoSmall }

/-- 'plumekeep.KnapApart', WHERE WHAT IT READS IS OF BULK AT MOST 1048576: true; the input reads as it did. -/
def knapApartUptoRow : OpenClaim := { program := "ytfhfoechannphaa", sum := "fb0bf05b487c03bfff3728033133e4f946ecce16f7d8037435c979391bd5ca69", func := "feathermark/plumekeep.KnapApart", spec := "knapApart", unfollowed := true, recurses := true, apart := false, narrowed := true }
def KnapApartUptoSaid : Prop := knapApartUptoRow.holds Try.pinned (OpenSpec.upto knapApartSpec)

/-- 'plumekeep.TreePart', WHERE WHAT IT READS IS OF BULK AT MOST 1048576: true; the input reads as it did. -/
def treePartUptoRow : OpenClaim := { program := "ytfhfoechannphaa", sum := "fb0bf05b487c03bfff3728033133e4f946ecce16f7d8037435c979391bd5ca69", func := "feathermark/plumekeep.TreePart", spec := "treePart", unfollowed := true, recurses := true, apart := false, narrowed := true }
def TreePartUptoSaid : Prop := treePartUptoRow.holds Try.pinned (OpenSpec.upto treePartSpec)

/-- 'plumekeep.DuelMcGarvey', WHERE WHAT IT READS IS OF BULK AT MOST 1048576: true; the input reads as it did. -/
def duelMcGarveyUptoRow : OpenClaim := { program := "ytfhfoechannphaa", sum := "fb0bf05b487c03bfff3728033133e4f946ecce16f7d8037435c979391bd5ca69", func := "feathermark/plumekeep.DuelMcGarvey", spec := "duelMcGarvey", unfollowed := true, recurses := true, apart := false, narrowed := true }
def DuelMcGarveyUptoSaid : Prop := duelMcGarveyUptoRow.holds Try.pinned (OpenSpec.upto duelMcGarveySpec)

/-- 'plumekeep.PeakOrder', WHERE WHAT IT READS IS OF BULK AT MOST 1048576: true; the input reads as it did. -/
def peakOrderUptoRow : OpenClaim := { program := "ytfhfoechannphaa", sum := "fb0bf05b487c03bfff3728033133e4f946ecce16f7d8037435c979391bd5ca69", func := "feathermark/plumekeep.PeakOrder", spec := "peakOrder", unfollowed := true, recurses := true, apart := false, narrowed := true }
def PeakOrderUptoSaid : Prop := peakOrderUptoRow.holds Try.pinned (OpenSpec.upto peakOrderSpec)

/-- 'plumekeep.PeakBlack', WHERE WHAT IT READS IS OF BULK AT MOST 1048576: true; the input reads as it did. -/
def peakBlackUptoRow : OpenClaim := { program := "ytfhfoechannphaa", sum := "fb0bf05b487c03bfff3728033133e4f946ecce16f7d8037435c979391bd5ca69", func := "feathermark/plumekeep.PeakBlack", spec := "peakBlack", unfollowed := true, recurses := true, apart := false, narrowed := true }
def PeakBlackUptoSaid : Prop := peakBlackUptoRow.holds Try.pinned (OpenSpec.upto peakBlackSpec)

end Rows
end Go.Proofs.Ytfhfoechannphaa
