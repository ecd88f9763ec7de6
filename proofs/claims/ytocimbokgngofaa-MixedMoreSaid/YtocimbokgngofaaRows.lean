/-
  No cell of these rows narrows 'for every input' (looked for: loops, veiled, ifaces, maps, wideKeys, modest, calm, conditions, laid).
  DERIVED. THE GIVEN ROWS OF THIS SEAT. 11 by the template 'for every input the law returns true; each argument reads behind the call as it read before'; 0 by the template 'total and deterministic' (their statements: YtocimbokgngofaaTotals.lean).
  GIVEN WITH THE SEED: the statements are not yours to turn. If you find one false, say at which input.
  Laid BY PROGRAM, IN A SANDBOX (cutbox-rows.mjs): the forced cells as the released guide's own fill.sh prints them over the translation 21c4ca356e9a4007… (all of the seat's roots in one cut). By AI agents, Wed Nov 11 2026. No macro, syntax, notation, axiom, sorry.
-/
import Derived.Test.YtocimbokgngofaaChecked
import GoSem.Claim
import GoSem.ClaimJoined
import GoSem.ClaimMapViews
import Derived.JoinedTies
import Derived.KernelRfl
namespace Go.Proofs.Ytocimbokgngofaa
/- THE CELL 'sum', in the pinned program and in every row, IS THE sha256 OF THE DUMP (.gsa) THAT YtocimbokgngofaaProg.lean LOADS. Nothing in Lean hashes anything: it is a label: what it is worth is what the hold of that sum in a sandbox is worth. -/
noncomputable def Try.pinned : Pinned := { name := "ytocimbokgngofaa", sum := "21c4ca356e9a40070c88d1dcafcb991b787b774eb7887cb2a910b0f7b2114860", checked := Try.checked }
namespace Rows
def none {H : Type} : Left H := { results := [], args := [] }

/-- 'plumekeep.MixedBest': WHATEVER THE INPUT: true; the input reads as it did. -/
def mixedBestSpec : ChangeSpec := { name := "mixedBest", fn := fun _ => fun
  | [d1, d2, d3] => { results := [.lit (.bool true)], args := [d1, d2, d3] }
  | _ => none }
def mixedBestRow : OpenClaim := { program := "ytocimbokgngofaa", sum := "21c4ca356e9a40070c88d1dcafcb991b787b774eb7887cb2a910b0f7b2114860", func := "feathermark/plumekeep.MixedBest", spec := "mixedBest", unfollowed := true, recurses := true, apart := false }
def MixedBestSaid : Prop := mixedBestRow.holds Try.pinned (OpenSpec.ofChange mixedBestSpec)

/-- ITS FALSE NEIGHBOUR: 'it returns false'. Refute it at one input. -/
def mixedBestWrong : ChangeSpec := { name := "mixedBest", fn := fun _ => fun
  | [d1, d2, d3] => { results := [.lit (.bool false)], args := [d1, d2, d3] }
  | _ => none }
def MixedBestWrongFalsely : Prop := mixedBestRow.holds Try.pinned (OpenSpec.ofChange mixedBestWrong)

/-- 'plumekeep.MixedOther': WHATEVER THE INPUT: true; the input reads as it did. -/
def mixedOtherSpec : ChangeSpec := { name := "mixedOther", fn := fun _ => fun
  | [d] => { results := [.lit (.bool true)], args := [d] }
  | _ => none }
def mixedOtherRow : OpenClaim := { program := "ytocimbokgngofaa", sum := "21c4ca356e9a40070c88d1dcafcb991b787b774eb7887cb2a910b0f7b2114860", func := "feathermark/plumekeep.MixedOther", spec := "mixedOther", unfollowed := true, recurses := true, apart := false }
def MixedOtherSaid : Prop := mixedOtherRow.holds Try.pinned (OpenSpec.ofChange mixedOtherSpec)

/-- ITS FALSE NEIGHBOUR: 'it returns false'. Refute it at one input. -/
def mixedOtherWrong : ChangeSpec := { name := "mixedOther", fn := fun _ => fun
  | [d] => { results := [.lit (.bool false)], args := [d] }
  | _ => none }
def MixedOtherWrongFalsely : Prop := mixedOtherRow.holds Try.pinned (OpenSpec.ofChange mixedOtherWrong)

/-- 'plumekeep.SaddleBounds': WHATEVER THE INPUT: true; the input reads as it did. -/
def saddleBoundsSpec : ChangeSpec := { name := "saddleBounds", fn := fun _ => fun
  | [d] => { results := [.lit (.bool true)], args := [d] }
  | _ => none }
def saddleBoundsRow : OpenClaim := { program := "ytocimbokgngofaa", sum := "21c4ca356e9a40070c88d1dcafcb991b787b774eb7887cb2a910b0f7b2114860", func := "feathermark/plumekeep.SaddleBounds", spec := "saddleBounds", unfollowed := true, recurses := true, apart := false }
def SaddleBoundsSaid : Prop := saddleBoundsRow.holds Try.pinned (OpenSpec.ofChange saddleBoundsSpec)

/-- ITS FALSE NEIGHBOUR: 'it returns false'. Refute it at one input. -/
def saddleBoundsWrong : ChangeSpec := { name := "saddleBounds", fn := fun _ => fun
  | [d] => { results := [.lit (.bool false)], args := [d] }
  | _ => none }
def SaddleBoundsWrongFalsely : Prop := saddleBoundsRow.holds Try.pinned (OpenSpec.ofChange saddleBoundsWrong)

/-- 'plumekeep.SaddleSwap': WHATEVER THE INPUT: true; the input reads as it did. -/
def saddleSwapSpec : ChangeSpec := { name := "saddleSwap", fn := fun _ => fun
  | [d1, d2, d3] => { results := [.lit (.bool true)], args := [d1, d2, d3] }
  | _ => none }
def saddleSwapRow : OpenClaim := { program := "ytocimbokgngofaa", sum := "21c4ca356e9a40070c88d1dcafcb991b787b774eb7887cb2a910b0f7b2114860", func := "feathermark/plumekeep.SaddleSwap", spec := "saddleSwap", unfollowed := true, recurses := true, apart := false }
def SaddleSwapSaid : Prop := saddleSwapRow.holds Try.pinned (OpenSpec.ofChange saddleSwapSpec)

/-- ITS FALSE NEIGHBOUR: 'it returns false'. Refute it at one input. -/
def saddleSwapWrong : ChangeSpec := { name := "saddleSwap", fn := fun _ => fun
  | [d1, d2, d3] => { results := [.lit (.bool false)], args := [d1, d2, d3] }
  | _ => none }
def SaddleSwapWrongFalsely : Prop := saddleSwapRow.holds Try.pinned (OpenSpec.ofChange saddleSwapWrong)

/-- 'plumekeep.MixedMore': WHATEVER THE INPUT: true; the input reads as it did. -/
def mixedMoreSpec : ChangeSpec := { name := "mixedMore", fn := fun _ => fun
  | [d1, d2, d3] => { results := [.lit (.bool true)], args := [d1, d2, d3] }
  | _ => none }
def mixedMoreRow : OpenClaim := { program := "ytocimbokgngofaa", sum := "21c4ca356e9a40070c88d1dcafcb991b787b774eb7887cb2a910b0f7b2114860", func := "feathermark/plumekeep.MixedMore", spec := "mixedMore", unfollowed := true, recurses := true, apart := false }
def MixedMoreSaid : Prop := mixedMoreRow.holds Try.pinned (OpenSpec.ofChange mixedMoreSpec)

/-- ITS FALSE NEIGHBOUR: 'it returns false'. Refute it at one input. -/
def mixedMoreWrong : ChangeSpec := { name := "mixedMore", fn := fun _ => fun
  | [d1, d2, d3] => { results := [.lit (.bool false)], args := [d1, d2, d3] }
  | _ => none }
def MixedMoreWrongFalsely : Prop := mixedMoreRow.holds Try.pinned (OpenSpec.ofChange mixedMoreWrong)

/-- 'plumekeep.SaddleTurned': WHATEVER THE INPUT: true; the input reads as it did. -/
def saddleTurnedSpec : ChangeSpec := { name := "saddleTurned", fn := fun _ => fun
  | [d] => { results := [.lit (.bool true)], args := [d] }
  | _ => none }
def saddleTurnedRow : OpenClaim := { program := "ytocimbokgngofaa", sum := "21c4ca356e9a40070c88d1dcafcb991b787b774eb7887cb2a910b0f7b2114860", func := "feathermark/plumekeep.SaddleTurned", spec := "saddleTurned", unfollowed := true, recurses := true, apart := false }
def SaddleTurnedSaid : Prop := saddleTurnedRow.holds Try.pinned (OpenSpec.ofChange saddleTurnedSpec)

/-- ITS FALSE NEIGHBOUR: 'it returns false'. Refute it at one input. -/
def saddleTurnedWrong : ChangeSpec := { name := "saddleTurned", fn := fun _ => fun
  | [d] => { results := [.lit (.bool false)], args := [d] }
  | _ => none }
def SaddleTurnedWrongFalsely : Prop := saddleTurnedRow.holds Try.pinned (OpenSpec.ofChange saddleTurnedWrong)

/-- 'plumekeep.EquilLeft': WHATEVER THE INPUT: true; the input reads as it did. -/
def equilLeftSpec : ChangeSpec := { name := "equilLeft", fn := fun _ => fun
  | [d1, d2] => { results := [.lit (.bool true)], args := [d1, d2] }
  | _ => none }
def equilLeftRow : OpenClaim := { program := "ytocimbokgngofaa", sum := "21c4ca356e9a40070c88d1dcafcb991b787b774eb7887cb2a910b0f7b2114860", func := "feathermark/plumekeep.EquilLeft", spec := "equilLeft", unfollowed := true, recurses := true, apart := false }
def EquilLeftSaid : Prop := equilLeftRow.holds Try.pinned (OpenSpec.ofChange equilLeftSpec)

/-- ITS FALSE NEIGHBOUR: 'it returns false'. Refute it at one input. -/
def equilLeftWrong : ChangeSpec := { name := "equilLeft", fn := fun _ => fun
  | [d1, d2] => { results := [.lit (.bool false)], args := [d1, d2] }
  | _ => none }
def EquilLeftWrongFalsely : Prop := equilLeftRow.holds Try.pinned (OpenSpec.ofChange equilLeftWrong)

/-- 'plumekeep.MixedBounds': WHATEVER THE INPUT: true; the input reads as it did. -/
def mixedBoundsSpec : ChangeSpec := { name := "mixedBounds", fn := fun _ => fun
  | [d] => { results := [.lit (.bool true)], args := [d] }
  | _ => none }
def mixedBoundsRow : OpenClaim := { program := "ytocimbokgngofaa", sum := "21c4ca356e9a40070c88d1dcafcb991b787b774eb7887cb2a910b0f7b2114860", func := "feathermark/plumekeep.MixedBounds", spec := "mixedBounds", unfollowed := true, recurses := true, apart := false }
def MixedBoundsSaid : Prop := mixedBoundsRow.holds Try.pinned (OpenSpec.ofChange mixedBoundsSpec)

/-- ITS FALSE NEIGHBOUR: 'it returns false'. Refute it at one input. -/
def mixedBoundsWrong : ChangeSpec := { name := "mixedBounds", fn := fun _ => fun
  | [d] => { results := [.lit (.bool false)], args := [d] }
  | _ => none }
def MixedBoundsWrongFalsely : Prop := mixedBoundsRow.holds Try.pinned (OpenSpec.ofChange mixedBoundsWrong)

/-- 'plumekeep.EquilRest': WHATEVER THE INPUT: true; the input reads as it did. -/
def equilRestSpec : ChangeSpec := { name := "equilRest", fn := fun _ => fun
  | [d1, d2] => { results := [.lit (.bool true)], args := [d1, d2] }
  | _ => none }
def equilRestRow : OpenClaim := { program := "ytocimbokgngofaa", sum := "21c4ca356e9a40070c88d1dcafcb991b787b774eb7887cb2a910b0f7b2114860", func := "feathermark/plumekeep.EquilRest", spec := "equilRest", unfollowed := true, recurses := true, apart := false }
def EquilRestSaid : Prop := equilRestRow.holds Try.pinned (OpenSpec.ofChange equilRestSpec)

/-- ITS FALSE NEIGHBOUR: 'it returns false'. Refute it at one input. -/
def equilRestWrong : ChangeSpec := { name := "equilRest", fn := fun _ => fun
  | [d1, d2] => { results := [.lit (.bool false)], args := [d1, d2] }
  | _ => none }
def EquilRestWrongFalsely : Prop := equilRestRow.holds Try.pinned (OpenSpec.ofChange equilRestWrong)

/-- 'plumekeep.EquilTeam': WHATEVER THE INPUT: true; the input reads as it did. -/
def equilTeamSpec : ChangeSpec := { name := "equilTeam", fn := fun _ => fun
  | [d] => { results := [.lit (.bool true)], args := [d] }
  | _ => none }
def equilTeamRow : OpenClaim := { program := "ytocimbokgngofaa", sum := "21c4ca356e9a40070c88d1dcafcb991b787b774eb7887cb2a910b0f7b2114860", func := "feathermark/plumekeep.EquilTeam", spec := "equilTeam", unfollowed := true, recurses := true, apart := false }
def EquilTeamSaid : Prop := equilTeamRow.holds Try.pinned (OpenSpec.ofChange equilTeamSpec)

/-- ITS FALSE NEIGHBOUR: 'it returns false'. Refute it at one input. -/
def equilTeamWrong : ChangeSpec := { name := "equilTeam", fn := fun _ => fun
  | [d] => { results := [.lit (.bool false)], args := [d] }
  | _ => none }
def EquilTeamWrongFalsely : Prop := equilTeamRow.holds Try.pinned (OpenSpec.ofChange equilTeamWrong)

/-- 'plumekeep.EquilZero': WHATEVER THE INPUT: true; the input reads as it did. -/
def equilZeroSpec : ChangeSpec := { name := "equilZero", fn := fun _ => fun
  | [d] => { results := [.lit (.bool true)], args := [d] }
  | _ => none }
def equilZeroRow : OpenClaim := { program := "ytocimbokgngofaa", sum := "21c4ca356e9a40070c88d1dcafcb991b787b774eb7887cb2a910b0f7b2114860", func := "feathermark/plumekeep.EquilZero", spec := "equilZero", unfollowed := true, recurses := true, apart := false }
def EquilZeroSaid : Prop := equilZeroRow.holds Try.pinned (OpenSpec.ofChange equilZeroSpec)

/-- ITS FALSE NEIGHBOUR: 'it returns false'. Refute it at one input. -/
def equilZeroWrong : ChangeSpec := { name := "equilZero", fn := fun _ => fun
  | [d] => { results := [.lit (.bool false)], args := [d] }
  | _ => none }
def EquilZeroWrongFalsely : Prop := equilZeroRow.holds Try.pinned (OpenSpec.ofChange equilZeroWrong)

/- THE SECOND FORM. 'bulk': how many values and letters a reading holds, each counted each time it is reached (what is shared counts as often as it is met; a slice's spare places count too). A statement '..UptoSaid' is the law's where the arguments, and the package variables that the reading takes, are together of bulk at most 1048576: NARROWER than '..Said'. Prove '..Said' where nothing that the law and all that it calls make is longer than what came in: it says more and counts as full. Else prove '..UptoSaid'. A law counts once. -/
mutual
def uptoBulk {H : Type} : DataW H → Nat
  | .lit (.string bytes) => bytes.length + 1
  | .lit _ => 1
  | .nil => 1
  | .ptr d => uptoBulk d + 1
  | .slice elems spare => uptoBulkAll elems + uptoBulkAll spare + 1
  | .agg parts => uptoBulkAll parts + 1
  | .iface _ d => uptoBulk d + 1
  | .map entries => uptoBulkEntries entries + 1
  | .held _ => 1
def uptoBulkAll {H : Type} : List (DataW H) → Nat
  | [] => 0
  | d :: r => uptoBulk d + uptoBulkAll r
def uptoBulkEntries {H : Type} : List (Lit × DataW H) → Nat
  | [] => 0
  | x :: r => uptoBulkEntry x + uptoBulkEntries r
def uptoBulkEntry {H : Type} : Lit × DataW H → Nat
  | (.string bytes, d) => bytes.length + uptoBulk d + 1
  | (_, d) => uptoBulk d + 1
 end
def uptoSmall : (H : Type) → List (DataW H) → Bool := fun _ ds => decide (uptoBulkAll ds ≤ 1048576)
def OpenSpec.upto (s : _root_.Go.ChangeSpec) : _root_.Go.OpenSpec := { _root_.Go.OpenSpec.ofChange s with cond := some uptoSmall }

/-- 'plumekeep.MixedBest', WHERE WHAT IT READS IS OF BULK AT MOST 1048576: true; the input reads as it did. -/
def mixedBestUptoRow : OpenClaim := { program := "ytocimbokgngofaa", sum := "21c4ca356e9a40070c88d1dcafcb991b787b774eb7887cb2a910b0f7b2114860", func := "feathermark/plumekeep.MixedBest", spec := "mixedBest", unfollowed := true, recurses := true, apart := false, narrowed := true }
def MixedBestUptoSaid : Prop := mixedBestUptoRow.holds Try.pinned (OpenSpec.upto mixedBestSpec)

/-- 'plumekeep.MixedOther', WHERE WHAT IT READS IS OF BULK AT MOST 1048576: true; the input reads as it did. -/
def mixedOtherUptoRow : OpenClaim := { program := "ytocimbokgngofaa", sum := "21c4ca356e9a40070c88d1dcafcb991b787b774eb7887cb2a910b0f7b2114860", func := "feathermark/plumekeep.MixedOther", spec := "mixedOther", unfollowed := true, recurses := true, apart := false, narrowed := true }
def MixedOtherUptoSaid : Prop := mixedOtherUptoRow.holds Try.pinned (OpenSpec.upto mixedOtherSpec)

/-- 'plumekeep.SaddleBounds', WHERE WHAT IT READS IS OF BULK AT MOST 1048576: true; the input reads as it did. -/
def saddleBoundsUptoRow : OpenClaim := { program := "ytocimbokgngofaa", sum := "21c4ca356e9a40070c88d1dcafcb991b787b774eb7887cb2a910b0f7b2114860", func := "feathermark/plumekeep.SaddleBounds", spec := "saddleBounds", unfollowed := true, recurses := true, apart := false, narrowed := true }
def SaddleBoundsUptoSaid : Prop := saddleBoundsUptoRow.holds Try.pinned (OpenSpec.upto saddleBoundsSpec)

/-- 'plumekeep.SaddleSwap', WHERE WHAT IT READS IS OF BULK AT MOST 1048576: true; the input reads as it did. -/
def saddleSwapUptoRow : OpenClaim := { program := "ytocimbokgngofaa", sum := "21c4ca356e9a40070c88d1dcafcb991b787b774eb7887cb2a910b0f7b2114860", func := "feathermark/plumekeep.SaddleSwap", spec := "saddleSwap", unfollowed := true, recurses := true, apart := false, narrowed := true }
def SaddleSwapUptoSaid : Prop := saddleSwapUptoRow.holds Try.pinned (OpenSpec.upto saddleSwapSpec)

/-- 'plumekeep.MixedMore', WHERE WHAT IT READS IS OF BULK AT MOST 1048576: true; the input reads as it did. -/
def mixedMoreUptoRow : OpenClaim := { program := "ytocimbokgngofaa", sum := "21c4ca356e9a40070c88d1dcafcb991b787b774eb7887cb2a910b0f7b2114860", func := "feathermark/plumekeep.MixedMore", spec := "mixedMore", unfollowed := true, recurses := true, apart := false, narrowed := true }
def MixedMoreUptoSaid : Prop := mixedMoreUptoRow.holds Try.pinned (OpenSpec.upto mixedMoreSpec)

/-- 'plumekeep.SaddleTurned', WHERE WHAT IT READS IS OF BULK AT MOST 1048576: true; the input reads as it did. -/
def saddleTurnedUptoRow : OpenClaim := { program := "ytocimbokgngofaa", sum := "21c4ca356e9a40070c88d1dcafcb991b787b774eb7887cb2a910b0f7b2114860", func := "feathermark/plumekeep.SaddleTurned", spec := "saddleTurned", unfollowed := true, recurses := true, apart := false, narrowed := true }
def SaddleTurnedUptoSaid : Prop := saddleTurnedUptoRow.holds Try.pinned (OpenSpec.upto saddleTurnedSpec)

/-- 'plumekeep.EquilLeft', WHERE WHAT IT READS IS OF BULK AT MOST 1048576: true; the input reads as it did. -/
def equilLeftUptoRow : OpenClaim := { program := "ytocimbokgngofaa", sum := "21c4ca356e9a40070c88d1dcafcb991b787b774eb7887cb2a910b0f7b2114860", func := "feathermark/plumekeep.EquilLeft", spec := "equilLeft", unfollowed := true, recurses := true, apart := false, narrowed := true }
def EquilLeftUptoSaid : Prop := equilLeftUptoRow.holds Try.pinned (OpenSpec.upto equilLeftSpec)

/-- 'plumekeep.MixedBounds', WHERE WHAT IT READS IS OF BULK AT MOST 1048576: true; the input reads as it did. -/
def mixedBoundsUptoRow : OpenClaim := { program := "ytocimbokgngofaa", sum := "21c4ca356e9a40070c88d1dcafcb991b787b774eb7887cb2a910b0f7b2114860", func := "feathermark/plumekeep.MixedBounds", spec := "mixedBounds", unfollowed := true, recurses := true, apart := false, narrowed := true }
def MixedBoundsUptoSaid : Prop := mixedBoundsUptoRow.holds Try.pinned (OpenSpec.upto mixedBoundsSpec)

/-- 'plumekeep.EquilRest', WHERE WHAT IT READS IS OF BULK AT MOST 1048576: true; the input reads as it did. -/
def equilRestUptoRow : OpenClaim := { program := "ytocimbokgngofaa", sum := "21c4ca356e9a40070c88d1dcafcb991b787b774eb7887cb2a910b0f7b2114860", func := "feathermark/plumekeep.EquilRest", spec := "equilRest", unfollowed := true, recurses := true, apart := false, narrowed := true }
def EquilRestUptoSaid : Prop := equilRestUptoRow.holds Try.pinned (OpenSpec.upto equilRestSpec)

/-- 'plumekeep.EquilTeam', WHERE WHAT IT READS IS OF BULK AT MOST 1048576: true; the input reads as it did. -/
def equilTeamUptoRow : OpenClaim := { program := "ytocimbokgngofaa", sum := "21c4ca356e9a40070c88d1dcafcb991b787b774eb7887cb2a910b0f7b2114860", func := "feathermark/plumekeep.EquilTeam", spec := "equilTeam", unfollowed := true, recurses := true, apart := false, narrowed := true }
def EquilTeamUptoSaid : Prop := equilTeamUptoRow.holds Try.pinned (OpenSpec.upto equilTeamSpec)

/-- 'plumekeep.EquilZero', WHERE WHAT IT READS IS OF BULK AT MOST 1048576: true; the input reads as it did. -/
def equilZeroUptoRow : OpenClaim := { program := "ytocimbokgngofaa", sum := "21c4ca356e9a40070c88d1dcafcb991b787b774eb7887cb2a910b0f7b2114860", func := "feathermark/plumekeep.EquilZero", spec := "equilZero", unfollowed := true, recurses := true, apart := false, narrowed := true }
def EquilZeroUptoSaid : Prop := equilZeroUptoRow.holds Try.pinned (OpenSpec.upto equilZeroSpec)

end Rows
end Go.Proofs.Ytocimbokgngofaa
