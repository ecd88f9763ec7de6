/-
  No cell of these rows narrows 'for every input' (looked for: loops, veiled, ifaces, maps, wideKeys, modest, calm, conditions, laid).
  DERIVED. THE GIVEN ROWS OF THIS SEAT. 7 by the template 'for every input the law returns true; each argument reads behind the call as it read before'; 0 by the template 'total and deterministic' (their statements: YtfekdillbgblkaaTotals.lean).
  GIVEN WITH THE SEED: the statements are not yours to turn. If you find one false, say at which input.
  Laid BY PROGRAM, IN A SANDBOX (cutbox-rows.mjs): the forced cells as the released guide's own fill.sh prints them over the translation edf5438d18f5f635… (all of the seat's roots in one cut). By AI agents, Wed Nov 11 2026. No macro, syntax, notation, axiom, sorry.
-/
import Derived.Test.YtfekdillbgblkaaChecked
import GoSem.Claim
import GoSem.ClaimJoined
import GoSem.ClaimMapViews
import Derived.JoinedTies
import Derived.KernelRfl
namespace Go.Proofs.Ytfekdillbgblkaa
/- THE CELL 'sum', in the pinned program and in every row, IS THE sha256 OF THE DUMP (.gsa) THAT YtfekdillbgblkaaProg.lean LOADS. Nothing in Lean hashes anything: it is a label: what it is worth is what the hold of that sum in a sandbox is worth. -/
noncomputable def Try.pinned : Pinned := { name := "ytfekdillbgblkaa", sum := "edf5438d18f5f635b33d662920a63265063d22bf736ddcc4615c9bc75503a5b6", checked := Try.checked }
namespace Rows
def none {H : Type} : Left H := { results := [], args := [] }

/-- 'plumekeep.LogBack': WHATEVER THE INPUT: true; the input reads as it did. -/
def logBackSpec : ChangeSpec := { name := "logBack", fn := fun _ => fun
  | [d1, d2] => { results := [.lit (.bool true)], args := [d1, d2] }
  | _ => none }
def logBackRow : OpenClaim := { program := "ytfekdillbgblkaa", sum := "edf5438d18f5f635b33d662920a63265063d22bf736ddcc4615c9bc75503a5b6", func := "feathermark/plumekeep.LogBack", spec := "logBack", apart := false }
def LogBackSaid : Prop := logBackRow.holds Try.pinned (OpenSpec.ofChange logBackSpec)

/-- ITS FALSE NEIGHBOUR: 'it returns false'. Refute it at one input. -/
def logBackWrong : ChangeSpec := { name := "logBack", fn := fun _ => fun
  | [d1, d2] => { results := [.lit (.bool false)], args := [d1, d2] }
  | _ => none }
def LogBackWrongFalsely : Prop := logBackRow.holds Try.pinned (OpenSpec.ofChange logBackWrong)

/-- 'plumekeep.TreeZermelo': WHATEVER THE INPUT: true; the input reads as it did. -/
def treeZermeloSpec : ChangeSpec := { name := "treeZermelo", fn := fun _ => fun
  | [d1, d2, d3] => { results := [.lit (.bool true)], args := [d1, d2, d3] }
  | _ => none }
def treeZermeloRow : OpenClaim := { program := "ytfekdillbgblkaa", sum := "edf5438d18f5f635b33d662920a63265063d22bf736ddcc4615c9bc75503a5b6", func := "feathermark/plumekeep.TreeZermelo", spec := "treeZermelo", unfollowed := true, recurses := true, apart := false }
def TreeZermeloSaid : Prop := treeZermeloRow.holds Try.pinned (OpenSpec.ofChange treeZermeloSpec)

/-- ITS FALSE NEIGHBOUR: 'it returns false'. Refute it at one input. -/
def treeZermeloWrong : ChangeSpec := { name := "treeZermelo", fn := fun _ => fun
  | [d1, d2, d3] => { results := [.lit (.bool false)], args := [d1, d2, d3] }
  | _ => none }
def TreeZermeloWrongFalsely : Prop := treeZermeloRow.holds Try.pinned (OpenSpec.ofChange treeZermeloWrong)

/-- 'plumekeep.TreesOwn': WHATEVER THE INPUT: true; the input reads as it did. -/
def treesOwnSpec : ChangeSpec := { name := "treesOwn", fn := fun _ => fun
  | [d1, d2] => { results := [.lit (.bool true)], args := [d1, d2] }
  | _ => none }
def treesOwnRow : OpenClaim := { program := "ytfekdillbgblkaa", sum := "edf5438d18f5f635b33d662920a63265063d22bf736ddcc4615c9bc75503a5b6", func := "feathermark/plumekeep.TreesOwn", spec := "treesOwn", unfollowed := true, recurses := true, apart := false }
def TreesOwnSaid : Prop := treesOwnRow.holds Try.pinned (OpenSpec.ofChange treesOwnSpec)

/-- ITS FALSE NEIGHBOUR: 'it returns false'. Refute it at one input. -/
def treesOwnWrong : ChangeSpec := { name := "treesOwn", fn := fun _ => fun
  | [d1, d2] => { results := [.lit (.bool false)], args := [d1, d2] }
  | _ => none }
def TreesOwnWrongFalsely : Prop := treesOwnRow.holds Try.pinned (OpenSpec.ofChange treesOwnWrong)

/-- 'plumekeep.EquilZero': WHATEVER THE INPUT: true; the input reads as it did. -/
def equilZeroSpec : ChangeSpec := { name := "equilZero", fn := fun _ => fun
  | [d] => { results := [.lit (.bool true)], args := [d] }
  | _ => none }
def equilZeroRow : OpenClaim := { program := "ytfekdillbgblkaa", sum := "edf5438d18f5f635b33d662920a63265063d22bf736ddcc4615c9bc75503a5b6", func := "feathermark/plumekeep.EquilZero", spec := "equilZero", unfollowed := true, recurses := true, apart := false }
def EquilZeroSaid : Prop := equilZeroRow.holds Try.pinned (OpenSpec.ofChange equilZeroSpec)

/-- ITS FALSE NEIGHBOUR: 'it returns false'. Refute it at one input. -/
def equilZeroWrong : ChangeSpec := { name := "equilZero", fn := fun _ => fun
  | [d] => { results := [.lit (.bool false)], args := [d] }
  | _ => none }
def EquilZeroWrongFalsely : Prop := equilZeroRow.holds Try.pinned (OpenSpec.ofChange equilZeroWrong)

/-- 'plumekeep.GamesOwn': WHATEVER THE INPUT: true; the input reads as it did. -/
def gamesOwnSpec : ChangeSpec := { name := "gamesOwn", fn := fun _ => fun
  | [d1, d2, d3, d4, d5] => { results := [.lit (.bool true)], args := [d1, d2, d3, d4, d5] }
  | _ => none }
def gamesOwnRow : OpenClaim := { program := "ytfekdillbgblkaa", sum := "edf5438d18f5f635b33d662920a63265063d22bf736ddcc4615c9bc75503a5b6", func := "feathermark/plumekeep.GamesOwn", spec := "gamesOwn", unfollowed := true, recurses := true, apart := false }
def GamesOwnSaid : Prop := gamesOwnRow.holds Try.pinned (OpenSpec.ofChange gamesOwnSpec)

/-- ITS FALSE NEIGHBOUR: 'it returns false'. Refute it at one input. -/
def gamesOwnWrong : ChangeSpec := { name := "gamesOwn", fn := fun _ => fun
  | [d1, d2, d3, d4, d5] => { results := [.lit (.bool false)], args := [d1, d2, d3, d4, d5] }
  | _ => none }
def GamesOwnWrongFalsely : Prop := gamesOwnRow.holds Try.pinned (OpenSpec.ofChange gamesOwnWrong)

/-- 'plumekeep.VotesOwn': WHATEVER THE INPUT: true; the input reads as it did. -/
def votesOwnSpec : ChangeSpec := { name := "votesOwn", fn := fun _ => fun
  | [d1, d2, d3, d4] => { results := [.lit (.bool true)], args := [d1, d2, d3, d4] }
  | _ => none }
def votesOwnRow : OpenClaim := { program := "ytfekdillbgblkaa", sum := "edf5438d18f5f635b33d662920a63265063d22bf736ddcc4615c9bc75503a5b6", func := "feathermark/plumekeep.VotesOwn", spec := "votesOwn", unfollowed := true, recurses := true, apart := false }
def VotesOwnSaid : Prop := votesOwnRow.holds Try.pinned (OpenSpec.ofChange votesOwnSpec)

/-- ITS FALSE NEIGHBOUR: 'it returns false'. Refute it at one input. -/
def votesOwnWrong : ChangeSpec := { name := "votesOwn", fn := fun _ => fun
  | [d1, d2, d3, d4] => { results := [.lit (.bool false)], args := [d1, d2, d3, d4] }
  | _ => none }
def VotesOwnWrongFalsely : Prop := votesOwnRow.holds Try.pinned (OpenSpec.ofChange votesOwnWrong)

/-- 'plumekeep.ListsOwn': WHATEVER THE INPUT: true; the input reads as it did. -/
def listsOwnSpec : ChangeSpec := { name := "listsOwn", fn := fun _ => fun
  | [d1, d2, d3, d4] => { results := [.lit (.bool true)], args := [d1, d2, d3, d4] }
  | _ => none }
def listsOwnRow : OpenClaim := { program := "ytfekdillbgblkaa", sum := "edf5438d18f5f635b33d662920a63265063d22bf736ddcc4615c9bc75503a5b6", func := "feathermark/plumekeep.ListsOwn", spec := "listsOwn", unfollowed := true, recurses := true, apart := false }
def ListsOwnSaid : Prop := listsOwnRow.holds Try.pinned (OpenSpec.ofChange listsOwnSpec)

/-- ITS FALSE NEIGHBOUR: 'it returns false'. Refute it at one input. -/
def listsOwnWrong : ChangeSpec := { name := "listsOwn", fn := fun _ => fun
  | [d1, d2, d3, d4] => { results := [.lit (.bool false)], args := [d1, d2, d3, d4] }
  | _ => none }
def ListsOwnWrongFalsely : Prop := listsOwnRow.holds Try.pinned (OpenSpec.ofChange listsOwnWrong)

/- THE SECOND FORM. 'bulk': how many values and letters a reading holds, each counted each time it is reached (what is shared counts as often as it is met; a slice's spare places count too). A statement '..UptoSaid' is the law's where the arguments, and the package variables that the reading takes, are together of bulk at most 1048576: NARROWER than '..Said'. Prove '..Said' where nothing that the law and all that it calls make is longer than what came in: it says more and counts as full. Else prove '..UptoSaid'. A law counts once. -/
mutual
def uptoBulk {H : Type} : DataW H → Nat
  | .lit (.string bytes) => bytes.length + 1
  | .lit _ => 1
  | .nil => 1
  | .ptr d => uptoBulk d + 1
  | .slice elems spare => uptoBulkAll elems + uptoBulkAll spare + 1
  | .agg parts => uptoBulkAll parts + 1
  | .iface _ d => uptoBulk d + 1
  | .map entries => uptoBulkEntries entries + 1
  | .held _ => 1
def uptoBulkAll {H : Type} : List (DataW H) → Nat
  | [] => 0
  | d :: r => uptoBulk d + uptoBulkAll r
def uptoBulkEntries {H : Type} : List (Lit × DataW H) → Nat
  | [] => 0
  | x :: r => uptoBulkEntry x + uptoBulkEntries r
def uptoBulkEntry {H : Type} : Lit × DataW H → Nat
  | (.string bytes, d) => bytes.length + uptoBulk d + 1
  | (_, d) => uptoBulk d + 1
 end
def uptoSmall : (H : Type) → List (DataW H) → Bool := fun _ ds => decide (uptoBulkAll ds ≤ 1048576)
def OpenSpec.upto (s : _root_.Go.ChangeSpec) : _root_.Go.OpenSpec := { _root_.Go.OpenSpec.ofChange s with cond := some uptoSmall }

/-- 'plumekeep.LogBack', WHERE WHAT IT READS IS OF BULK AT MOST 1048576: true; the input reads as it did. -/
def logBackUptoRow : OpenClaim := { program := "ytfekdillbgblkaa", sum := "edf5438d18f5f635b33d662920a63265063d22bf736ddcc4615c9bc75503a5b6", func := "feathermark/plumekeep.LogBack", spec := "logBack", apart := false, narrowed := true }
def LogBackUptoSaid : Prop := logBackUptoRow.holds Try.pinned (OpenSpec.upto logBackSpec)

/-- 'plumekeep.TreeZermelo', WHERE WHAT IT READS IS OF BULK AT MOST 1048576: true; the input reads as it did. -/
def treeZermeloUptoRow : OpenClaim := { program := "ytfekdillbgblkaa", sum := "edf5438d18f5f635b33d662920a63265063d22bf736ddcc4615c9bc75503a5b6", func := "feathermark/plumekeep.TreeZermelo", spec := "treeZermelo", unfollowed := true, recurses := true, apart := false, narrowed := true }
def TreeZermeloUptoSaid : Prop := treeZermeloUptoRow.holds Try.pinned (OpenSpec.upto treeZermeloSpec)

/-- 'plumekeep.TreesOwn', WHERE WHAT IT READS IS OF BULK AT MOST 1048576: true; the input reads as it did. -/
def treesOwnUptoRow : OpenClaim := { program := "ytfekdillbgblkaa", sum := "edf5438d18f5f635b33d662920a63265063d22bf736ddcc4615c9bc75503a5b6", func := "feathermark/plumekeep.TreesOwn", spec := "treesOwn", unfollowed := true, recurses := true, apart := false, narrowed := true }
def TreesOwnUptoSaid : Prop := treesOwnUptoRow.holds Try.pinned (OpenSpec.upto treesOwnSpec)

/-- 'plumekeep.EquilZero', WHERE WHAT IT READS IS OF BULK AT MOST 1048576: true; the input reads as it did. -/
def equilZeroUptoRow : OpenClaim := { program := "ytfekdillbgblkaa", sum := "edf5438d18f5f635b33d662920a63265063d22bf736ddcc4615c9bc75503a5b6", func := "feathermark/plumekeep.EquilZero", spec := "equilZero", unfollowed := true, recurses := true, apart := false, narrowed := true }
def EquilZeroUptoSaid : Prop := equilZeroUptoRow.holds Try.pinned (OpenSpec.upto equilZeroSpec)

/-- 'plumekeep.GamesOwn', WHERE WHAT IT READS IS OF BULK AT MOST 1048576: true; the input reads as it did. -/
def gamesOwnUptoRow : OpenClaim := { program := "ytfekdillbgblkaa", sum := "edf5438d18f5f635b33d662920a63265063d22bf736ddcc4615c9bc75503a5b6", func := "feathermark/plumekeep.GamesOwn", spec := "gamesOwn", unfollowed := true, recurses := true, apart := false, narrowed := true }
def GamesOwnUptoSaid : Prop := gamesOwnUptoRow.holds Try.pinned (OpenSpec.upto gamesOwnSpec)

/-- 'plumekeep.VotesOwn', WHERE WHAT IT READS IS OF BULK AT MOST 1048576: true; the input reads as it did. -/
def votesOwnUptoRow : OpenClaim := { program := "ytfekdillbgblkaa", sum := "edf5438d18f5f635b33d662920a63265063d22bf736ddcc4615c9bc75503a5b6", func := "feathermark/plumekeep.VotesOwn", spec := "votesOwn", unfollowed := true, recurses := true, apart := false, narrowed := true }
def VotesOwnUptoSaid : Prop := votesOwnUptoRow.holds Try.pinned (OpenSpec.upto votesOwnSpec)

/-- 'plumekeep.ListsOwn', WHERE WHAT IT READS IS OF BULK AT MOST 1048576: true; the input reads as it did. -/
def listsOwnUptoRow : OpenClaim := { program := "ytfekdillbgblkaa", sum := "edf5438d18f5f635b33d662920a63265063d22bf736ddcc4615c9bc75503a5b6", func := "feathermark/plumekeep.ListsOwn", spec := "listsOwn", unfollowed := true, recurses := true, apart := false, narrowed := true }
def ListsOwnUptoSaid : Prop := listsOwnUptoRow.holds Try.pinned (OpenSpec.upto listsOwnSpec)

end Rows
end Go.Proofs.Ytfekdillbgblkaa
