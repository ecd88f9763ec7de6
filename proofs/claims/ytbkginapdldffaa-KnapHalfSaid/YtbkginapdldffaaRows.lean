/-
  No cell of these rows narrows 'for every input' (looked for: loops, veiled, ifaces, maps, wideKeys, modest, calm, conditions, laid).
  DERIVED. THE GIVEN ROWS OF THIS SEAT. 9 by the template 'for every input the law returns true; each argument reads behind the call as it read before'; 0 by the template 'total and deterministic' (their statements: YtbkginapdldffaaTotals.lean).
  GIVEN WITH THE SEED: the statements are not yours to turn. If you find one false, say at which input.
  Laid BY PROGRAM, IN A SANDBOX (cutbox-rows.mjs): the forced cells as the released guide's own fill.sh prints them over the translation 4093ce9387218797… (all of the seat's roots in one cut). By AI agents, Wed Nov 11 2026. No macro, syntax, notation, axiom, sorry.
-/
import Derived.Test.YtbkginapdldffaaChecked
import GoSem.Claim
import GoSem.ClaimJoined
import GoSem.ClaimMapViews
import Derived.JoinedTies
import Derived.KernelRfl
namespace Go.Proofs.Ytbkginapdldffaa
/- THE CELL 'sum', in the pinned program and in every row, IS THE sha256 OF THE DUMP (.gsa) THAT YtbkginapdldffaaProg.lean LOADS. Nothing in Lean hashes anything: it is a label: what it is worth is what the hold of that sum in a sandbox is worth. -/
noncomputable def Try.pinned : Pinned := { name := "ytbkginapdldffaa", sum := "4093ce9387218797d8a89779d2bbfa98ff04dbef1a070946893c7d229d63a0f6", checked := Try.checked }
namespace Rows
def none {H : Type} : Left H := { results := [], args := [] }

/-- 'plumekeep.KnapBest': WHATEVER THE INPUT: true; the input reads as it did. -/
def knapBestSpec : ChangeSpec := { name := "knapBest", fn := fun _ => fun
  | [d1, d2, d3] => { results := [.lit (.bool true)], args := [d1, d2, d3] }
  | _ => none }
def knapBestRow : OpenClaim := { program := "ytbkginapdldffaa", sum := "4093ce9387218797d8a89779d2bbfa98ff04dbef1a070946893c7d229d63a0f6", func := "feathermark/plumekeep.KnapBest", spec := "knapBest", apart := false }
def KnapBestSaid : Prop := knapBestRow.holds Try.pinned (OpenSpec.ofChange knapBestSpec)

/-- ITS FALSE NEIGHBOUR: 'it returns false'. Refute it at one input. -/
def knapBestWrong : ChangeSpec := { name := "knapBest", fn := fun _ => fun
  | [d1, d2, d3] => { results := [.lit (.bool false)], args := [d1, d2, d3] }
  | _ => none }
def KnapBestWrongFalsely : Prop := knapBestRow.holds Try.pinned (OpenSpec.ofChange knapBestWrong)

/-- 'plumekeep.PilesBouton': WHATEVER THE INPUT: true; the input reads as it did. -/
def pilesBoutonSpec : ChangeSpec := { name := "pilesBouton", fn := fun _ => fun
  | [d] => { results := [.lit (.bool true)], args := [d] }
  | _ => none }
def pilesBoutonRow : OpenClaim := { program := "ytbkginapdldffaa", sum := "4093ce9387218797d8a89779d2bbfa98ff04dbef1a070946893c7d229d63a0f6", func := "feathermark/plumekeep.PilesBouton", spec := "pilesBouton", unfollowed := true, recurses := true, apart := false }
def PilesBoutonSaid : Prop := pilesBoutonRow.holds Try.pinned (OpenSpec.ofChange pilesBoutonSpec)

/-- ITS FALSE NEIGHBOUR: 'it returns false'. Refute it at one input. -/
def pilesBoutonWrong : ChangeSpec := { name := "pilesBouton", fn := fun _ => fun
  | [d] => { results := [.lit (.bool false)], args := [d] }
  | _ => none }
def PilesBoutonWrongFalsely : Prop := pilesBoutonRow.holds Try.pinned (OpenSpec.ofChange pilesBoutonWrong)

/-- 'plumekeep.PilesPairs': WHATEVER THE INPUT: true; the input reads as it did. -/
def pilesPairsSpec : ChangeSpec := { name := "pilesPairs", fn := fun _ => fun
  | [d1, d2, d3] => { results := [.lit (.bool true)], args := [d1, d2, d3] }
  | _ => none }
def pilesPairsRow : OpenClaim := { program := "ytbkginapdldffaa", sum := "4093ce9387218797d8a89779d2bbfa98ff04dbef1a070946893c7d229d63a0f6", func := "feathermark/plumekeep.PilesPairs", spec := "pilesPairs", unfollowed := true, recurses := true, apart := false }
def PilesPairsSaid : Prop := pilesPairsRow.holds Try.pinned (OpenSpec.ofChange pilesPairsSpec)

/-- ITS FALSE NEIGHBOUR: 'it returns false'. Refute it at one input. -/
def pilesPairsWrong : ChangeSpec := { name := "pilesPairs", fn := fun _ => fun
  | [d1, d2, d3] => { results := [.lit (.bool false)], args := [d1, d2, d3] }
  | _ => none }
def PilesPairsWrongFalsely : Prop := pilesPairsRow.holds Try.pinned (OpenSpec.ofChange pilesPairsWrong)

/-- 'plumekeep.KnapMore': WHATEVER THE INPUT: true; the input reads as it did. -/
def knapMoreSpec : ChangeSpec := { name := "knapMore", fn := fun _ => fun
  | [d1, d2, d3, d4] => { results := [.lit (.bool true)], args := [d1, d2, d3, d4] }
  | _ => none }
def knapMoreRow : OpenClaim := { program := "ytbkginapdldffaa", sum := "4093ce9387218797d8a89779d2bbfa98ff04dbef1a070946893c7d229d63a0f6", func := "feathermark/plumekeep.KnapMore", spec := "knapMore", unfollowed := true, recurses := true, apart := false }
def KnapMoreSaid : Prop := knapMoreRow.holds Try.pinned (OpenSpec.ofChange knapMoreSpec)

/-- ITS FALSE NEIGHBOUR: 'it returns false'. Refute it at one input. -/
def knapMoreWrong : ChangeSpec := { name := "knapMore", fn := fun _ => fun
  | [d1, d2, d3, d4] => { results := [.lit (.bool false)], args := [d1, d2, d3, d4] }
  | _ => none }
def KnapMoreWrongFalsely : Prop := knapMoreRow.holds Try.pinned (OpenSpec.ofChange knapMoreWrong)

/-- 'plumekeep.KnapApart': WHATEVER THE INPUT: true; the input reads as it did. -/
def knapApartSpec : ChangeSpec := { name := "knapApart", fn := fun _ => fun
  | [d1, d2, d3] => { results := [.lit (.bool true)], args := [d1, d2, d3] }
  | _ => none }
def knapApartRow : OpenClaim := { program := "ytbkginapdldffaa", sum := "4093ce9387218797d8a89779d2bbfa98ff04dbef1a070946893c7d229d63a0f6", func := "feathermark/plumekeep.KnapApart", spec := "knapApart", unfollowed := true, recurses := true, apart := false }
def KnapApartSaid : Prop := knapApartRow.holds Try.pinned (OpenSpec.ofChange knapApartSpec)

/-- ITS FALSE NEIGHBOUR: 'it returns false'. Refute it at one input. -/
def knapApartWrong : ChangeSpec := { name := "knapApart", fn := fun _ => fun
  | [d1, d2, d3] => { results := [.lit (.bool false)], args := [d1, d2, d3] }
  | _ => none }
def KnapApartWrongFalsely : Prop := knapApartRow.holds Try.pinned (OpenSpec.ofChange knapApartWrong)

/-- 'plumekeep.PilesNim': WHATEVER THE INPUT: true; the input reads as it did. -/
def pilesNimSpec : ChangeSpec := { name := "pilesNim", fn := fun _ => fun
  | [d] => { results := [.lit (.bool true)], args := [d] }
  | _ => none }
def pilesNimRow : OpenClaim := { program := "ytbkginapdldffaa", sum := "4093ce9387218797d8a89779d2bbfa98ff04dbef1a070946893c7d229d63a0f6", func := "feathermark/plumekeep.PilesNim", spec := "pilesNim", unfollowed := true, recurses := true, apart := false }
def PilesNimSaid : Prop := pilesNimRow.holds Try.pinned (OpenSpec.ofChange pilesNimSpec)

/-- ITS FALSE NEIGHBOUR: 'it returns false'. Refute it at one input. -/
def pilesNimWrong : ChangeSpec := { name := "pilesNim", fn := fun _ => fun
  | [d] => { results := [.lit (.bool false)], args := [d] }
  | _ => none }
def PilesNimWrongFalsely : Prop := pilesNimRow.holds Try.pinned (OpenSpec.ofChange pilesNimWrong)

/-- 'plumekeep.PilesSum': WHATEVER THE INPUT: true; the input reads as it did. -/
def pilesSumSpec : ChangeSpec := { name := "pilesSum", fn := fun _ => fun
  | [d1, d2, d3] => { results := [.lit (.bool true)], args := [d1, d2, d3] }
  | _ => none }
def pilesSumRow : OpenClaim := { program := "ytbkginapdldffaa", sum := "4093ce9387218797d8a89779d2bbfa98ff04dbef1a070946893c7d229d63a0f6", func := "feathermark/plumekeep.PilesSum", spec := "pilesSum", unfollowed := true, recurses := true, apart := false }
def PilesSumSaid : Prop := pilesSumRow.holds Try.pinned (OpenSpec.ofChange pilesSumSpec)

/-- ITS FALSE NEIGHBOUR: 'it returns false'. Refute it at one input. -/
def pilesSumWrong : ChangeSpec := { name := "pilesSum", fn := fun _ => fun
  | [d1, d2, d3] => { results := [.lit (.bool false)], args := [d1, d2, d3] }
  | _ => none }
def PilesSumWrongFalsely : Prop := pilesSumRow.holds Try.pinned (OpenSpec.ofChange pilesSumWrong)

/-- 'plumekeep.KnapHalf': WHATEVER THE INPUT: true; the input reads as it did. -/
def knapHalfSpec : ChangeSpec := { name := "knapHalf", fn := fun _ => fun
  | [d1, d2] => { results := [.lit (.bool true)], args := [d1, d2] }
  | _ => none }
def knapHalfRow : OpenClaim := { program := "ytbkginapdldffaa", sum := "4093ce9387218797d8a89779d2bbfa98ff04dbef1a070946893c7d229d63a0f6", func := "feathermark/plumekeep.KnapHalf", spec := "knapHalf", unfollowed := true, recurses := true, apart := false }
def KnapHalfSaid : Prop := knapHalfRow.holds Try.pinned (OpenSpec.ofChange knapHalfSpec)

/-- ITS FALSE NEIGHBOUR: 'it returns false'. Refute it at one input. -/
def knapHalfWrong : ChangeSpec := { name := "knapHalf", fn := fun _ => fun
  | [d1, d2] => { results := [.lit (.bool false)], args := [d1, d2] }
  | _ => none }
def KnapHalfWrongFalsely : Prop := knapHalfRow.holds Try.pinned (OpenSpec.ofChange knapHalfWrong)

/-- 'plumekeep.PilesTable': WHATEVER THE INPUT: true; the input reads as it did. -/
def pilesTableSpec : ChangeSpec := { name := "pilesTable", fn := fun _ => fun
  | [d1, d2] => { results := [.lit (.bool true)], args := [d1, d2] }
  | _ => none }
def pilesTableRow : OpenClaim := { program := "ytbkginapdldffaa", sum := "4093ce9387218797d8a89779d2bbfa98ff04dbef1a070946893c7d229d63a0f6", func := "feathermark/plumekeep.PilesTable", spec := "pilesTable", unfollowed := true, recurses := true, apart := false }
def PilesTableSaid : Prop := pilesTableRow.holds Try.pinned (OpenSpec.ofChange pilesTableSpec)

/-- ITS FALSE NEIGHBOUR: 'it returns false'. Refute it at one input. -/
def pilesTableWrong : ChangeSpec := { name := "pilesTable", fn := fun _ => fun
  | [d1, d2] => { results := [.lit (.bool false)], args := [d1, d2] }
  | _ => none }
def PilesTableWrongFalsely : Prop := pilesTableRow.holds Try.pinned (OpenSpec.ofChange pilesTableWrong)

/- THE SECOND FORM. 'bulk': how many values and letters a reading holds, each counted each time it is reached (what is shared counts as often as it is met; a slice's spare places count too). A statement '..UptoSaid' is the law's where the arguments, and the package variables that the reading takes, are together of bulk at most 1048576: NARROWER than '..Said'. Prove '..Said' where nothing that the law and all that it calls make is longer than what came in: it says more and counts as full. Else prove '..UptoSaid'. A law counts once. -/
mutual
def uptoBulk {H : Type} : DataW H → Nat
  | .lit (.string bytes) => bytes.length + 1
  | .lit _ => 1
  | .nil => 1
  | .ptr d => uptoBulk d + 1
  | .slice elems spare => uptoBulkAll elems + uptoBulkAll spare + 1
  | .agg parts => uptoBulkAll parts + 1
  | .iface _ d => uptoBulk d + 1
  | .map entries => uptoBulkEntries entries + 1
  | .held _ => 1
def uptoBulkAll {H : Type} : List (DataW H) → Nat
  | [] => 0
  | d :: r => uptoBulk d + uptoBulkAll r
def uptoBulkEntries {H : Type} : List (Lit × DataW H) → Nat
  | [] => 0
  | x :: r => uptoBulkEntry x + uptoBulkEntries r
def uptoBulkEntry {H : Type} : Lit × DataW H → Nat
  | (.string bytes, d) => bytes.length + uptoBulk d + 1
  | (_, d) => uptoBulk d + 1
 end
def uptoSmall : (H : Type) → List (DataW H) → Bool := fun _ ds => decide (uptoBulkAll ds ≤ 1048576)
def OpenSpec.upto (s : _root_.Go.ChangeSpec) : _root_.Go.OpenSpec := { _root_.Go.OpenSpec.ofChange s with cond := some uptoSmall }

/-- 'plumekeep.KnapBest', WHERE WHAT IT READS IS OF BULK AT MOST 1048576: true; the input reads as it did. -/
def knapBestUptoRow : OpenClaim := { program := "ytbkginapdldffaa", sum := "4093ce9387218797d8a89779d2bbfa98ff04dbef1a070946893c7d229d63a0f6", func := "feathermark/plumekeep.KnapBest", spec := "knapBest", apart := false, narrowed := true }
def KnapBestUptoSaid : Prop := knapBestUptoRow.holds Try.pinned (OpenSpec.upto knapBestSpec)

/-- 'plumekeep.PilesBouton', WHERE WHAT IT READS IS OF BULK AT MOST 1048576: true; the input reads as it did. -/
def pilesBoutonUptoRow : OpenClaim := { program := "ytbkginapdldffaa", sum := "4093ce9387218797d8a89779d2bbfa98ff04dbef1a070946893c7d229d63a0f6", func := "feathermark/plumekeep.PilesBouton", spec := "pilesBouton", unfollowed := true, recurses := true, apart := false, narrowed := true }
def PilesBoutonUptoSaid : Prop := pilesBoutonUptoRow.holds Try.pinned (OpenSpec.upto pilesBoutonSpec)

/-- 'plumekeep.PilesPairs', WHERE WHAT IT READS IS OF BULK AT MOST 1048576: true; the input reads as it did. -/
def pilesPairsUptoRow : OpenClaim := { program := "ytbkginapdldffaa", sum := "4093ce9387218797d8a89779d2bbfa98ff04dbef1a070946893c7d229d63a0f6", func := "feathermark/plumekeep.PilesPairs", spec := "pilesPairs", unfollowed := true, recurses := true, apart := false, narrowed := true }
def PilesPairsUptoSaid : Prop := pilesPairsUptoRow.holds Try.pinned (OpenSpec.upto pilesPairsSpec)

/-- 'plumekeep.KnapMore', WHERE WHAT IT READS IS OF BULK AT MOST 1048576: true; the input reads as it did. -/
def knapMoreUptoRow : OpenClaim := { program := "ytbkginapdldffaa", sum := "4093ce9387218797d8a89779d2bbfa98ff04dbef1a070946893c7d229d63a0f6", func := "feathermark/plumekeep.KnapMore", spec := "knapMore", unfollowed := true, recurses := true, apart := false, narrowed := true }
def KnapMoreUptoSaid : Prop := knapMoreUptoRow.holds Try.pinned (OpenSpec.upto knapMoreSpec)

/-- 'plumekeep.KnapApart', WHERE WHAT IT READS IS OF BULK AT MOST 1048576: true; the input reads as it did. -/
def knapApartUptoRow : OpenClaim := { program := "ytbkginapdldffaa", sum := "4093ce9387218797d8a89779d2bbfa98ff04dbef1a070946893c7d229d63a0f6", func := "feathermark/plumekeep.KnapApart", spec := "knapApart", unfollowed := true, recurses := true, apart := false, narrowed := true }
def KnapApartUptoSaid : Prop := knapApartUptoRow.holds Try.pinned (OpenSpec.upto knapApartSpec)

/-- 'plumekeep.PilesNim', WHERE WHAT IT READS IS OF BULK AT MOST 1048576: true; the input reads as it did. -/
def pilesNimUptoRow : OpenClaim := { program := "ytbkginapdldffaa", sum := "4093ce9387218797d8a89779d2bbfa98ff04dbef1a070946893c7d229d63a0f6", func := "feathermark/plumekeep.PilesNim", spec := "pilesNim", unfollowed := true, recurses := true, apart := false, narrowed := true }
def PilesNimUptoSaid : Prop := pilesNimUptoRow.holds Try.pinned (OpenSpec.upto pilesNimSpec)

/-- 'plumekeep.PilesSum', WHERE WHAT IT READS IS OF BULK AT MOST 1048576: true; the input reads as it did. -/
def pilesSumUptoRow : OpenClaim := { program := "ytbkginapdldffaa", sum := "4093ce9387218797d8a89779d2bbfa98ff04dbef1a070946893c7d229d63a0f6", func := "feathermark/plumekeep.PilesSum", spec := "pilesSum", unfollowed := true, recurses := true, apart := false, narrowed := true }
def PilesSumUptoSaid : Prop := pilesSumUptoRow.holds Try.pinned (OpenSpec.upto pilesSumSpec)

/-- 'plumekeep.KnapHalf', WHERE WHAT IT READS IS OF BULK AT MOST 1048576: true; the input reads as it did. -/
def knapHalfUptoRow : OpenClaim := { program := "ytbkginapdldffaa", sum := "4093ce9387218797d8a89779d2bbfa98ff04dbef1a070946893c7d229d63a0f6", func := "feathermark/plumekeep.KnapHalf", spec := "knapHalf", unfollowed := true, recurses := true, apart := false, narrowed := true }
def KnapHalfUptoSaid : Prop := knapHalfUptoRow.holds Try.pinned (OpenSpec.upto knapHalfSpec)

/-- 'plumekeep.PilesTable', WHERE WHAT IT READS IS OF BULK AT MOST 1048576: true; the input reads as it did. -/
def pilesTableUptoRow : OpenClaim := { program := "ytbkginapdldffaa", sum := "4093ce9387218797d8a89779d2bbfa98ff04dbef1a070946893c7d229d63a0f6", func := "feathermark/plumekeep.PilesTable", spec := "pilesTable", unfollowed := true, recurses := true, apart := false, narrowed := true }
def PilesTableUptoSaid : Prop := pilesTableUptoRow.holds Try.pinned (OpenSpec.upto pilesTableSpec)

end Rows
end Go.Proofs.Ytbkginapdldffaa
