/-
  No cell of these rows narrows 'for every input' (looked for: loops, veiled, ifaces, maps, wideKeys, modest, calm, conditions, laid).
  DERIVED. THE GIVEN ROWS OF THIS SEAT. 11 by the template 'for every input the law returns true; each argument reads behind the call as it read before'; 0 by the template 'total and deterministic' (their statements: YtlglnacpabmjnaaTotals.lean).
  GIVEN WITH THE SEED: the statements are not yours to turn. If you find one false, say at which input.
  Laid BY PROGRAM, IN A SANDBOX (cutbox-rows.mjs): the forced cells as the released guide's own fill.sh prints them over the translation 55294c713c644614… (all of the seat's roots in one cut). By AI agents, Wed Nov 11 2026. No macro, syntax, notation, axiom, sorry.
-/
import Derived.Test.YtlglnacpabmjnaaChecked
import GoSem.Claim
import GoSem.ClaimJoined
import GoSem.ClaimMapViews
import Derived.JoinedTies
import Derived.KernelRfl
namespace Go.Proofs.Ytlglnacpabmjnaa
/- THE CELL 'sum', in the pinned program and in every row, IS THE sha256 OF THE DUMP (.gsa) THAT YtlglnacpabmjnaaProg.lean LOADS. Nothing in Lean hashes anything: it is a label: what it is worth is what the hold of that sum in a sandbox is worth. -/
noncomputable def Try.pinned : Pinned := { name := "ytlglnacpabmjnaa", sum := "55294c713c6446143da46db56505a6cd9ec64a01c1a9015fe0b687c82d508d3f", checked := Try.checked }
namespace Rows
def none {H : Type} : Left H := { results := [], args := [] }

/-- 'plumekeep.WorthWhole': WHATEVER THE INPUT: true; the input reads as it did. -/
def worthWholeSpec : ChangeSpec := { name := "worthWhole", fn := fun _ => fun
  | [d1, d2, d3] => { results := [.lit (.bool true)], args := [d1, d2, d3] }
  | _ => none }
def worthWholeRow : OpenClaim := { program := "ytlglnacpabmjnaa", sum := "55294c713c6446143da46db56505a6cd9ec64a01c1a9015fe0b687c82d508d3f", func := "feathermark/plumekeep.WorthWhole", spec := "worthWhole", unfollowed := true, recurses := true, apart := false }
def WorthWholeSaid : Prop := worthWholeRow.holds Try.pinned (OpenSpec.ofChange worthWholeSpec)

/-- ITS FALSE NEIGHBOUR: 'it returns false'. Refute it at one input. -/
def worthWholeWrong : ChangeSpec := { name := "worthWhole", fn := fun _ => fun
  | [d1, d2, d3] => { results := [.lit (.bool false)], args := [d1, d2, d3] }
  | _ => none }
def WorthWholeWrongFalsely : Prop := worthWholeRow.holds Try.pinned (OpenSpec.ofChange worthWholeWrong)

/-- 'plumekeep.WorthDual': WHATEVER THE INPUT: true; the input reads as it did. -/
def worthDualSpec : ChangeSpec := { name := "worthDual", fn := fun _ => fun
  | [d1, d2] => { results := [.lit (.bool true)], args := [d1, d2] }
  | _ => none }
def worthDualRow : OpenClaim := { program := "ytlglnacpabmjnaa", sum := "55294c713c6446143da46db56505a6cd9ec64a01c1a9015fe0b687c82d508d3f", func := "feathermark/plumekeep.WorthDual", spec := "worthDual", unfollowed := true, recurses := true, apart := false }
def WorthDualSaid : Prop := worthDualRow.holds Try.pinned (OpenSpec.ofChange worthDualSpec)

/-- ITS FALSE NEIGHBOUR: 'it returns false'. Refute it at one input. -/
def worthDualWrong : ChangeSpec := { name := "worthDual", fn := fun _ => fun
  | [d1, d2] => { results := [.lit (.bool false)], args := [d1, d2] }
  | _ => none }
def WorthDualWrongFalsely : Prop := worthDualRow.holds Try.pinned (OpenSpec.ofChange worthDualWrong)

/-- 'plumekeep.WorthAlike': WHATEVER THE INPUT: true; the input reads as it did. -/
def worthAlikeSpec : ChangeSpec := { name := "worthAlike", fn := fun _ => fun
  | [d1, d2, d3, d4, d5] => { results := [.lit (.bool true)], args := [d1, d2, d3, d4, d5] }
  | _ => none }
def worthAlikeRow : OpenClaim := { program := "ytlglnacpabmjnaa", sum := "55294c713c6446143da46db56505a6cd9ec64a01c1a9015fe0b687c82d508d3f", func := "feathermark/plumekeep.WorthAlike", spec := "worthAlike", unfollowed := true, recurses := true, apart := false }
def WorthAlikeSaid : Prop := worthAlikeRow.holds Try.pinned (OpenSpec.ofChange worthAlikeSpec)

/-- ITS FALSE NEIGHBOUR: 'it returns false'. Refute it at one input. -/
def worthAlikeWrong : ChangeSpec := { name := "worthAlike", fn := fun _ => fun
  | [d1, d2, d3, d4, d5] => { results := [.lit (.bool false)], args := [d1, d2, d3, d4, d5] }
  | _ => none }
def WorthAlikeWrongFalsely : Prop := worthAlikeRow.holds Try.pinned (OpenSpec.ofChange worthAlikeWrong)

/-- 'plumekeep.PowerTurns': WHATEVER THE INPUT: true; the input reads as it did. -/
def powerTurnsSpec : ChangeSpec := { name := "powerTurns", fn := fun _ => fun
  | [d1, d2] => { results := [.lit (.bool true)], args := [d1, d2] }
  | _ => none }
def powerTurnsRow : OpenClaim := { program := "ytlglnacpabmjnaa", sum := "55294c713c6446143da46db56505a6cd9ec64a01c1a9015fe0b687c82d508d3f", func := "feathermark/plumekeep.PowerTurns", spec := "powerTurns", unfollowed := true, recurses := true, apart := false }
def PowerTurnsSaid : Prop := powerTurnsRow.holds Try.pinned (OpenSpec.ofChange powerTurnsSpec)

/-- ITS FALSE NEIGHBOUR: 'it returns false'. Refute it at one input. -/
def powerTurnsWrong : ChangeSpec := { name := "powerTurns", fn := fun _ => fun
  | [d1, d2] => { results := [.lit (.bool false)], args := [d1, d2] }
  | _ => none }
def PowerTurnsWrongFalsely : Prop := powerTurnsRow.holds Try.pinned (OpenSpec.ofChange powerTurnsWrong)

/-- 'plumekeep.PowerDual': WHATEVER THE INPUT: true; the input reads as it did. -/
def powerDualSpec : ChangeSpec := { name := "powerDual", fn := fun _ => fun
  | [d1, d2] => { results := [.lit (.bool true)], args := [d1, d2] }
  | _ => none }
def powerDualRow : OpenClaim := { program := "ytlglnacpabmjnaa", sum := "55294c713c6446143da46db56505a6cd9ec64a01c1a9015fe0b687c82d508d3f", func := "feathermark/plumekeep.PowerDual", spec := "powerDual", unfollowed := true, recurses := true, apart := false }
def PowerDualSaid : Prop := powerDualRow.holds Try.pinned (OpenSpec.ofChange powerDualSpec)

/-- ITS FALSE NEIGHBOUR: 'it returns false'. Refute it at one input. -/
def powerDualWrong : ChangeSpec := { name := "powerDual", fn := fun _ => fun
  | [d1, d2] => { results := [.lit (.bool false)], args := [d1, d2] }
  | _ => none }
def PowerDualWrongFalsely : Prop := powerDualRow.holds Try.pinned (OpenSpec.ofChange powerDualWrong)

/-- 'plumekeep.WorthHolds': WHATEVER THE INPUT: true; the input reads as it did. -/
def worthHoldsSpec : ChangeSpec := { name := "worthHolds", fn := fun _ => fun
  | [d1, d2, d3] => { results := [.lit (.bool true)], args := [d1, d2, d3] }
  | _ => none }
def worthHoldsRow : OpenClaim := { program := "ytlglnacpabmjnaa", sum := "55294c713c6446143da46db56505a6cd9ec64a01c1a9015fe0b687c82d508d3f", func := "feathermark/plumekeep.WorthHolds", spec := "worthHolds", unfollowed := true, recurses := true, apart := false }
def WorthHoldsSaid : Prop := worthHoldsRow.holds Try.pinned (OpenSpec.ofChange worthHoldsSpec)

/-- ITS FALSE NEIGHBOUR: 'it returns false'. Refute it at one input. -/
def worthHoldsWrong : ChangeSpec := { name := "worthHolds", fn := fun _ => fun
  | [d1, d2, d3] => { results := [.lit (.bool false)], args := [d1, d2, d3] }
  | _ => none }
def WorthHoldsWrongFalsely : Prop := worthHoldsRow.holds Try.pinned (OpenSpec.ofChange worthHoldsWrong)

/-- 'plumekeep.PowerSwings': WHATEVER THE INPUT: true; the input reads as it did. -/
def powerSwingsSpec : ChangeSpec := { name := "powerSwings", fn := fun _ => fun
  | [d1, d2] => { results := [.lit (.bool true)], args := [d1, d2] }
  | _ => none }
def powerSwingsRow : OpenClaim := { program := "ytlglnacpabmjnaa", sum := "55294c713c6446143da46db56505a6cd9ec64a01c1a9015fe0b687c82d508d3f", func := "feathermark/plumekeep.PowerSwings", spec := "powerSwings", unfollowed := true, recurses := true, apart := false }
def PowerSwingsSaid : Prop := powerSwingsRow.holds Try.pinned (OpenSpec.ofChange powerSwingsSpec)

/-- ITS FALSE NEIGHBOUR: 'it returns false'. Refute it at one input. -/
def powerSwingsWrong : ChangeSpec := { name := "powerSwings", fn := fun _ => fun
  | [d1, d2] => { results := [.lit (.bool false)], args := [d1, d2] }
  | _ => none }
def PowerSwingsWrongFalsely : Prop := powerSwingsRow.holds Try.pinned (OpenSpec.ofChange powerSwingsWrong)

/-- 'plumekeep.PowerVeto': WHATEVER THE INPUT: true; the input reads as it did. -/
def powerVetoSpec : ChangeSpec := { name := "powerVeto", fn := fun _ => fun
  | [d1, d2] => { results := [.lit (.bool true)], args := [d1, d2] }
  | _ => none }
def powerVetoRow : OpenClaim := { program := "ytlglnacpabmjnaa", sum := "55294c713c6446143da46db56505a6cd9ec64a01c1a9015fe0b687c82d508d3f", func := "feathermark/plumekeep.PowerVeto", spec := "powerVeto", unfollowed := true, recurses := true, apart := false }
def PowerVetoSaid : Prop := powerVetoRow.holds Try.pinned (OpenSpec.ofChange powerVetoSpec)

/-- ITS FALSE NEIGHBOUR: 'it returns false'. Refute it at one input. -/
def powerVetoWrong : ChangeSpec := { name := "powerVeto", fn := fun _ => fun
  | [d1, d2] => { results := [.lit (.bool false)], args := [d1, d2] }
  | _ => none }
def PowerVetoWrongFalsely : Prop := powerVetoRow.holds Try.pinned (OpenSpec.ofChange powerVetoWrong)

/-- 'plumekeep.PowerScaled': WHATEVER THE INPUT: true; the input reads as it did. -/
def powerScaledSpec : ChangeSpec := { name := "powerScaled", fn := fun _ => fun
  | [d1, d2, d3, d4] => { results := [.lit (.bool true)], args := [d1, d2, d3, d4] }
  | _ => none }
def powerScaledRow : OpenClaim := { program := "ytlglnacpabmjnaa", sum := "55294c713c6446143da46db56505a6cd9ec64a01c1a9015fe0b687c82d508d3f", func := "feathermark/plumekeep.PowerScaled", spec := "powerScaled", unfollowed := true, recurses := true, apart := false }
def PowerScaledSaid : Prop := powerScaledRow.holds Try.pinned (OpenSpec.ofChange powerScaledSpec)

/-- ITS FALSE NEIGHBOUR: 'it returns false'. Refute it at one input. -/
def powerScaledWrong : ChangeSpec := { name := "powerScaled", fn := fun _ => fun
  | [d1, d2, d3, d4] => { results := [.lit (.bool false)], args := [d1, d2, d3, d4] }
  | _ => none }
def PowerScaledWrongFalsely : Prop := powerScaledRow.holds Try.pinned (OpenSpec.ofChange powerScaledWrong)

/-- 'plumekeep.WorthRows': WHATEVER THE INPUT: true; the input reads as it did. -/
def worthRowsSpec : ChangeSpec := { name := "worthRows", fn := fun _ => fun
  | [d1, d2, d3] => { results := [.lit (.bool true)], args := [d1, d2, d3] }
  | _ => none }
def worthRowsRow : OpenClaim := { program := "ytlglnacpabmjnaa", sum := "55294c713c6446143da46db56505a6cd9ec64a01c1a9015fe0b687c82d508d3f", func := "feathermark/plumekeep.WorthRows", spec := "worthRows", unfollowed := true, recurses := true, apart := false }
def WorthRowsSaid : Prop := worthRowsRow.holds Try.pinned (OpenSpec.ofChange worthRowsSpec)

/-- ITS FALSE NEIGHBOUR: 'it returns false'. Refute it at one input. -/
def worthRowsWrong : ChangeSpec := { name := "worthRows", fn := fun _ => fun
  | [d1, d2, d3] => { results := [.lit (.bool false)], args := [d1, d2, d3] }
  | _ => none }
def WorthRowsWrongFalsely : Prop := worthRowsRow.holds Try.pinned (OpenSpec.ofChange worthRowsWrong)

/-- 'plumekeep.WorthRound': WHATEVER THE INPUT: true; the input reads as it did. -/
def worthRoundSpec : ChangeSpec := { name := "worthRound", fn := fun _ => fun
  | [d1, d2, d3, d4] => { results := [.lit (.bool true)], args := [d1, d2, d3, d4] }
  | _ => none }
def worthRoundRow : OpenClaim := { program := "ytlglnacpabmjnaa", sum := "55294c713c6446143da46db56505a6cd9ec64a01c1a9015fe0b687c82d508d3f", func := "feathermark/plumekeep.WorthRound", spec := "worthRound", unfollowed := true, recurses := true, apart := false }
def WorthRoundSaid : Prop := worthRoundRow.holds Try.pinned (OpenSpec.ofChange worthRoundSpec)

/-- ITS FALSE NEIGHBOUR: 'it returns false'. Refute it at one input. -/
def worthRoundWrong : ChangeSpec := { name := "worthRound", fn := fun _ => fun
  | [d1, d2, d3, d4] => { results := [.lit (.bool false)], args := [d1, d2, d3, d4] }
  | _ => none }
def WorthRoundWrongFalsely : Prop := worthRoundRow.holds Try.pinned (OpenSpec.ofChange worthRoundWrong)

/- THE SECOND FORM. 'bulk': how many values and letters a reading holds, each counted each time it is reached (what is shared counts as often as it is met; a slice's spare places count too). A statement '..UptoSaid' is the law's where the arguments, and the package variables that the reading takes, are together of bulk at most 1048576: NARROWER than '..Said'. Prove '..Said' where nothing that the law and all that it calls make is longer than what came in: it says more and counts as full. Else prove '..UptoSaid'. A law counts once. -/
mutual
def uptoBulk {H : Type} : DataW H → Nat
  | .lit (.string bytes) => bytes.length + 1
  | .lit _ => 1
  | .nil => 1
  | .ptr d => uptoBulk d + 1
  | .slice elems spare => uptoBulkAll elems + uptoBulkAll spare + 1
  | .agg parts => uptoBulkAll parts + 1
  | .iface _ d => uptoBulk d + 1
  | .map entries => uptoBulkEntries entries + 1
  | .held _ => 1
def uptoBulkAll {H : Type} : List (DataW H) → Nat
  | [] => 0
  | d :: r => uptoBulk d + uptoBulkAll r
def uptoBulkEntries {H : Type} : List (Lit × DataW H) → Nat
  | [] => 0
  | x :: r => uptoBulkEntry x + uptoBulkEntries r
def uptoBulkEntry {H : Type} : Lit × DataW H → Nat
  | (.string bytes, d) => bytes.length + uptoBulk d + 1
  | (_, d) => uptoBulk d + 1
 end
def uptoSmall : (H : Type) → List (DataW H) → Bool := fun _ ds => decide (uptoBulkAll ds ≤ 1048576)
def OpenSpec.upto (s : _root_.Go.ChangeSpec) : _root_.Go.OpenSpec := { _root_.Go.OpenSpec.ofChange s with cond := some uptoSmall }

/-- 'plumekeep.WorthWhole', WHERE WHAT IT READS IS OF BULK AT MOST 1048576: true; the input reads as it did. -/
def worthWholeUptoRow : OpenClaim := { program := "ytlglnacpabmjnaa", sum := "55294c713c6446143da46db56505a6cd9ec64a01c1a9015fe0b687c82d508d3f", func := "feathermark/plumekeep.WorthWhole", spec := "worthWhole", unfollowed := true, recurses := true, apart := false, narrowed := true }
def WorthWholeUptoSaid : Prop := worthWholeUptoRow.holds Try.pinned (OpenSpec.upto worthWholeSpec)

/-- 'plumekeep.WorthDual', WHERE WHAT IT READS IS OF BULK AT MOST 1048576: true; the input reads as it did. -/
def worthDualUptoRow : OpenClaim := { program := "ytlglnacpabmjnaa", sum := "55294c713c6446143da46db56505a6cd9ec64a01c1a9015fe0b687c82d508d3f", func := "feathermark/plumekeep.WorthDual", spec := "worthDual", unfollowed := true, recurses := true, apart := false, narrowed := true }
def WorthDualUptoSaid : Prop := worthDualUptoRow.holds Try.pinned (OpenSpec.upto worthDualSpec)

/-- 'plumekeep.WorthAlike', WHERE WHAT IT READS IS OF BULK AT MOST 1048576: true; the input reads as it did. -/
def worthAlikeUptoRow : OpenClaim := { program := "ytlglnacpabmjnaa", sum := "55294c713c6446143da46db56505a6cd9ec64a01c1a9015fe0b687c82d508d3f", func := "feathermark/plumekeep.WorthAlike", spec := "worthAlike", unfollowed := true, recurses := true, apart := false, narrowed := true }
def WorthAlikeUptoSaid : Prop := worthAlikeUptoRow.holds Try.pinned (OpenSpec.upto worthAlikeSpec)

/-- 'plumekeep.PowerTurns', WHERE WHAT IT READS IS OF BULK AT MOST 1048576: true; the input reads as it did. -/
def powerTurnsUptoRow : OpenClaim := { program := "ytlglnacpabmjnaa", sum := "55294c713c6446143da46db56505a6cd9ec64a01c1a9015fe0b687c82d508d3f", func := "feathermark/plumekeep.PowerTurns", spec := "powerTurns", unfollowed := true, recurses := true, apart := false, narrowed := true }
def PowerTurnsUptoSaid : Prop := powerTurnsUptoRow.holds Try.pinned (OpenSpec.upto powerTurnsSpec)

/-- 'plumekeep.PowerDual', WHERE WHAT IT READS IS OF BULK AT MOST 1048576: true; the input reads as it did. -/
def powerDualUptoRow : OpenClaim := { program := "ytlglnacpabmjnaa", sum := "55294c713c6446143da46db56505a6cd9ec64a01c1a9015fe0b687c82d508d3f", func := "feathermark/plumekeep.PowerDual", spec := "powerDual", unfollowed := true, recurses := true, apart := false, narrowed := true }
def PowerDualUptoSaid : Prop := powerDualUptoRow.holds Try.pinned (OpenSpec.upto powerDualSpec)

/-- 'plumekeep.WorthHolds', WHERE WHAT IT READS IS OF BULK AT MOST 1048576: true; the input reads as it did. -/
def worthHoldsUptoRow : OpenClaim := { program := "ytlglnacpabmjnaa", sum := "55294c713c6446143da46db56505a6cd9ec64a01c1a9015fe0b687c82d508d3f", func := "feathermark/plumekeep.WorthHolds", spec := "worthHolds", unfollowed := true, recurses := true, apart := false, narrowed := true }
def WorthHoldsUptoSaid : Prop := worthHoldsUptoRow.holds Try.pinned (OpenSpec.upto worthHoldsSpec)

/-- 'plumekeep.PowerSwings', WHERE WHAT IT READS IS OF BULK AT MOST 1048576: true; the input reads as it did. -/
def powerSwingsUptoRow : OpenClaim := { program := "ytlglnacpabmjnaa", sum := "55294c713c6446143da46db56505a6cd9ec64a01c1a9015fe0b687c82d508d3f", func := "feathermark/plumekeep.PowerSwings", spec := "powerSwings", unfollowed := true, recurses := true, apart := false, narrowed := true }
def PowerSwingsUptoSaid : Prop := powerSwingsUptoRow.holds Try.pinned (OpenSpec.upto powerSwingsSpec)

/-- 'plumekeep.PowerVeto', WHERE WHAT IT READS IS OF BULK AT MOST 1048576: true; the input reads as it did. -/
def powerVetoUptoRow : OpenClaim := { program := "ytlglnacpabmjnaa", sum := "55294c713c6446143da46db56505a6cd9ec64a01c1a9015fe0b687c82d508d3f", func := "feathermark/plumekeep.PowerVeto", spec := "powerVeto", unfollowed := true, recurses := true, apart := false, narrowed := true }
def PowerVetoUptoSaid : Prop := powerVetoUptoRow.holds Try.pinned (OpenSpec.upto powerVetoSpec)

/-- 'plumekeep.PowerScaled', WHERE WHAT IT READS IS OF BULK AT MOST 1048576: true; the input reads as it did. -/
def powerScaledUptoRow : OpenClaim := { program := "ytlglnacpabmjnaa", sum := "55294c713c6446143da46db56505a6cd9ec64a01c1a9015fe0b687c82d508d3f", func := "feathermark/plumekeep.PowerScaled", spec := "powerScaled", unfollowed := true, recurses := true, apart := false, narrowed := true }
def PowerScaledUptoSaid : Prop := powerScaledUptoRow.holds Try.pinned (OpenSpec.upto powerScaledSpec)

/-- 'plumekeep.WorthRows', WHERE WHAT IT READS IS OF BULK AT MOST 1048576: true; the input reads as it did. -/
def worthRowsUptoRow : OpenClaim := { program := "ytlglnacpabmjnaa", sum := "55294c713c6446143da46db56505a6cd9ec64a01c1a9015fe0b687c82d508d3f", func := "feathermark/plumekeep.WorthRows", spec := "worthRows", unfollowed := true, recurses := true, apart := false, narrowed := true }
def WorthRowsUptoSaid : Prop := worthRowsUptoRow.holds Try.pinned (OpenSpec.upto worthRowsSpec)

/-- 'plumekeep.WorthRound', WHERE WHAT IT READS IS OF BULK AT MOST 1048576: true; the input reads as it did. -/
def worthRoundUptoRow : OpenClaim := { program := "ytlglnacpabmjnaa", sum := "55294c713c6446143da46db56505a6cd9ec64a01c1a9015fe0b687c82d508d3f", func := "feathermark/plumekeep.WorthRound", spec := "worthRound", unfollowed := true, recurses := true, apart := false, narrowed := true }
def WorthRoundUptoSaid : Prop := worthRoundUptoRow.holds Try.pinned (OpenSpec.upto worthRoundSpec)

end Rows
end Go.Proofs.Ytlglnacpabmjnaa
