/-
  No cell of these rows narrows 'for every input' (looked for: loops, veiled, ifaces, maps, wideKeys, modest, calm, conditions, laid).
  DERIVED. THE GIVEN ROWS OF THIS SEAT. 12 by the template 'for every input the law returns true; each argument reads behind the call as it read before'; 0 by the template 'total and deterministic' (their statements: YtpnibpjhiofplaaTotals.lean).
  GIVEN WITH THE SEED: the statements are not yours to turn. If you find one false, say at which input.
  Laid BY PROGRAM, IN A SANDBOX (cutbox-rows.mjs): the forced cells as the released guide's own fill.sh prints them over the translation 1699f11b2c8e12d6… (all of the seat's roots in one cut). By AI agents, Wed Nov 11 2026. No macro, syntax, notation, axiom, sorry.
-/
import Derived.Test.YtpnibpjhiofplaaChecked
import GoSem.Claim
import GoSem.ClaimJoined
import GoSem.ClaimMapViews
import Derived.JoinedTies
import Derived.KernelRfl
namespace Go.Proofs.Ytpnibpjhiofplaa
/- THE CELL 'sum', in the pinned program and in every row, IS THE sha256 OF THE DUMP (.gsa) THAT YtpnibpjhiofplaaProg.lean LOADS. Nothing in Lean hashes anything: it is a label: what it is worth is what the hold of that sum in a sandbox is worth. -/
noncomputable def Try.pinned : Pinned := { name := "ytpnibpjhiofplaa", sum := "1699f11b2c8e12d68096c891a551e628293a55abc4f3a13932de360c44385f2a", checked := Try.checked }
namespace Rows
def none {H : Type} : Left H := { results := [], args := [] }

/-- 'plumekeep.PeakMany': WHATEVER THE INPUT: true; the input reads as it did. -/
def peakManySpec : ChangeSpec := { name := "peakMany", fn := fun _ => fun
  | [d1, d2, d3] => { results := [.lit (.bool true)], args := [d1, d2, d3] }
  | _ => none }
def peakManyRow : OpenClaim := { program := "ytpnibpjhiofplaa", sum := "1699f11b2c8e12d68096c891a551e628293a55abc4f3a13932de360c44385f2a", func := "feathermark/plumekeep.PeakMany", spec := "peakMany", unfollowed := true, recurses := true, apart := false }
def PeakManySaid : Prop := peakManyRow.holds Try.pinned (OpenSpec.ofChange peakManySpec)

/-- ITS FALSE NEIGHBOUR: 'it returns false'. Refute it at one input. -/
def peakManyWrong : ChangeSpec := { name := "peakMany", fn := fun _ => fun
  | [d1, d2, d3] => { results := [.lit (.bool false)], args := [d1, d2, d3] }
  | _ => none }
def PeakManyWrongFalsely : Prop := peakManyRow.holds Try.pinned (OpenSpec.ofChange peakManyWrong)

/-- 'plumekeep.PeakOrder': WHATEVER THE INPUT: true; the input reads as it did. -/
def peakOrderSpec : ChangeSpec := { name := "peakOrder", fn := fun _ => fun
  | [d1, d2, d3] => { results := [.lit (.bool true)], args := [d1, d2, d3] }
  | _ => none }
def peakOrderRow : OpenClaim := { program := "ytpnibpjhiofplaa", sum := "1699f11b2c8e12d68096c891a551e628293a55abc4f3a13932de360c44385f2a", func := "feathermark/plumekeep.PeakOrder", spec := "peakOrder", unfollowed := true, recurses := true, apart := false }
def PeakOrderSaid : Prop := peakOrderRow.holds Try.pinned (OpenSpec.ofChange peakOrderSpec)

/-- ITS FALSE NEIGHBOUR: 'it returns false'. Refute it at one input. -/
def peakOrderWrong : ChangeSpec := { name := "peakOrder", fn := fun _ => fun
  | [d1, d2, d3] => { results := [.lit (.bool false)], args := [d1, d2, d3] }
  | _ => none }
def PeakOrderWrongFalsely : Prop := peakOrderRow.holds Try.pinned (OpenSpec.ofChange peakOrderWrong)

/-- 'plumekeep.MiddleTurned': WHATEVER THE INPUT: true; the input reads as it did. -/
def middleTurnedSpec : ChangeSpec := { name := "middleTurned", fn := fun _ => fun
  | [d1, d2, d3] => { results := [.lit (.bool true)], args := [d1, d2, d3] }
  | _ => none }
def middleTurnedRow : OpenClaim := { program := "ytpnibpjhiofplaa", sum := "1699f11b2c8e12d68096c891a551e628293a55abc4f3a13932de360c44385f2a", func := "feathermark/plumekeep.MiddleTurned", spec := "middleTurned", unfollowed := true, recurses := true, apart := false }
def MiddleTurnedSaid : Prop := middleTurnedRow.holds Try.pinned (OpenSpec.ofChange middleTurnedSpec)

/-- ITS FALSE NEIGHBOUR: 'it returns false'. Refute it at one input. -/
def middleTurnedWrong : ChangeSpec := { name := "middleTurned", fn := fun _ => fun
  | [d1, d2, d3] => { results := [.lit (.bool false)], args := [d1, d2, d3] }
  | _ => none }
def MiddleTurnedWrongFalsely : Prop := middleTurnedRow.holds Try.pinned (OpenSpec.ofChange middleTurnedWrong)

/-- 'plumekeep.MiddleLeast': WHATEVER THE INPUT: true; the input reads as it did. -/
def middleLeastSpec : ChangeSpec := { name := "middleLeast", fn := fun _ => fun
  | [d1, d2, d3] => { results := [.lit (.bool true)], args := [d1, d2, d3] }
  | _ => none }
def middleLeastRow : OpenClaim := { program := "ytpnibpjhiofplaa", sum := "1699f11b2c8e12d68096c891a551e628293a55abc4f3a13932de360c44385f2a", func := "feathermark/plumekeep.MiddleLeast", spec := "middleLeast", unfollowed := true, recurses := true, apart := false }
def MiddleLeastSaid : Prop := middleLeastRow.holds Try.pinned (OpenSpec.ofChange middleLeastSpec)

/-- ITS FALSE NEIGHBOUR: 'it returns false'. Refute it at one input. -/
def middleLeastWrong : ChangeSpec := { name := "middleLeast", fn := fun _ => fun
  | [d1, d2, d3] => { results := [.lit (.bool false)], args := [d1, d2, d3] }
  | _ => none }
def MiddleLeastWrongFalsely : Prop := middleLeastRow.holds Try.pinned (OpenSpec.ofChange middleLeastWrong)

/-- 'plumekeep.MiddleTop': WHATEVER THE INPUT: true; the input reads as it did. -/
def middleTopSpec : ChangeSpec := { name := "middleTop", fn := fun _ => fun
  | [d1, d2] => { results := [.lit (.bool true)], args := [d1, d2] }
  | _ => none }
def middleTopRow : OpenClaim := { program := "ytpnibpjhiofplaa", sum := "1699f11b2c8e12d68096c891a551e628293a55abc4f3a13932de360c44385f2a", func := "feathermark/plumekeep.MiddleTop", spec := "middleTop", unfollowed := true, recurses := true, apart := false }
def MiddleTopSaid : Prop := middleTopRow.holds Try.pinned (OpenSpec.ofChange middleTopSpec)

/-- ITS FALSE NEIGHBOUR: 'it returns false'. Refute it at one input. -/
def middleTopWrong : ChangeSpec := { name := "middleTop", fn := fun _ => fun
  | [d1, d2] => { results := [.lit (.bool false)], args := [d1, d2] }
  | _ => none }
def MiddleTopWrongFalsely : Prop := middleTopRow.holds Try.pinned (OpenSpec.ofChange middleTopWrong)

/-- 'plumekeep.RulesMay': WHATEVER THE INPUT: true; the input reads as it did. -/
def rulesMaySpec : ChangeSpec := { name := "rulesMay", fn := fun _ => fun
  | [d1, d2] => { results := [.lit (.bool true)], args := [d1, d2] }
  | _ => none }
def rulesMayRow : OpenClaim := { program := "ytpnibpjhiofplaa", sum := "1699f11b2c8e12d68096c891a551e628293a55abc4f3a13932de360c44385f2a", func := "feathermark/plumekeep.RulesMay", spec := "rulesMay", unfollowed := true, recurses := true, apart := false }
def RulesMaySaid : Prop := rulesMayRow.holds Try.pinned (OpenSpec.ofChange rulesMaySpec)

/-- ITS FALSE NEIGHBOUR: 'it returns false'. Refute it at one input. -/
def rulesMayWrong : ChangeSpec := { name := "rulesMay", fn := fun _ => fun
  | [d1, d2] => { results := [.lit (.bool false)], args := [d1, d2] }
  | _ => none }
def RulesMayWrongFalsely : Prop := rulesMayRow.holds Try.pinned (OpenSpec.ofChange rulesMayWrong)

/-- 'plumekeep.RulesMost': WHATEVER THE INPUT: true; the input reads as it did. -/
def rulesMostSpec : ChangeSpec := { name := "rulesMost", fn := fun _ => fun
  | [d1, d2, d3] => { results := [.lit (.bool true)], args := [d1, d2, d3] }
  | _ => none }
def rulesMostRow : OpenClaim := { program := "ytpnibpjhiofplaa", sum := "1699f11b2c8e12d68096c891a551e628293a55abc4f3a13932de360c44385f2a", func := "feathermark/plumekeep.RulesMost", spec := "rulesMost", unfollowed := true, recurses := true, apart := false }
def RulesMostSaid : Prop := rulesMostRow.holds Try.pinned (OpenSpec.ofChange rulesMostSpec)

/-- ITS FALSE NEIGHBOUR: 'it returns false'. Refute it at one input. -/
def rulesMostWrong : ChangeSpec := { name := "rulesMost", fn := fun _ => fun
  | [d1, d2, d3] => { results := [.lit (.bool false)], args := [d1, d2, d3] }
  | _ => none }
def RulesMostWrongFalsely : Prop := rulesMostRow.holds Try.pinned (OpenSpec.ofChange rulesMostWrong)

/-- 'plumekeep.RulesNames': WHATEVER THE INPUT: true; the input reads as it did. -/
def rulesNamesSpec : ChangeSpec := { name := "rulesNames", fn := fun _ => fun
  | [d1, d2, d3, d4] => { results := [.lit (.bool true)], args := [d1, d2, d3, d4] }
  | _ => none }
def rulesNamesRow : OpenClaim := { program := "ytpnibpjhiofplaa", sum := "1699f11b2c8e12d68096c891a551e628293a55abc4f3a13932de360c44385f2a", func := "feathermark/plumekeep.RulesNames", spec := "rulesNames", unfollowed := true, recurses := true, apart := false }
def RulesNamesSaid : Prop := rulesNamesRow.holds Try.pinned (OpenSpec.ofChange rulesNamesSpec)

/-- ITS FALSE NEIGHBOUR: 'it returns false'. Refute it at one input. -/
def rulesNamesWrong : ChangeSpec := { name := "rulesNames", fn := fun _ => fun
  | [d1, d2, d3, d4] => { results := [.lit (.bool false)], args := [d1, d2, d3, d4] }
  | _ => none }
def RulesNamesWrongFalsely : Prop := rulesNamesRow.holds Try.pinned (OpenSpec.ofChange rulesNamesWrong)

/-- 'plumekeep.RulesBeater': WHATEVER THE INPUT: true; the input reads as it did. -/
def rulesBeaterSpec : ChangeSpec := { name := "rulesBeater", fn := fun _ => fun
  | [d1, d2] => { results := [.lit (.bool true)], args := [d1, d2] }
  | _ => none }
def rulesBeaterRow : OpenClaim := { program := "ytpnibpjhiofplaa", sum := "1699f11b2c8e12d68096c891a551e628293a55abc4f3a13932de360c44385f2a", func := "feathermark/plumekeep.RulesBeater", spec := "rulesBeater", unfollowed := true, recurses := true, apart := false }
def RulesBeaterSaid : Prop := rulesBeaterRow.holds Try.pinned (OpenSpec.ofChange rulesBeaterSpec)

/-- ITS FALSE NEIGHBOUR: 'it returns false'. Refute it at one input. -/
def rulesBeaterWrong : ChangeSpec := { name := "rulesBeater", fn := fun _ => fun
  | [d1, d2] => { results := [.lit (.bool false)], args := [d1, d2] }
  | _ => none }
def RulesBeaterWrongFalsely : Prop := rulesBeaterRow.holds Try.pinned (OpenSpec.ofChange rulesBeaterWrong)

/-- 'plumekeep.RulesRaise': WHATEVER THE INPUT: true; the input reads as it did. -/
def rulesRaiseSpec : ChangeSpec := { name := "rulesRaise", fn := fun _ => fun
  | [d1, d2, d3, d4] => { results := [.lit (.bool true)], args := [d1, d2, d3, d4] }
  | _ => none }
def rulesRaiseRow : OpenClaim := { program := "ytpnibpjhiofplaa", sum := "1699f11b2c8e12d68096c891a551e628293a55abc4f3a13932de360c44385f2a", func := "feathermark/plumekeep.RulesRaise", spec := "rulesRaise", unfollowed := true, recurses := true, apart := false }
def RulesRaiseSaid : Prop := rulesRaiseRow.holds Try.pinned (OpenSpec.ofChange rulesRaiseSpec)

/-- ITS FALSE NEIGHBOUR: 'it returns false'. Refute it at one input. -/
def rulesRaiseWrong : ChangeSpec := { name := "rulesRaise", fn := fun _ => fun
  | [d1, d2, d3, d4] => { results := [.lit (.bool false)], args := [d1, d2, d3, d4] }
  | _ => none }
def RulesRaiseWrongFalsely : Prop := rulesRaiseRow.holds Try.pinned (OpenSpec.ofChange rulesRaiseWrong)

/-- 'plumekeep.RulesLoser': WHATEVER THE INPUT: true; the input reads as it did. -/
def rulesLoserSpec : ChangeSpec := { name := "rulesLoser", fn := fun _ => fun
  | [d1, d2] => { results := [.lit (.bool true)], args := [d1, d2] }
  | _ => none }
def rulesLoserRow : OpenClaim := { program := "ytpnibpjhiofplaa", sum := "1699f11b2c8e12d68096c891a551e628293a55abc4f3a13932de360c44385f2a", func := "feathermark/plumekeep.RulesLoser", spec := "rulesLoser", unfollowed := true, recurses := true, apart := false }
def RulesLoserSaid : Prop := rulesLoserRow.holds Try.pinned (OpenSpec.ofChange rulesLoserSpec)

/-- ITS FALSE NEIGHBOUR: 'it returns false'. Refute it at one input. -/
def rulesLoserWrong : ChangeSpec := { name := "rulesLoser", fn := fun _ => fun
  | [d1, d2] => { results := [.lit (.bool false)], args := [d1, d2] }
  | _ => none }
def RulesLoserWrongFalsely : Prop := rulesLoserRow.holds Try.pinned (OpenSpec.ofChange rulesLoserWrong)

/-- 'plumekeep.PeakBlack': WHATEVER THE INPUT: true; the input reads as it did. -/
def peakBlackSpec : ChangeSpec := { name := "peakBlack", fn := fun _ => fun
  | [d1, d2, d3] => { results := [.lit (.bool true)], args := [d1, d2, d3] }
  | _ => none }
def peakBlackRow : OpenClaim := { program := "ytpnibpjhiofplaa", sum := "1699f11b2c8e12d68096c891a551e628293a55abc4f3a13932de360c44385f2a", func := "feathermark/plumekeep.PeakBlack", spec := "peakBlack", unfollowed := true, recurses := true, apart := false }
def PeakBlackSaid : Prop := peakBlackRow.holds Try.pinned (OpenSpec.ofChange peakBlackSpec)

/-- ITS FALSE NEIGHBOUR: 'it returns false'. Refute it at one input. -/
def peakBlackWrong : ChangeSpec := { name := "peakBlack", fn := fun _ => fun
  | [d1, d2, d3] => { results := [.lit (.bool false)], args := [d1, d2, d3] }
  | _ => none }
def PeakBlackWrongFalsely : Prop := peakBlackRow.holds Try.pinned (OpenSpec.ofChange peakBlackWrong)

/- THE SECOND FORM. 'bulk': how many values and letters a reading holds, each counted each time it is reached (what is shared counts as often as it is met; a slice's spare places count too). A statement '..UptoSaid' is the law's where the arguments, and the package variables that the reading takes, are together of bulk at most 1048576: NARROWER than '..Said'. Prove '..Said' where nothing that the law and all that it calls make is longer than what came in: it says more and counts as full. Else prove '..UptoSaid'. A law counts once. -/
mutual
def uptoBulk {H : Type} : DataW H → Nat
  | .lit (.string bytes) => bytes.length + 1
  | .lit _ => 1
  | .nil => 1
  | .ptr d => uptoBulk d + 1
  | .slice elems spare => uptoBulkAll elems + uptoBulkAll spare + 1
  | .agg parts => uptoBulkAll parts + 1
  | .iface _ d => uptoBulk d + 1
  | .map entries => uptoBulkEntries entries + 1
  | .held _ => 1
def uptoBulkAll {H : Type} : List (DataW H) → Nat
  | [] => 0
  | d :: r => uptoBulk d + uptoBulkAll r
def uptoBulkEntries {H : Type} : List (Lit × DataW H) → Nat
  | [] => 0
  | x :: r => uptoBulkEntry x + uptoBulkEntries r
def uptoBulkEntry {H : Type} : Lit × DataW H → Nat
  | (.string bytes, d) => bytes.length + uptoBulk d + 1
  | (_, d) => uptoBulk d + 1
 end
def uptoSmall : (H : Type) → List (DataW H) → Bool := fun _ ds => decide (uptoBulkAll ds ≤ 1048576)
def OpenSpec.upto (s : _root_.Go.ChangeSpec) : _root_.Go.OpenSpec := { _root_.Go.OpenSpec.ofChange s with cond := some uptoSmall }

/-- 'plumekeep.PeakMany', WHERE WHAT IT READS IS OF BULK AT MOST 1048576: true; the input reads as it did. -/
def peakManyUptoRow : OpenClaim := { program := "ytpnibpjhiofplaa", sum := "1699f11b2c8e12d68096c891a551e628293a55abc4f3a13932de360c44385f2a", func := "feathermark/plumekeep.PeakMany", spec := "peakMany", unfollowed := true, recurses := true, apart := false, narrowed := true }
def PeakManyUptoSaid : Prop := peakManyUptoRow.holds Try.pinned (OpenSpec.upto peakManySpec)

/-- 'plumekeep.PeakOrder', WHERE WHAT IT READS IS OF BULK AT MOST 1048576: true; the input reads as it did. -/
def peakOrderUptoRow : OpenClaim := { program := "ytpnibpjhiofplaa", sum := "1699f11b2c8e12d68096c891a551e628293a55abc4f3a13932de360c44385f2a", func := "feathermark/plumekeep.PeakOrder", spec := "peakOrder", unfollowed := true, recurses := true, apart := false, narrowed := true }
def PeakOrderUptoSaid : Prop := peakOrderUptoRow.holds Try.pinned (OpenSpec.upto peakOrderSpec)

/-- 'plumekeep.MiddleTurned', WHERE WHAT IT READS IS OF BULK AT MOST 1048576: true; the input reads as it did. -/
def middleTurnedUptoRow : OpenClaim := { program := "ytpnibpjhiofplaa", sum := "1699f11b2c8e12d68096c891a551e628293a55abc4f3a13932de360c44385f2a", func := "feathermark/plumekeep.MiddleTurned", spec := "middleTurned", unfollowed := true, recurses := true, apart := false, narrowed := true }
def MiddleTurnedUptoSaid : Prop := middleTurnedUptoRow.holds Try.pinned (OpenSpec.upto middleTurnedSpec)

/-- 'plumekeep.MiddleLeast', WHERE WHAT IT READS IS OF BULK AT MOST 1048576: true; the input reads as it did. -/
def middleLeastUptoRow : OpenClaim := { program := "ytpnibpjhiofplaa", sum := "1699f11b2c8e12d68096c891a551e628293a55abc4f3a13932de360c44385f2a", func := "feathermark/plumekeep.MiddleLeast", spec := "middleLeast", unfollowed := true, recurses := true, apart := false, narrowed := true }
def MiddleLeastUptoSaid : Prop := middleLeastUptoRow.holds Try.pinned (OpenSpec.upto middleLeastSpec)

/-- 'plumekeep.MiddleTop', WHERE WHAT IT READS IS OF BULK AT MOST 1048576: true; the input reads as it did. -/
def middleTopUptoRow : OpenClaim := { program := "ytpnibpjhiofplaa", sum := "1699f11b2c8e12d68096c891a551e628293a55abc4f3a13932de360c44385f2a", func := "feathermark/plumekeep.MiddleTop", spec := "middleTop", unfollowed := true, recurses := true, apart := false, narrowed := true }
def MiddleTopUptoSaid : Prop := middleTopUptoRow.holds Try.pinned (OpenSpec.upto middleTopSpec)

/-- 'plumekeep.RulesMay', WHERE WHAT IT READS IS OF BULK AT MOST 1048576: true; the input reads as it did. -/
def rulesMayUptoRow : OpenClaim := { program := "ytpnibpjhiofplaa", sum := "1699f11b2c8e12d68096c891a551e628293a55abc4f3a13932de360c44385f2a", func := "feathermark/plumekeep.RulesMay", spec := "rulesMay", unfollowed := true, recurses := true, apart := false, narrowed := true }
def RulesMayUptoSaid : Prop := rulesMayUptoRow.holds Try.pinned (OpenSpec.upto rulesMaySpec)

/-- 'plumekeep.RulesMost', WHERE WHAT IT READS IS OF BULK AT MOST 1048576: true; the input reads as it did. -/
def rulesMostUptoRow : OpenClaim := { program := "ytpnibpjhiofplaa", sum := "1699f11b2c8e12d68096c891a551e628293a55abc4f3a13932de360c44385f2a", func := "feathermark/plumekeep.RulesMost", spec := "rulesMost", unfollowed := true, recurses := true, apart := false, narrowed := true }
def RulesMostUptoSaid : Prop := rulesMostUptoRow.holds Try.pinned (OpenSpec.upto rulesMostSpec)

/-- 'plumekeep.RulesNames', WHERE WHAT IT READS IS OF BULK AT MOST 1048576: true; the input reads as it did. -/
def rulesNamesUptoRow : OpenClaim := { program := "ytpnibpjhiofplaa", sum := "1699f11b2c8e12d68096c891a551e628293a55abc4f3a13932de360c44385f2a", func := "feathermark/plumekeep.RulesNames", spec := "rulesNames", unfollowed := true, recurses := true, apart := false, narrowed := true }
def RulesNamesUptoSaid : Prop := rulesNamesUptoRow.holds Try.pinned (OpenSpec.upto rulesNamesSpec)

/-- 'plumekeep.RulesBeater', WHERE WHAT IT READS IS OF BULK AT MOST 1048576: true; the input reads as it did. -/
def rulesBeaterUptoRow : OpenClaim := { program := "ytpnibpjhiofplaa", sum := "1699f11b2c8e12d68096c891a551e628293a55abc4f3a13932de360c44385f2a", func := "feathermark/plumekeep.RulesBeater", spec := "rulesBeater", unfollowed := true, recurses := true, apart := false, narrowed := true }
def RulesBeaterUptoSaid : Prop := rulesBeaterUptoRow.holds Try.pinned (OpenSpec.upto rulesBeaterSpec)

/-- 'plumekeep.RulesRaise', WHERE WHAT IT READS IS OF BULK AT MOST 1048576: true; the input reads as it did. -/
def rulesRaiseUptoRow : OpenClaim := { program := "ytpnibpjhiofplaa", sum := "1699f11b2c8e12d68096c891a551e628293a55abc4f3a13932de360c44385f2a", func := "feathermark/plumekeep.RulesRaise", spec := "rulesRaise", unfollowed := true, recurses := true, apart := false, narrowed := true }
def RulesRaiseUptoSaid : Prop := rulesRaiseUptoRow.holds Try.pinned (OpenSpec.upto rulesRaiseSpec)

/-- 'plumekeep.RulesLoser', WHERE WHAT IT READS IS OF BULK AT MOST 1048576: true; the input reads as it did. -/
def rulesLoserUptoRow : OpenClaim := { program := "ytpnibpjhiofplaa", sum := "1699f11b2c8e12d68096c891a551e628293a55abc4f3a13932de360c44385f2a", func := "feathermark/plumekeep.RulesLoser", spec := "rulesLoser", unfollowed := true, recurses := true, apart := false, narrowed := true }
def RulesLoserUptoSaid : Prop := rulesLoserUptoRow.holds Try.pinned (OpenSpec.upto rulesLoserSpec)

/-- 'plumekeep.PeakBlack', WHERE WHAT IT READS IS OF BULK AT MOST 1048576: true; the input reads as it did. -/
def peakBlackUptoRow : OpenClaim := { program := "ytpnibpjhiofplaa", sum := "1699f11b2c8e12d68096c891a551e628293a55abc4f3a13932de360c44385f2a", func := "feathermark/plumekeep.PeakBlack", spec := "peakBlack", unfollowed := true, recurses := true, apart := false, narrowed := true }
def PeakBlackUptoSaid : Prop := peakBlackUptoRow.holds Try.pinned (OpenSpec.upto peakBlackSpec)

end Rows
end Go.Proofs.Ytpnibpjhiofplaa
