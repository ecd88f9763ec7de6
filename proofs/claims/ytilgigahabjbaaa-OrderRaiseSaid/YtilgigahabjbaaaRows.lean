/-
  No cell of these rows narrows 'for every input' (looked for: loops, veiled, ifaces, maps, wideKeys, modest, calm, conditions, laid).
  DERIVED. THE GIVEN ROWS OF THIS SEAT. 10 by the template 'for every input the law returns true; each argument reads behind the call as it read before'; 0 by the template 'total and deterministic' (their statements: YtilgigahabjbaaaTotals.lean).
  GIVEN WITH THE SEED: the statements are not yours to turn. If you find one false, say at which input.
  Laid BY PROGRAM, IN A SANDBOX (cutbox-rows.mjs): the forced cells as the released guide's own fill.sh prints them over the translation 329e14d1ee276cec… (all of the seat's roots in one cut). By AI agents, Wed Nov 11 2026. No macro, syntax, notation, axiom, sorry.
-/
import Derived.Test.YtilgigahabjbaaaChecked
import GoSem.Claim
import GoSem.ClaimJoined
import GoSem.ClaimMapViews
import Derived.JoinedTies
import Derived.KernelRfl
namespace Go.Proofs.Ytilgigahabjbaaa
/- THE CELL 'sum', in the pinned program and in every row, IS THE sha256 OF THE DUMP (.gsa) THAT YtilgigahabjbaaaProg.lean LOADS. Nothing in Lean hashes anything: it is a label: what it is worth is what the hold of that sum in a sandbox is worth. -/
noncomputable def Try.pinned : Pinned := { name := "ytilgigahabjbaaa", sum := "329e14d1ee276cec17642e9fdafc1bc93c70c8b72a406a9dcb7b239a9a87eb37", checked := Try.checked }
namespace Rows
def none {H : Type} : Left H := { results := [], args := [] }

/-- 'plumekeep.OrderFar': WHATEVER THE INPUT: true; the input reads as it did. -/
def orderFarSpec : ChangeSpec := { name := "orderFar", fn := fun _ => fun
  | [d1, d2, d3, d4] => { results := [.lit (.bool true)], args := [d1, d2, d3, d4] }
  | _ => none }
def orderFarRow : OpenClaim := { program := "ytilgigahabjbaaa", sum := "329e14d1ee276cec17642e9fdafc1bc93c70c8b72a406a9dcb7b239a9a87eb37", func := "feathermark/plumekeep.OrderFar", spec := "orderFar", unfollowed := true, recurses := true, apart := false }
def OrderFarSaid : Prop := orderFarRow.holds Try.pinned (OpenSpec.ofChange orderFarSpec)

/-- ITS FALSE NEIGHBOUR: 'it returns false'. Refute it at one input. -/
def orderFarWrong : ChangeSpec := { name := "orderFar", fn := fun _ => fun
  | [d1, d2, d3, d4] => { results := [.lit (.bool false)], args := [d1, d2, d3, d4] }
  | _ => none }
def OrderFarWrongFalsely : Prop := orderFarRow.holds Try.pinned (OpenSpec.ofChange orderFarWrong)

/-- 'plumekeep.SeatsHouse': WHATEVER THE INPUT: true; the input reads as it did. -/
def seatsHouseSpec : ChangeSpec := { name := "seatsHouse", fn := fun _ => fun
  | [d1, d2, d3] => { results := [.lit (.bool true)], args := [d1, d2, d3] }
  | _ => none }
def seatsHouseRow : OpenClaim := { program := "ytilgigahabjbaaa", sum := "329e14d1ee276cec17642e9fdafc1bc93c70c8b72a406a9dcb7b239a9a87eb37", func := "feathermark/plumekeep.SeatsHouse", spec := "seatsHouse", unfollowed := true, recurses := true, apart := false }
def SeatsHouseSaid : Prop := seatsHouseRow.holds Try.pinned (OpenSpec.ofChange seatsHouseSpec)

/-- ITS FALSE NEIGHBOUR: 'it returns false'. Refute it at one input. -/
def seatsHouseWrong : ChangeSpec := { name := "seatsHouse", fn := fun _ => fun
  | [d1, d2, d3] => { results := [.lit (.bool false)], args := [d1, d2, d3] }
  | _ => none }
def SeatsHouseWrongFalsely : Prop := seatsHouseRow.holds Try.pinned (OpenSpec.ofChange seatsHouseWrong)

/-- 'plumekeep.SeatsQuota': WHATEVER THE INPUT: true; the input reads as it did. -/
def seatsQuotaSpec : ChangeSpec := { name := "seatsQuota", fn := fun _ => fun
  | [d1, d2] => { results := [.lit (.bool true)], args := [d1, d2] }
  | _ => none }
def seatsQuotaRow : OpenClaim := { program := "ytilgigahabjbaaa", sum := "329e14d1ee276cec17642e9fdafc1bc93c70c8b72a406a9dcb7b239a9a87eb37", func := "feathermark/plumekeep.SeatsQuota", spec := "seatsQuota", unfollowed := true, recurses := true, apart := false }
def SeatsQuotaSaid : Prop := seatsQuotaRow.holds Try.pinned (OpenSpec.ofChange seatsQuotaSpec)

/-- ITS FALSE NEIGHBOUR: 'it returns false'. Refute it at one input. -/
def seatsQuotaWrong : ChangeSpec := { name := "seatsQuota", fn := fun _ => fun
  | [d1, d2] => { results := [.lit (.bool false)], args := [d1, d2] }
  | _ => none }
def SeatsQuotaWrongFalsely : Prop := seatsQuotaRow.holds Try.pinned (OpenSpec.ofChange seatsQuotaWrong)

/-- 'plumekeep.SeatsDivide': WHATEVER THE INPUT: true; the input reads as it did. -/
def seatsDivideSpec : ChangeSpec := { name := "seatsDivide", fn := fun _ => fun
  | [d1, d2, d3] => { results := [.lit (.bool true)], args := [d1, d2, d3] }
  | _ => none }
def seatsDivideRow : OpenClaim := { program := "ytilgigahabjbaaa", sum := "329e14d1ee276cec17642e9fdafc1bc93c70c8b72a406a9dcb7b239a9a87eb37", func := "feathermark/plumekeep.SeatsDivide", spec := "seatsDivide", unfollowed := true, recurses := true, apart := false }
def SeatsDivideSaid : Prop := seatsDivideRow.holds Try.pinned (OpenSpec.ofChange seatsDivideSpec)

/-- ITS FALSE NEIGHBOUR: 'it returns false'. Refute it at one input. -/
def seatsDivideWrong : ChangeSpec := { name := "seatsDivide", fn := fun _ => fun
  | [d1, d2, d3] => { results := [.lit (.bool false)], args := [d1, d2, d3] }
  | _ => none }
def SeatsDivideWrongFalsely : Prop := seatsDivideRow.holds Try.pinned (OpenSpec.ofChange seatsDivideWrong)

/-- 'plumekeep.SeatsMore': WHATEVER THE INPUT: true; the input reads as it did. -/
def seatsMoreSpec : ChangeSpec := { name := "seatsMore", fn := fun _ => fun
  | [d1, d2, d3, d4] => { results := [.lit (.bool true)], args := [d1, d2, d3, d4] }
  | _ => none }
def seatsMoreRow : OpenClaim := { program := "ytilgigahabjbaaa", sum := "329e14d1ee276cec17642e9fdafc1bc93c70c8b72a406a9dcb7b239a9a87eb37", func := "feathermark/plumekeep.SeatsMore", spec := "seatsMore", unfollowed := true, recurses := true, apart := false }
def SeatsMoreSaid : Prop := seatsMoreRow.holds Try.pinned (OpenSpec.ofChange seatsMoreSpec)

/-- ITS FALSE NEIGHBOUR: 'it returns false'. Refute it at one input. -/
def seatsMoreWrong : ChangeSpec := { name := "seatsMore", fn := fun _ => fun
  | [d1, d2, d3, d4] => { results := [.lit (.bool false)], args := [d1, d2, d3, d4] }
  | _ => none }
def SeatsMoreWrongFalsely : Prop := seatsMoreRow.holds Try.pinned (OpenSpec.ofChange seatsMoreWrong)

/-- 'plumekeep.SeatsTwo': WHATEVER THE INPUT: true; the input reads as it did. -/
def seatsTwoSpec : ChangeSpec := { name := "seatsTwo", fn := fun _ => fun
  | [d1, d2, d3] => { results := [.lit (.bool true)], args := [d1, d2, d3] }
  | _ => none }
def seatsTwoRow : OpenClaim := { program := "ytilgigahabjbaaa", sum := "329e14d1ee276cec17642e9fdafc1bc93c70c8b72a406a9dcb7b239a9a87eb37", func := "feathermark/plumekeep.SeatsTwo", spec := "seatsTwo", unfollowed := true, recurses := true, apart := false }
def SeatsTwoSaid : Prop := seatsTwoRow.holds Try.pinned (OpenSpec.ofChange seatsTwoSpec)

/-- ITS FALSE NEIGHBOUR: 'it returns false'. Refute it at one input. -/
def seatsTwoWrong : ChangeSpec := { name := "seatsTwo", fn := fun _ => fun
  | [d1, d2, d3] => { results := [.lit (.bool false)], args := [d1, d2, d3] }
  | _ => none }
def SeatsTwoWrongFalsely : Prop := seatsTwoRow.holds Try.pinned (OpenSpec.ofChange seatsTwoWrong)

/-- 'plumekeep.SeatsAll': WHATEVER THE INPUT: true; the input reads as it did. -/
def seatsAllSpec : ChangeSpec := { name := "seatsAll", fn := fun _ => fun
  | [d1, d2] => { results := [.lit (.bool true)], args := [d1, d2] }
  | _ => none }
def seatsAllRow : OpenClaim := { program := "ytilgigahabjbaaa", sum := "329e14d1ee276cec17642e9fdafc1bc93c70c8b72a406a9dcb7b239a9a87eb37", func := "feathermark/plumekeep.SeatsAll", spec := "seatsAll", unfollowed := true, recurses := true, apart := false }
def SeatsAllSaid : Prop := seatsAllRow.holds Try.pinned (OpenSpec.ofChange seatsAllSpec)

/-- ITS FALSE NEIGHBOUR: 'it returns false'. Refute it at one input. -/
def seatsAllWrong : ChangeSpec := { name := "seatsAll", fn := fun _ => fun
  | [d1, d2] => { results := [.lit (.bool false)], args := [d1, d2] }
  | _ => none }
def SeatsAllWrongFalsely : Prop := seatsAllRow.holds Try.pinned (OpenSpec.ofChange seatsAllWrong)

/-- 'plumekeep.OrderRaise': WHATEVER THE INPUT: true; the input reads as it did. -/
def orderRaiseSpec : ChangeSpec := { name := "orderRaise", fn := fun _ => fun
  | [d1, d2, d3] => { results := [.lit (.bool true)], args := [d1, d2, d3] }
  | _ => none }
def orderRaiseRow : OpenClaim := { program := "ytilgigahabjbaaa", sum := "329e14d1ee276cec17642e9fdafc1bc93c70c8b72a406a9dcb7b239a9a87eb37", func := "feathermark/plumekeep.OrderRaise", spec := "orderRaise", unfollowed := true, recurses := true, apart := false }
def OrderRaiseSaid : Prop := orderRaiseRow.holds Try.pinned (OpenSpec.ofChange orderRaiseSpec)

/-- ITS FALSE NEIGHBOUR: 'it returns false'. Refute it at one input. -/
def orderRaiseWrong : ChangeSpec := { name := "orderRaise", fn := fun _ => fun
  | [d1, d2, d3] => { results := [.lit (.bool false)], args := [d1, d2, d3] }
  | _ => none }
def OrderRaiseWrongFalsely : Prop := orderRaiseRow.holds Try.pinned (OpenSpec.ofChange orderRaiseWrong)

/-- 'plumekeep.SeatsJoin': WHATEVER THE INPUT: true; the input reads as it did. -/
def seatsJoinSpec : ChangeSpec := { name := "seatsJoin", fn := fun _ => fun
  | [d1, d2, d3, d4] => { results := [.lit (.bool true)], args := [d1, d2, d3, d4] }
  | _ => none }
def seatsJoinRow : OpenClaim := { program := "ytilgigahabjbaaa", sum := "329e14d1ee276cec17642e9fdafc1bc93c70c8b72a406a9dcb7b239a9a87eb37", func := "feathermark/plumekeep.SeatsJoin", spec := "seatsJoin", unfollowed := true, recurses := true, apart := false }
def SeatsJoinSaid : Prop := seatsJoinRow.holds Try.pinned (OpenSpec.ofChange seatsJoinSpec)

/-- ITS FALSE NEIGHBOUR: 'it returns false'. Refute it at one input. -/
def seatsJoinWrong : ChangeSpec := { name := "seatsJoin", fn := fun _ => fun
  | [d1, d2, d3, d4] => { results := [.lit (.bool false)], args := [d1, d2, d3, d4] }
  | _ => none }
def SeatsJoinWrongFalsely : Prop := seatsJoinRow.holds Try.pinned (OpenSpec.ofChange seatsJoinWrong)

/-- 'plumekeep.OrderAll': WHATEVER THE INPUT: true; the input reads as it did. -/
def orderAllSpec : ChangeSpec := { name := "orderAll", fn := fun _ => fun
  | [d1, d2] => { results := [.lit (.bool true)], args := [d1, d2] }
  | _ => none }
def orderAllRow : OpenClaim := { program := "ytilgigahabjbaaa", sum := "329e14d1ee276cec17642e9fdafc1bc93c70c8b72a406a9dcb7b239a9a87eb37", func := "feathermark/plumekeep.OrderAll", spec := "orderAll", apart := false }
def OrderAllSaid : Prop := orderAllRow.holds Try.pinned (OpenSpec.ofChange orderAllSpec)

/-- ITS FALSE NEIGHBOUR: 'it returns false'. Refute it at one input. -/
def orderAllWrong : ChangeSpec := { name := "orderAll", fn := fun _ => fun
  | [d1, d2] => { results := [.lit (.bool false)], args := [d1, d2] }
  | _ => none }
def OrderAllWrongFalsely : Prop := orderAllRow.holds Try.pinned (OpenSpec.ofChange orderAllWrong)

/- THE SECOND FORM. 'bulk': how many values and letters a reading holds, each counted each time it is reached (what is shared counts as often as it is met; a slice's spare places count too). A statement '..UptoSaid' is the law's where the arguments, and the package variables that the reading takes, are together of bulk at most 1048576: NARROWER than '..Said'. Prove '..Said' where nothing that the law and all that it calls make is longer than what came in: it says more and counts as full. Else prove '..UptoSaid'. A law counts once. -/
mutual
def uptoBulk {H : Type} : DataW H → Nat
  | .lit (.string bytes) => bytes.length + 1
  | .lit _ => 1
  | .nil => 1
  | .ptr d => uptoBulk d + 1
  | .slice elems spare => uptoBulkAll elems + uptoBulkAll spare + 1
  | .agg parts => uptoBulkAll parts + 1
  | .iface _ d => uptoBulk d + 1
  | .map entries => uptoBulkEntries entries + 1
  | .held _ => 1
def uptoBulkAll {H : Type} : List (DataW H) → Nat
  | [] => 0
  | d :: r => uptoBulk d + uptoBulkAll r
def uptoBulkEntries {H : Type} : List (Lit × DataW H) → Nat
  | [] => 0
  | x :: r => uptoBulkEntry x + uptoBulkEntries r
def uptoBulkEntry {H : Type} : Lit × DataW H → Nat
  | (.string bytes, d) => bytes.length + uptoBulk d + 1
  | (_, d) => uptoBulk d + 1
 end
def uptoSmall : (H : Type) → List (DataW H) → Bool := fun _ ds => decide (uptoBulkAll ds ≤ 1048576)
def OpenSpec.upto (s : _root_.Go.ChangeSpec) : _root_.Go.OpenSpec := { _root_.Go.OpenSpec.ofChange s with cond := some uptoSmall }

/-- 'plumekeep.OrderFar', WHERE WHAT IT READS IS OF BULK AT MOST 1048576: true; the input reads as it did. -/
def orderFarUptoRow : OpenClaim := { program := "ytilgigahabjbaaa", sum := "329e14d1ee276cec17642e9fdafc1bc93c70c8b72a406a9dcb7b239a9a87eb37", func := "feathermark/plumekeep.OrderFar", spec := "orderFar", unfollowed := true, recurses := true, apart := false, narrowed := true }
def OrderFarUptoSaid : Prop := orderFarUptoRow.holds Try.pinned (OpenSpec.upto orderFarSpec)

/-- 'plumekeep.SeatsHouse', WHERE WHAT IT READS IS OF BULK AT MOST 1048576: true; the input reads as it did. -/
def seatsHouseUptoRow : OpenClaim := { program := "ytilgigahabjbaaa", sum := "329e14d1ee276cec17642e9fdafc1bc93c70c8b72a406a9dcb7b239a9a87eb37", func := "feathermark/plumekeep.SeatsHouse", spec := "seatsHouse", unfollowed := true, recurses := true, apart := false, narrowed := true }
def SeatsHouseUptoSaid : Prop := seatsHouseUptoRow.holds Try.pinned (OpenSpec.upto seatsHouseSpec)

/-- 'plumekeep.SeatsQuota', WHERE WHAT IT READS IS OF BULK AT MOST 1048576: true; the input reads as it did. -/
def seatsQuotaUptoRow : OpenClaim := { program := "ytilgigahabjbaaa", sum := "329e14d1ee276cec17642e9fdafc1bc93c70c8b72a406a9dcb7b239a9a87eb37", func := "feathermark/plumekeep.SeatsQuota", spec := "seatsQuota", unfollowed := true, recurses := true, apart := false, narrowed := true }
def SeatsQuotaUptoSaid : Prop := seatsQuotaUptoRow.holds Try.pinned (OpenSpec.upto seatsQuotaSpec)

/-- 'plumekeep.SeatsDivide', WHERE WHAT IT READS IS OF BULK AT MOST 1048576: true; the input reads as it did. -/
def seatsDivideUptoRow : OpenClaim := { program := "ytilgigahabjbaaa", sum := "329e14d1ee276cec17642e9fdafc1bc93c70c8b72a406a9dcb7b239a9a87eb37", func := "feathermark/plumekeep.SeatsDivide", spec := "seatsDivide", unfollowed := true, recurses := true, apart := false, narrowed := true }
def SeatsDivideUptoSaid : Prop := seatsDivideUptoRow.holds Try.pinned (OpenSpec.upto seatsDivideSpec)

/-- 'plumekeep.SeatsMore', WHERE WHAT IT READS IS OF BULK AT MOST 1048576: true; the input reads as it did. -/
def seatsMoreUptoRow : OpenClaim := { program := "ytilgigahabjbaaa", sum := "329e14d1ee276cec17642e9fdafc1bc93c70c8b72a406a9dcb7b239a9a87eb37", func := "feathermark/plumekeep.SeatsMore", spec := "seatsMore", unfollowed := true, recurses := true, apart := false, narrowed := true }
def SeatsMoreUptoSaid : Prop := seatsMoreUptoRow.holds Try.pinned (OpenSpec.upto seatsMoreSpec)

/-- 'plumekeep.SeatsTwo', WHERE WHAT IT READS IS OF BULK AT MOST 1048576: true; the input reads as it did. -/
def seatsTwoUptoRow : OpenClaim := { program := "ytilgigahabjbaaa", sum := "329e14d1ee276cec17642e9fdafc1bc93c70c8b72a406a9dcb7b239a9a87eb37", func := "feathermark/plumekeep.SeatsTwo", spec := "seatsTwo", unfollowed := true, recurses := true, apart := false, narrowed := true }
def SeatsTwoUptoSaid : Prop := seatsTwoUptoRow.holds Try.pinned (OpenSpec.upto seatsTwoSpec)

/-- 'plumekeep.SeatsAll', WHERE WHAT IT READS IS OF BULK AT MOST 1048576: true; the input reads as it did. -/
def seatsAllUptoRow : OpenClaim := { program := "ytilgigahabjbaaa", sum := "329e14d1ee276cec17642e9fdafc1bc93c70c8b72a406a9dcb7b239a9a87eb37", func := "feathermark/plumekeep.SeatsAll", spec := "seatsAll", unfollowed := true, recurses := true, apart := false, narrowed := true }
def SeatsAllUptoSaid : Prop := seatsAllUptoRow.holds Try.pinned (OpenSpec.upto seatsAllSpec)

/-- 'plumekeep.OrderRaise', WHERE WHAT IT READS IS OF BULK AT MOST 1048576: true; the input reads as it did. -/
def orderRaiseUptoRow : OpenClaim := { program := "ytilgigahabjbaaa", sum := "329e14d1ee276cec17642e9fdafc1bc93c70c8b72a406a9dcb7b239a9a87eb37", func := "feathermark/plumekeep.OrderRaise", spec := "orderRaise", unfollowed := true, recurses := true, apart := false, narrowed := true }
def OrderRaiseUptoSaid : Prop := orderRaiseUptoRow.holds Try.pinned (OpenSpec.upto orderRaiseSpec)

/-- 'plumekeep.SeatsJoin', WHERE WHAT IT READS IS OF BULK AT MOST 1048576: true; the input reads as it did. -/
def seatsJoinUptoRow : OpenClaim := { program := "ytilgigahabjbaaa", sum := "329e14d1ee276cec17642e9fdafc1bc93c70c8b72a406a9dcb7b239a9a87eb37", func := "feathermark/plumekeep.SeatsJoin", spec := "seatsJoin", unfollowed := true, recurses := true, apart := false, narrowed := true }
def SeatsJoinUptoSaid : Prop := seatsJoinUptoRow.holds Try.pinned (OpenSpec.upto seatsJoinSpec)

/-- 'plumekeep.OrderAll', WHERE WHAT IT READS IS OF BULK AT MOST 1048576: true; the input reads as it did. -/
def orderAllUptoRow : OpenClaim := { program := "ytilgigahabjbaaa", sum := "329e14d1ee276cec17642e9fdafc1bc93c70c8b72a406a9dcb7b239a9a87eb37", func := "feathermark/plumekeep.OrderAll", spec := "orderAll", apart := false, narrowed := true }
def OrderAllUptoSaid : Prop := orderAllUptoRow.holds Try.pinned (OpenSpec.upto orderAllSpec)

end Rows
end Go.Proofs.Ytilgigahabjbaaa
