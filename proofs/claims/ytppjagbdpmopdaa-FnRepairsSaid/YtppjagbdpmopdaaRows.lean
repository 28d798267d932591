/-
  No cell of these rows narrows 'for every input' (looked for: loops, veiled, ifaces, maps, wideKeys, modest, calm, conditions, laid).
  DERIVED. THE GIVEN ROWS OF THIS SEAT. 12 by the template 'for every input the law returns true; each argument reads behind the call as it read before'; 0 by the template 'total and deterministic' (their statements: YtppjagbdpmopdaaTotals.lean).
  GIVEN WITH THE SEED: the statements are not yours to turn. If you find one false, say at which input.
  Laid BY PROGRAM, IN A SANDBOX (cutbox-rows.mjs): the forced cells as the released guide's own fill.sh prints them over the translation 0d87707e2aada43a… (all of the seat's roots in one cut). By AI agents, Wed Nov 11 2026. No macro, syntax, notation, axiom, sorry.
-/
import Derived.Test.YtppjagbdpmopdaaChecked
import GoSem.Claim
import GoSem.ClaimJoined
import GoSem.ClaimMapViews
import Derived.JoinedTies
import Derived.KernelRfl
namespace Go.Proofs.Ytppjagbdpmopdaa
/- THE CELL 'sum', in the pinned program and in every row, IS THE sha256 OF THE DUMP (.gsa) THAT YtppjagbdpmopdaaProg.lean LOADS. Nothing in Lean hashes anything: it is a label: what it is worth is what the hold of that sum in a sandbox is worth. -/
noncomputable def Try.pinned : Pinned := { name := "ytppjagbdpmopdaa", sum := "0d87707e2aada43af3d16055627008169305e795ccb984d90aa59d188bc1b840", checked := Try.checked }
namespace Rows
def none {H : Type} : Left H := { results := [], args := [] }

/-- 'laws.FnRepairs': WHATEVER THE INPUT: true; the input reads as it did. -/
def fnRepairsSpec : ChangeSpec := { name := "fnRepairs", fn := fun _ => fun
  | [d] => { results := [.lit (.bool true)], args := [d] }
  | _ => none }
def fnRepairsRow : OpenClaim := { program := "ytppjagbdpmopdaa", sum := "0d87707e2aada43af3d16055627008169305e795ccb984d90aa59d188bc1b840", func := "loop.example/g03305/laws.FnRepairs", spec := "fnRepairs", inPlace := ["internal/bytealg.CountString", "internal/bytealg.IndexByteString", "internal/bytealg.IndexString"], unfollowed := true, recurses := true, named := ["internal/bytealg.MaxLen"], apart := false }
def FnRepairsSaid : Prop := fnRepairsRow.holds Try.pinned (OpenSpec.ofChange fnRepairsSpec)

/-- ITS FALSE NEIGHBOUR: 'it returns false'. Refute it at one input. -/
def fnRepairsWrong : ChangeSpec := { name := "fnRepairs", fn := fun _ => fun
  | [d] => { results := [.lit (.bool false)], args := [d] }
  | _ => none }
def FnRepairsWrongFalsely : Prop := fnRepairsRow.holds Try.pinned (OpenSpec.ofChange fnRepairsWrong)

/-- 'laws.FnExactCompareStrips': WHATEVER THE INPUT: true; the input reads as it did. -/
def fnExactCompareStripsSpec : ChangeSpec := { name := "fnExactCompareStrips", fn := fun _ => fun
  | [d1, d2] => { results := [.lit (.bool true)], args := [d1, d2] }
  | _ => none }
def fnExactCompareStripsRow : OpenClaim := { program := "ytppjagbdpmopdaa", sum := "0d87707e2aada43af3d16055627008169305e795ccb984d90aa59d188bc1b840", func := "loop.example/g03305/laws.FnExactCompareStrips", spec := "fnExactCompareStrips", inPlace := ["internal/bytealg.CountString", "internal/bytealg.IndexByteString", "internal/bytealg.IndexString"], named := ["internal/bytealg.MaxLen"], apart := false }
def FnExactCompareStripsSaid : Prop := fnExactCompareStripsRow.holds Try.pinned (OpenSpec.ofChange fnExactCompareStripsSpec)

/-- ITS FALSE NEIGHBOUR: 'it returns false'. Refute it at one input. -/
def fnExactCompareStripsWrong : ChangeSpec := { name := "fnExactCompareStrips", fn := fun _ => fun
  | [d1, d2] => { results := [.lit (.bool false)], args := [d1, d2] }
  | _ => none }
def FnExactCompareStripsWrongFalsely : Prop := fnExactCompareStripsRow.holds Try.pinned (OpenSpec.ofChange fnExactCompareStripsWrong)

/-- 'laws.FnExactMiddleOf': WHATEVER THE INPUT: true; the input reads as it did. -/
def fnExactMiddleOfSpec : ChangeSpec := { name := "fnExactMiddleOf", fn := fun _ => fun
  | [d1, d2, d3] => { results := [.lit (.bool true)], args := [d1, d2, d3] }
  | _ => none }
def fnExactMiddleOfRow : OpenClaim := { program := "ytppjagbdpmopdaa", sum := "0d87707e2aada43af3d16055627008169305e795ccb984d90aa59d188bc1b840", func := "loop.example/g03305/laws.FnExactMiddleOf", spec := "fnExactMiddleOf", inPlace := ["internal/bytealg.CountString", "internal/bytealg.IndexByteString", "internal/bytealg.IndexString"], unfollowed := true, recurses := true, named := ["internal/bytealg.MaxLen"], apart := false }
def FnExactMiddleOfSaid : Prop := fnExactMiddleOfRow.holds Try.pinned (OpenSpec.ofChange fnExactMiddleOfSpec)

/-- ITS FALSE NEIGHBOUR: 'it returns false'. Refute it at one input. -/
def fnExactMiddleOfWrong : ChangeSpec := { name := "fnExactMiddleOf", fn := fun _ => fun
  | [d1, d2, d3] => { results := [.lit (.bool false)], args := [d1, d2, d3] }
  | _ => none }
def FnExactMiddleOfWrongFalsely : Prop := fnExactMiddleOfRow.holds Try.pinned (OpenSpec.ofChange fnExactMiddleOfWrong)

/-- 'laws.FnExactNearestBetween': WHATEVER THE INPUT: true; the input reads as it did. -/
def fnExactNearestBetweenSpec : ChangeSpec := { name := "fnExactNearestBetween", fn := fun _ => fun
  | [d1, d2, d3] => { results := [.lit (.bool true)], args := [d1, d2, d3] }
  | _ => none }
def fnExactNearestBetweenRow : OpenClaim := { program := "ytppjagbdpmopdaa", sum := "0d87707e2aada43af3d16055627008169305e795ccb984d90aa59d188bc1b840", func := "loop.example/g03305/laws.FnExactNearestBetween", spec := "fnExactNearestBetween", inPlace := ["internal/bytealg.CountString", "internal/bytealg.IndexByteString", "internal/bytealg.IndexString"], unfollowed := true, recurses := true, named := ["internal/bytealg.MaxLen"], apart := false }
def FnExactNearestBetweenSaid : Prop := fnExactNearestBetweenRow.holds Try.pinned (OpenSpec.ofChange fnExactNearestBetweenSpec)

/-- ITS FALSE NEIGHBOUR: 'it returns false'. Refute it at one input. -/
def fnExactNearestBetweenWrong : ChangeSpec := { name := "fnExactNearestBetween", fn := fun _ => fun
  | [d1, d2, d3] => { results := [.lit (.bool false)], args := [d1, d2, d3] }
  | _ => none }
def FnExactNearestBetweenWrongFalsely : Prop := fnExactNearestBetweenRow.holds Try.pinned (OpenSpec.ofChange fnExactNearestBetweenWrong)

/-- 'laws.FnExactIsSymmetric': WHATEVER THE INPUT: true; the input reads as it did. -/
def fnExactIsSymmetricSpec : ChangeSpec := { name := "fnExactIsSymmetric", fn := fun _ => fun
  | [d] => { results := [.lit (.bool true)], args := [d] }
  | _ => none }
def fnExactIsSymmetricRow : OpenClaim := { program := "ytppjagbdpmopdaa", sum := "0d87707e2aada43af3d16055627008169305e795ccb984d90aa59d188bc1b840", func := "loop.example/g03305/laws.FnExactIsSymmetric", spec := "fnExactIsSymmetric", inPlace := ["internal/bytealg.CountString", "internal/bytealg.IndexByteString", "internal/bytealg.IndexString"], named := ["internal/bytealg.MaxLen"], apart := false }
def FnExactIsSymmetricSaid : Prop := fnExactIsSymmetricRow.holds Try.pinned (OpenSpec.ofChange fnExactIsSymmetricSpec)

/-- ITS FALSE NEIGHBOUR: 'it returns false'. Refute it at one input. -/
def fnExactIsSymmetricWrong : ChangeSpec := { name := "fnExactIsSymmetric", fn := fun _ => fun
  | [d] => { results := [.lit (.bool false)], args := [d] }
  | _ => none }
def FnExactIsSymmetricWrongFalsely : Prop := fnExactIsSymmetricRow.holds Try.pinned (OpenSpec.ofChange fnExactIsSymmetricWrong)

/-- 'laws.FnExactRepairCost': WHATEVER THE INPUT: true; the input reads as it did. -/
def fnExactRepairCostSpec : ChangeSpec := { name := "fnExactRepairCost", fn := fun _ => fun
  | [d1, d2] => { results := [.lit (.bool true)], args := [d1, d2] }
  | _ => none }
def fnExactRepairCostRow : OpenClaim := { program := "ytppjagbdpmopdaa", sum := "0d87707e2aada43af3d16055627008169305e795ccb984d90aa59d188bc1b840", func := "loop.example/g03305/laws.FnExactRepairCost", spec := "fnExactRepairCost", inPlace := ["internal/bytealg.CountString", "internal/bytealg.IndexByteString", "internal/bytealg.IndexString"], named := ["internal/bytealg.MaxLen"], apart := false }
def FnExactRepairCostSaid : Prop := fnExactRepairCostRow.holds Try.pinned (OpenSpec.ofChange fnExactRepairCostSpec)

/-- ITS FALSE NEIGHBOUR: 'it returns false'. Refute it at one input. -/
def fnExactRepairCostWrong : ChangeSpec := { name := "fnExactRepairCost", fn := fun _ => fun
  | [d1, d2] => { results := [.lit (.bool false)], args := [d1, d2] }
  | _ => none }
def FnExactRepairCostWrongFalsely : Prop := fnExactRepairCostRow.holds Try.pinned (OpenSpec.ofChange fnExactRepairCostWrong)

/-- 'laws.FnExactCardDistance': WHATEVER THE INPUT: true; the input reads as it did. -/
def fnExactCardDistanceSpec : ChangeSpec := { name := "fnExactCardDistance", fn := fun _ => fun
  | [d1, d2] => { results := [.lit (.bool true)], args := [d1, d2] }
  | _ => none }
def fnExactCardDistanceRow : OpenClaim := { program := "ytppjagbdpmopdaa", sum := "0d87707e2aada43af3d16055627008169305e795ccb984d90aa59d188bc1b840", func := "loop.example/g03305/laws.FnExactCardDistance", spec := "fnExactCardDistance", inPlace := ["internal/bytealg.CountString", "internal/bytealg.IndexByteString", "internal/bytealg.IndexString"], named := ["internal/bytealg.MaxLen"], apart := false }
def FnExactCardDistanceSaid : Prop := fnExactCardDistanceRow.holds Try.pinned (OpenSpec.ofChange fnExactCardDistanceSpec)

/-- ITS FALSE NEIGHBOUR: 'it returns false'. Refute it at one input. -/
def fnExactCardDistanceWrong : ChangeSpec := { name := "fnExactCardDistance", fn := fun _ => fun
  | [d1, d2] => { results := [.lit (.bool false)], args := [d1, d2] }
  | _ => none }
def FnExactCardDistanceWrongFalsely : Prop := fnExactCardDistanceRow.holds Try.pinned (OpenSpec.ofChange fnExactCardDistanceWrong)

/-- 'laws.FnExactShiftDistance': WHATEVER THE INPUT: true; the input reads as it did. -/
def fnExactShiftDistanceSpec : ChangeSpec := { name := "fnExactShiftDistance", fn := fun _ => fun
  | [d1, d2] => { results := [.lit (.bool true)], args := [d1, d2] }
  | _ => none }
def fnExactShiftDistanceRow : OpenClaim := { program := "ytppjagbdpmopdaa", sum := "0d87707e2aada43af3d16055627008169305e795ccb984d90aa59d188bc1b840", func := "loop.example/g03305/laws.FnExactShiftDistance", spec := "fnExactShiftDistance", inPlace := ["internal/bytealg.CountString", "internal/bytealg.IndexByteString", "internal/bytealg.IndexString"], named := ["internal/bytealg.MaxLen"], apart := false }
def FnExactShiftDistanceSaid : Prop := fnExactShiftDistanceRow.holds Try.pinned (OpenSpec.ofChange fnExactShiftDistanceSpec)

/-- ITS FALSE NEIGHBOUR: 'it returns false'. Refute it at one input. -/
def fnExactShiftDistanceWrong : ChangeSpec := { name := "fnExactShiftDistance", fn := fun _ => fun
  | [d1, d2] => { results := [.lit (.bool false)], args := [d1, d2] }
  | _ => none }
def FnExactShiftDistanceWrongFalsely : Prop := fnExactShiftDistanceRow.holds Try.pinned (OpenSpec.ofChange fnExactShiftDistanceWrong)

/-- 'laws.FnExactMiddleCard': WHATEVER THE INPUT: true; the input reads as it did. -/
def fnExactMiddleCardSpec : ChangeSpec := { name := "fnExactMiddleCard", fn := fun _ => fun
  | [d1, d2, d3] => { results := [.lit (.bool true)], args := [d1, d2, d3] }
  | _ => none }
def fnExactMiddleCardRow : OpenClaim := { program := "ytppjagbdpmopdaa", sum := "0d87707e2aada43af3d16055627008169305e795ccb984d90aa59d188bc1b840", func := "loop.example/g03305/laws.FnExactMiddleCard", spec := "fnExactMiddleCard", inPlace := ["internal/bytealg.CountString", "internal/bytealg.IndexByteString", "internal/bytealg.IndexString"], unfollowed := true, recurses := true, named := ["internal/bytealg.MaxLen"], apart := false }
def FnExactMiddleCardSaid : Prop := fnExactMiddleCardRow.holds Try.pinned (OpenSpec.ofChange fnExactMiddleCardSpec)

/-- ITS FALSE NEIGHBOUR: 'it returns false'. Refute it at one input. -/
def fnExactMiddleCardWrong : ChangeSpec := { name := "fnExactMiddleCard", fn := fun _ => fun
  | [d1, d2, d3] => { results := [.lit (.bool false)], args := [d1, d2, d3] }
  | _ => none }
def FnExactMiddleCardWrongFalsely : Prop := fnExactMiddleCardRow.holds Try.pinned (OpenSpec.ofChange fnExactMiddleCardWrong)

/-- 'laws.FnExactNearestCard': WHATEVER THE INPUT: true; the input reads as it did. -/
def fnExactNearestCardSpec : ChangeSpec := { name := "fnExactNearestCard", fn := fun _ => fun
  | [d1, d2] => { results := [.lit (.bool true)], args := [d1, d2] }
  | _ => none }
def fnExactNearestCardRow : OpenClaim := { program := "ytppjagbdpmopdaa", sum := "0d87707e2aada43af3d16055627008169305e795ccb984d90aa59d188bc1b840", func := "loop.example/g03305/laws.FnExactNearestCard", spec := "fnExactNearestCard", inPlace := ["internal/bytealg.CountString", "internal/bytealg.IndexByteString", "internal/bytealg.IndexString"], named := ["internal/bytealg.MaxLen"], apart := false }
def FnExactNearestCardSaid : Prop := fnExactNearestCardRow.holds Try.pinned (OpenSpec.ofChange fnExactNearestCardSpec)

/-- ITS FALSE NEIGHBOUR: 'it returns false'. Refute it at one input. -/
def fnExactNearestCardWrong : ChangeSpec := { name := "fnExactNearestCard", fn := fun _ => fun
  | [d1, d2] => { results := [.lit (.bool false)], args := [d1, d2] }
  | _ => none }
def FnExactNearestCardWrongFalsely : Prop := fnExactNearestCardRow.holds Try.pinned (OpenSpec.ofChange fnExactNearestCardWrong)

/-- 'laws.FnExactRepairCard': WHATEVER THE INPUT: true; the input reads as it did. -/
def fnExactRepairCardSpec : ChangeSpec := { name := "fnExactRepairCard", fn := fun _ => fun
  | [d1, d2, d3] => { results := [.lit (.bool true)], args := [d1, d2, d3] }
  | _ => none }
def fnExactRepairCardRow : OpenClaim := { program := "ytppjagbdpmopdaa", sum := "0d87707e2aada43af3d16055627008169305e795ccb984d90aa59d188bc1b840", func := "loop.example/g03305/laws.FnExactRepairCard", spec := "fnExactRepairCard", inPlace := ["internal/bytealg.CountString", "internal/bytealg.IndexByteString", "internal/bytealg.IndexString"], unfollowed := true, recurses := true, named := ["internal/bytealg.MaxLen"], apart := false }
def FnExactRepairCardSaid : Prop := fnExactRepairCardRow.holds Try.pinned (OpenSpec.ofChange fnExactRepairCardSpec)

/-- ITS FALSE NEIGHBOUR: 'it returns false'. Refute it at one input. -/
def fnExactRepairCardWrong : ChangeSpec := { name := "fnExactRepairCard", fn := fun _ => fun
  | [d1, d2, d3] => { results := [.lit (.bool false)], args := [d1, d2, d3] }
  | _ => none }
def FnExactRepairCardWrongFalsely : Prop := fnExactRepairCardRow.holds Try.pinned (OpenSpec.ofChange fnExactRepairCardWrong)

/-- 'laws.FnExactCostOf': WHATEVER THE INPUT: true; the input reads as it did. -/
def fnExactCostOfSpec : ChangeSpec := { name := "fnExactCostOf", fn := fun _ => fun
  | [d1, d2, d3] => { results := [.lit (.bool true)], args := [d1, d2, d3] }
  | _ => none }
def fnExactCostOfRow : OpenClaim := { program := "ytppjagbdpmopdaa", sum := "0d87707e2aada43af3d16055627008169305e795ccb984d90aa59d188bc1b840", func := "loop.example/g03305/laws.FnExactCostOf", spec := "fnExactCostOf", inPlace := ["internal/bytealg.CountString", "internal/bytealg.IndexByteString", "internal/bytealg.IndexString"], named := ["internal/bytealg.MaxLen"], apart := false }
def FnExactCostOfSaid : Prop := fnExactCostOfRow.holds Try.pinned (OpenSpec.ofChange fnExactCostOfSpec)

/-- ITS FALSE NEIGHBOUR: 'it returns false'. Refute it at one input. -/
def fnExactCostOfWrong : ChangeSpec := { name := "fnExactCostOf", fn := fun _ => fun
  | [d1, d2, d3] => { results := [.lit (.bool false)], args := [d1, d2, d3] }
  | _ => none }
def FnExactCostOfWrongFalsely : Prop := fnExactCostOfRow.holds Try.pinned (OpenSpec.ofChange fnExactCostOfWrong)

/- THE SECOND FORM. 'bulk': how many values and letters a reading holds, each counted each time it is reached (what is shared counts as often as it is met; a slice's spare places count too). A statement '..UptoSaid' is the law's where the arguments, and the package variables that the reading takes, are together of bulk at most 1048576: NARROWER than '..Said'. Prove '..Said' where nothing that the law and all that it calls make is longer than what came in: it says more and counts as full. Else prove '..UptoSaid'. A law counts once. -/
mutual
def uptoBulk {H : Type} : DataW H → Nat
  | .lit (.string bytes) => bytes.length + 1
  | .lit _ => 1
  | .nil => 1
  | .ptr d => uptoBulk d + 1
  | .slice elems spare => uptoBulkAll elems + uptoBulkAll spare + 1
  | .agg parts => uptoBulkAll parts + 1
  | .iface _ d => uptoBulk d + 1
  | .map entries => uptoBulkEntries entries + 1
  | .held _ => 1
def uptoBulkAll {H : Type} : List (DataW H) → Nat
  | [] => 0
  | d :: r => uptoBulk d + uptoBulkAll r
def uptoBulkEntries {H : Type} : List (Lit × DataW H) → Nat
  | [] => 0
  | x :: r => uptoBulkEntry x + uptoBulkEntries r
def uptoBulkEntry {H : Type} : Lit × DataW H → Nat
  | (.string bytes, d) => bytes.length + uptoBulk d + 1
  | (_, d) => uptoBulk d + 1
 end
def uptoSmall : (H : Type) → List (DataW H) → Bool := fun _ ds => decide (uptoBulkAll ds ≤ 1048576)
def OpenSpec.upto (s : _root_.Go.ChangeSpec) : _root_.Go.OpenSpec := { _root_.Go.OpenSpec.ofChange s with cond := some uptoSmall }

/-- 'laws.FnRepairs', WHERE WHAT IT READS IS OF BULK AT MOST 1048576: true; the input reads as it did. -/
def fnRepairsUptoRow : OpenClaim := { program := "ytppjagbdpmopdaa", sum := "0d87707e2aada43af3d16055627008169305e795ccb984d90aa59d188bc1b840", func := "loop.example/g03305/laws.FnRepairs", spec := "fnRepairs", inPlace := ["internal/bytealg.CountString", "internal/bytealg.IndexByteString", "internal/bytealg.IndexString"], unfollowed := true, recurses := true, named := ["internal/bytealg.MaxLen"], apart := false, narrowed := true }
def FnRepairsUptoSaid : Prop := fnRepairsUptoRow.holds Try.pinned (OpenSpec.upto fnRepairsSpec)

/-- 'laws.FnExactCompareStrips', WHERE WHAT IT READS IS OF BULK AT MOST 1048576: true; the input reads as it did. -/
def fnExactCompareStripsUptoRow : OpenClaim := { program := "ytppjagbdpmopdaa", sum := "0d87707e2aada43af3d16055627008169305e795ccb984d90aa59d188bc1b840", func := "loop.example/g03305/laws.FnExactCompareStrips", spec := "fnExactCompareStrips", inPlace := ["internal/bytealg.CountString", "internal/bytealg.IndexByteString", "internal/bytealg.IndexString"], named := ["internal/bytealg.MaxLen"], apart := false, narrowed := true }
def FnExactCompareStripsUptoSaid : Prop := fnExactCompareStripsUptoRow.holds Try.pinned (OpenSpec.upto fnExactCompareStripsSpec)

/-- 'laws.FnExactMiddleOf', WHERE WHAT IT READS IS OF BULK AT MOST 1048576: true; the input reads as it did. -/
def fnExactMiddleOfUptoRow : OpenClaim := { program := "ytppjagbdpmopdaa", sum := "0d87707e2aada43af3d16055627008169305e795ccb984d90aa59d188bc1b840", func := "loop.example/g03305/laws.FnExactMiddleOf", spec := "fnExactMiddleOf", inPlace := ["internal/bytealg.CountString", "internal/bytealg.IndexByteString", "internal/bytealg.IndexString"], unfollowed := true, recurses := true, named := ["internal/bytealg.MaxLen"], apart := false, narrowed := true }
def FnExactMiddleOfUptoSaid : Prop := fnExactMiddleOfUptoRow.holds Try.pinned (OpenSpec.upto fnExactMiddleOfSpec)

/-- 'laws.FnExactNearestBetween', WHERE WHAT IT READS IS OF BULK AT MOST 1048576: true; the input reads as it did. -/
def fnExactNearestBetweenUptoRow : OpenClaim := { program := "ytppjagbdpmopdaa", sum := "0d87707e2aada43af3d16055627008169305e795ccb984d90aa59d188bc1b840", func := "loop.example/g03305/laws.FnExactNearestBetween", spec := "fnExactNearestBetween", inPlace := ["internal/bytealg.CountString", "internal/bytealg.IndexByteString", "internal/bytealg.IndexString"], unfollowed := true, recurses := true, named := ["internal/bytealg.MaxLen"], apart := false, narrowed := true }
def FnExactNearestBetweenUptoSaid : Prop := fnExactNearestBetweenUptoRow.holds Try.pinned (OpenSpec.upto fnExactNearestBetweenSpec)

/-- 'laws.FnExactIsSymmetric', WHERE WHAT IT READS IS OF BULK AT MOST 1048576: true; the input reads as it did. -/
def fnExactIsSymmetricUptoRow : OpenClaim := { program := "ytppjagbdpmopdaa", sum := "0d87707e2aada43af3d16055627008169305e795ccb984d90aa59d188bc1b840", func := "loop.example/g03305/laws.FnExactIsSymmetric", spec := "fnExactIsSymmetric", inPlace := ["internal/bytealg.CountString", "internal/bytealg.IndexByteString", "internal/bytealg.IndexString"], named := ["internal/bytealg.MaxLen"], apart := false, narrowed := true }
def FnExactIsSymmetricUptoSaid : Prop := fnExactIsSymmetricUptoRow.holds Try.pinned (OpenSpec.upto fnExactIsSymmetricSpec)

/-- 'laws.FnExactRepairCost', WHERE WHAT IT READS IS OF BULK AT MOST 1048576: true; the input reads as it did. -/
def fnExactRepairCostUptoRow : OpenClaim := { program := "ytppjagbdpmopdaa", sum := "0d87707e2aada43af3d16055627008169305e795ccb984d90aa59d188bc1b840", func := "loop.example/g03305/laws.FnExactRepairCost", spec := "fnExactRepairCost", inPlace := ["internal/bytealg.CountString", "internal/bytealg.IndexByteString", "internal/bytealg.IndexString"], named := ["internal/bytealg.MaxLen"], apart := false, narrowed := true }
def FnExactRepairCostUptoSaid : Prop := fnExactRepairCostUptoRow.holds Try.pinned (OpenSpec.upto fnExactRepairCostSpec)

/-- 'laws.FnExactCardDistance', WHERE WHAT IT READS IS OF BULK AT MOST 1048576: true; the input reads as it did. -/
def fnExactCardDistanceUptoRow : OpenClaim := { program := "ytppjagbdpmopdaa", sum := "0d87707e2aada43af3d16055627008169305e795ccb984d90aa59d188bc1b840", func := "loop.example/g03305/laws.FnExactCardDistance", spec := "fnExactCardDistance", inPlace := ["internal/bytealg.CountString", "internal/bytealg.IndexByteString", "internal/bytealg.IndexString"], named := ["internal/bytealg.MaxLen"], apart := false, narrowed := true }
def FnExactCardDistanceUptoSaid : Prop := fnExactCardDistanceUptoRow.holds Try.pinned (OpenSpec.upto fnExactCardDistanceSpec)

/-- 'laws.FnExactShiftDistance', WHERE WHAT IT READS IS OF BULK AT MOST 1048576: true; the input reads as it did. -/
def fnExactShiftDistanceUptoRow : OpenClaim := { program := "ytppjagbdpmopdaa", sum := "0d87707e2aada43af3d16055627008169305e795ccb984d90aa59d188bc1b840", func := "loop.example/g03305/laws.FnExactShiftDistance", spec := "fnExactShiftDistance", inPlace := ["internal/bytealg.CountString", "internal/bytealg.IndexByteString", "internal/bytealg.IndexString"], named := ["internal/bytealg.MaxLen"], apart := false, narrowed := true }
def FnExactShiftDistanceUptoSaid : Prop := fnExactShiftDistanceUptoRow.holds Try.pinned (OpenSpec.upto fnExactShiftDistanceSpec)

/-- 'laws.FnExactMiddleCard', WHERE WHAT IT READS IS OF BULK AT MOST 1048576: true; the input reads as it did. -/
def fnExactMiddleCardUptoRow : OpenClaim := { program := "ytppjagbdpmopdaa", sum := "0d87707e2aada43af3d16055627008169305e795ccb984d90aa59d188bc1b840", func := "loop.example/g03305/laws.FnExactMiddleCard", spec := "fnExactMiddleCard", inPlace := ["internal/bytealg.CountString", "internal/bytealg.IndexByteString", "internal/bytealg.IndexString"], unfollowed := true, recurses := true, named := ["internal/bytealg.MaxLen"], apart := false, narrowed := true }
def FnExactMiddleCardUptoSaid : Prop := fnExactMiddleCardUptoRow.holds Try.pinned (OpenSpec.upto fnExactMiddleCardSpec)

/-- 'laws.FnExactNearestCard', WHERE WHAT IT READS IS OF BULK AT MOST 1048576: true; the input reads as it did. -/
def fnExactNearestCardUptoRow : OpenClaim := { program := "ytppjagbdpmopdaa", sum := "0d87707e2aada43af3d16055627008169305e795ccb984d90aa59d188bc1b840", func := "loop.example/g03305/laws.FnExactNearestCard", spec := "fnExactNearestCard", inPlace := ["internal/bytealg.CountString", "internal/bytealg.IndexByteString", "internal/bytealg.IndexString"], named := ["internal/bytealg.MaxLen"], apart := false, narrowed := true }
def FnExactNearestCardUptoSaid : Prop := fnExactNearestCardUptoRow.holds Try.pinned (OpenSpec.upto fnExactNearestCardSpec)

/-- 'laws.FnExactRepairCard', WHERE WHAT IT READS IS OF BULK AT MOST 1048576: true; the input reads as it did. -/
def fnExactRepairCardUptoRow : OpenClaim := { program := "ytppjagbdpmopdaa", sum := "0d87707e2aada43af3d16055627008169305e795ccb984d90aa59d188bc1b840", func := "loop.example/g03305/laws.FnExactRepairCard", spec := "fnExactRepairCard", inPlace := ["internal/bytealg.CountString", "internal/bytealg.IndexByteString", "internal/bytealg.IndexString"], unfollowed := true, recurses := true, named := ["internal/bytealg.MaxLen"], apart := false, narrowed := true }
def FnExactRepairCardUptoSaid : Prop := fnExactRepairCardUptoRow.holds Try.pinned (OpenSpec.upto fnExactRepairCardSpec)

/-- 'laws.FnExactCostOf', WHERE WHAT IT READS IS OF BULK AT MOST 1048576: true; the input reads as it did. -/
def fnExactCostOfUptoRow : OpenClaim := { program := "ytppjagbdpmopdaa", sum := "0d87707e2aada43af3d16055627008169305e795ccb984d90aa59d188bc1b840", func := "loop.example/g03305/laws.FnExactCostOf", spec := "fnExactCostOf", inPlace := ["internal/bytealg.CountString", "internal/bytealg.IndexByteString", "internal/bytealg.IndexString"], named := ["internal/bytealg.MaxLen"], apart := false, narrowed := true }
def FnExactCostOfUptoSaid : Prop := fnExactCostOfUptoRow.holds Try.pinned (OpenSpec.upto fnExactCostOfSpec)

end Rows
end Go.Proofs.Ytppjagbdpmopdaa
