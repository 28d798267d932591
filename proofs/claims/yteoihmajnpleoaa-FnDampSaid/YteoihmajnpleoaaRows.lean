/-
  No cell of these rows narrows 'for every input' (looked for: loops, veiled, ifaces, maps, wideKeys, modest, calm, conditions, laid).
  DERIVED. THE GIVEN ROWS OF THIS SEAT. 6 by the template 'for every input the law returns true; each argument reads behind the call as it read before'; 0 by the template 'total and deterministic' (their statements: YteoihmajnpleoaaTotals.lean).
  GIVEN WITH THE SEED: the statements are not yours to turn. If you find one false, say at which input.
  Laid BY PROGRAM, IN A SANDBOX (cutbox-rows.mjs): the forced cells as the released guide's own fill.sh prints them over the translation e944ee08b2f8041f… (all of the seat's roots in one cut). By AI agents, Wed Nov 11 2026. No macro, syntax, notation, axiom, sorry.
-/
import Derived.Test.YteoihmajnpleoaaChecked
import GoSem.Claim
import GoSem.ClaimJoined
import GoSem.ClaimMapViews
import Derived.JoinedTies
import Derived.KernelRfl
namespace Go.Proofs.Yteoihmajnpleoaa
/- THE CELL 'sum', in the pinned program and in every row, IS THE sha256 OF THE DUMP (.gsa) THAT YteoihmajnpleoaaProg.lean LOADS. Nothing in Lean hashes anything: it is a label: what it is worth is what the hold of that sum in a sandbox is worth. -/
noncomputable def Try.pinned : Pinned := { name := "yteoihmajnpleoaa", sum := "e944ee08b2f8041f3682198130e02c37aed9c4918dbcb141b0a34ca0893e04fb", checked := Try.checked }
namespace Rows
def none {H : Type} : Left H := { results := [], args := [] }

/-- 'laws.FnExactRackOk': WHATEVER THE INPUT: true; the input reads as it did. -/
def fnExactRackOkSpec : ChangeSpec := { name := "fnExactRackOk", fn := fun _ => fun
  | [d] => { results := [.lit (.bool true)], args := [d] }
  | _ => none }
def fnExactRackOkRow : OpenClaim := { program := "yteoihmajnpleoaa", sum := "e944ee08b2f8041f3682198130e02c37aed9c4918dbcb141b0a34ca0893e04fb", func := "loop.example/g03305/laws.FnExactRackOk", spec := "fnExactRackOk", unfollowed := true, recurses := true, apart := false }
def FnExactRackOkSaid : Prop := fnExactRackOkRow.holds Try.pinned (OpenSpec.ofChange fnExactRackOkSpec)

/-- ITS FALSE NEIGHBOUR: 'it returns false'. Refute it at one input. -/
def fnExactRackOkWrong : ChangeSpec := { name := "fnExactRackOk", fn := fun _ => fun
  | [d] => { results := [.lit (.bool false)], args := [d] }
  | _ => none }
def FnExactRackOkWrongFalsely : Prop := fnExactRackOkRow.holds Try.pinned (OpenSpec.ofChange fnExactRackOkWrong)

/-- 'laws.FnExactHangCard': WHATEVER THE INPUT: true; the input reads as it did. -/
def fnExactHangCardSpec : ChangeSpec := { name := "fnExactHangCard", fn := fun _ => fun
  | [d1, d2] => { results := [.lit (.bool true)], args := [d1, d2] }
  | _ => none }
def fnExactHangCardRow : OpenClaim := { program := "yteoihmajnpleoaa", sum := "e944ee08b2f8041f3682198130e02c37aed9c4918dbcb141b0a34ca0893e04fb", func := "loop.example/g03305/laws.FnExactHangCard", spec := "fnExactHangCard", unfollowed := true, recurses := true, apart := false }
def FnExactHangCardSaid : Prop := fnExactHangCardRow.holds Try.pinned (OpenSpec.ofChange fnExactHangCardSpec)

/-- ITS FALSE NEIGHBOUR: 'it returns false'. Refute it at one input. -/
def fnExactHangCardWrong : ChangeSpec := { name := "fnExactHangCard", fn := fun _ => fun
  | [d1, d2] => { results := [.lit (.bool false)], args := [d1, d2] }
  | _ => none }
def FnExactHangCardWrongFalsely : Prop := fnExactHangCardRow.holds Try.pinned (OpenSpec.ofChange fnExactHangCardWrong)

/-- 'laws.FnExactHoursUntilFree': WHATEVER THE INPUT: true; the input reads as it did. -/
def fnExactHoursUntilFreeSpec : ChangeSpec := { name := "fnExactHoursUntilFree", fn := fun _ => fun
  | [d1, d2] => { results := [.lit (.bool true)], args := [d1, d2] }
  | _ => none }
def fnExactHoursUntilFreeRow : OpenClaim := { program := "yteoihmajnpleoaa", sum := "e944ee08b2f8041f3682198130e02c37aed9c4918dbcb141b0a34ca0893e04fb", func := "loop.example/g03305/laws.FnExactHoursUntilFree", spec := "fnExactHoursUntilFree", unfollowed := true, recurses := true, apart := false }
def FnExactHoursUntilFreeSaid : Prop := fnExactHoursUntilFreeRow.holds Try.pinned (OpenSpec.ofChange fnExactHoursUntilFreeSpec)

/-- ITS FALSE NEIGHBOUR: 'it returns false'. Refute it at one input. -/
def fnExactHoursUntilFreeWrong : ChangeSpec := { name := "fnExactHoursUntilFree", fn := fun _ => fun
  | [d1, d2] => { results := [.lit (.bool false)], args := [d1, d2] }
  | _ => none }
def FnExactHoursUntilFreeWrongFalsely : Prop := fnExactHoursUntilFreeRow.holds Try.pinned (OpenSpec.ofChange fnExactHoursUntilFreeWrong)

/-- 'laws.FnExactWaitHours': WHATEVER THE INPUT: true; the input reads as it did. -/
def fnExactWaitHoursSpec : ChangeSpec := { name := "fnExactWaitHours", fn := fun _ => fun
  | [d1, d2] => { results := [.lit (.bool true)], args := [d1, d2] }
  | _ => none }
def fnExactWaitHoursRow : OpenClaim := { program := "yteoihmajnpleoaa", sum := "e944ee08b2f8041f3682198130e02c37aed9c4918dbcb141b0a34ca0893e04fb", func := "loop.example/g03305/laws.FnExactWaitHours", spec := "fnExactWaitHours", unfollowed := true, recurses := true, apart := false }
def FnExactWaitHoursSaid : Prop := fnExactWaitHoursRow.holds Try.pinned (OpenSpec.ofChange fnExactWaitHoursSpec)

/-- ITS FALSE NEIGHBOUR: 'it returns false'. Refute it at one input. -/
def fnExactWaitHoursWrong : ChangeSpec := { name := "fnExactWaitHours", fn := fun _ => fun
  | [d1, d2] => { results := [.lit (.bool false)], args := [d1, d2] }
  | _ => none }
def FnExactWaitHoursWrongFalsely : Prop := fnExactWaitHoursRow.holds Try.pinned (OpenSpec.ofChange fnExactWaitHoursWrong)

/-- 'laws.FnExactDryAll': WHATEVER THE INPUT: true; the input reads as it did. -/
def fnExactDryAllSpec : ChangeSpec := { name := "fnExactDryAll", fn := fun _ => fun
  | [d1, d2] => { results := [.lit (.bool true)], args := [d1, d2] }
  | _ => none }
def fnExactDryAllRow : OpenClaim := { program := "yteoihmajnpleoaa", sum := "e944ee08b2f8041f3682198130e02c37aed9c4918dbcb141b0a34ca0893e04fb", func := "loop.example/g03305/laws.FnExactDryAll", spec := "fnExactDryAll", unfollowed := true, recurses := true, apart := false }
def FnExactDryAllSaid : Prop := fnExactDryAllRow.holds Try.pinned (OpenSpec.ofChange fnExactDryAllSpec)

/-- ITS FALSE NEIGHBOUR: 'it returns false'. Refute it at one input. -/
def fnExactDryAllWrong : ChangeSpec := { name := "fnExactDryAll", fn := fun _ => fun
  | [d1, d2] => { results := [.lit (.bool false)], args := [d1, d2] }
  | _ => none }
def FnExactDryAllWrongFalsely : Prop := fnExactDryAllRow.holds Try.pinned (OpenSpec.ofChange fnExactDryAllWrong)

/-- 'laws.FnDamp': WHATEVER THE INPUT: true; the input reads as it did. -/
def fnDampSpec : ChangeSpec := { name := "fnDamp", fn := fun _ => fun
  | [d] => { results := [.lit (.bool true)], args := [d] }
  | _ => none }
def fnDampRow : OpenClaim := { program := "yteoihmajnpleoaa", sum := "e944ee08b2f8041f3682198130e02c37aed9c4918dbcb141b0a34ca0893e04fb", func := "loop.example/g03305/laws.FnDamp", spec := "fnDamp", unfollowed := true, recurses := true, apart := false }
def FnDampSaid : Prop := fnDampRow.holds Try.pinned (OpenSpec.ofChange fnDampSpec)

/-- ITS FALSE NEIGHBOUR: 'it returns false'. Refute it at one input. -/
def fnDampWrong : ChangeSpec := { name := "fnDamp", fn := fun _ => fun
  | [d] => { results := [.lit (.bool false)], args := [d] }
  | _ => none }
def FnDampWrongFalsely : Prop := fnDampRow.holds Try.pinned (OpenSpec.ofChange fnDampWrong)

/- THE SECOND FORM. 'bulk': how many values and letters a reading holds, each counted each time it is reached (what is shared counts as often as it is met; a slice's spare places count too). A statement '..UptoSaid' is the law's where the arguments, and the package variables that the reading takes, are together of bulk at most 1048576: NARROWER than '..Said'. Prove '..Said' where nothing that the law and all that it calls make is longer than what came in: it says more and counts as full. Else prove '..UptoSaid'. A law counts once. -/
mutual
def uptoBulk {H : Type} : DataW H → Nat
  | .lit (.string bytes) => bytes.length + 1
  | .lit _ => 1
  | .nil => 1
  | .ptr d => uptoBulk d + 1
  | .slice elems spare => uptoBulkAll elems + uptoBulkAll spare + 1
  | .agg parts => uptoBulkAll parts + 1
  | .iface _ d => uptoBulk d + 1
  | .map entries => uptoBulkEntries entries + 1
  | .held _ => 1
def uptoBulkAll {H : Type} : List (DataW H) → Nat
  | [] => 0
  | d :: r => uptoBulk d + uptoBulkAll r
def uptoBulkEntries {H : Type} : List (Lit × DataW H) → Nat
  | [] => 0
  | x :: r => uptoBulkEntry x + uptoBulkEntries r
def uptoBulkEntry {H : Type} : Lit × DataW H → Nat
  | (.string bytes, d) => bytes.length + uptoBulk d + 1
  | (_, d) => uptoBulk d + 1
 end
def uptoSmall : (H : Type) → List (DataW H) → Bool := fun _ ds => decide (uptoBulkAll ds ≤ 1048576)
def OpenSpec.upto (s : _root_.Go.ChangeSpec) : _root_.Go.OpenSpec := { _root_.Go.OpenSpec.ofChange s with cond := some uptoSmall }

/-- 'laws.FnExactRackOk', WHERE WHAT IT READS IS OF BULK AT MOST 1048576: true; the input reads as it did. -/
def fnExactRackOkUptoRow : OpenClaim := { program := "yteoihmajnpleoaa", sum := "e944ee08b2f8041f3682198130e02c37aed9c4918dbcb141b0a34ca0893e04fb", func := "loop.example/g03305/laws.FnExactRackOk", spec := "fnExactRackOk", unfollowed := true, recurses := true, apart := false, narrowed := true }
def FnExactRackOkUptoSaid : Prop := fnExactRackOkUptoRow.holds Try.pinned (OpenSpec.upto fnExactRackOkSpec)

/-- 'laws.FnExactHangCard', WHERE WHAT IT READS IS OF BULK AT MOST 1048576: true; the input reads as it did. -/
def fnExactHangCardUptoRow : OpenClaim := { program := "yteoihmajnpleoaa", sum := "e944ee08b2f8041f3682198130e02c37aed9c4918dbcb141b0a34ca0893e04fb", func := "loop.example/g03305/laws.FnExactHangCard", spec := "fnExactHangCard", unfollowed := true, recurses := true, apart := false, narrowed := true }
def FnExactHangCardUptoSaid : Prop := fnExactHangCardUptoRow.holds Try.pinned (OpenSpec.upto fnExactHangCardSpec)

/-- 'laws.FnExactHoursUntilFree', WHERE WHAT IT READS IS OF BULK AT MOST 1048576: true; the input reads as it did. -/
def fnExactHoursUntilFreeUptoRow : OpenClaim := { program := "yteoihmajnpleoaa", sum := "e944ee08b2f8041f3682198130e02c37aed9c4918dbcb141b0a34ca0893e04fb", func := "loop.example/g03305/laws.FnExactHoursUntilFree", spec := "fnExactHoursUntilFree", unfollowed := true, recurses := true, apart := false, narrowed := true }
def FnExactHoursUntilFreeUptoSaid : Prop := fnExactHoursUntilFreeUptoRow.holds Try.pinned (OpenSpec.upto fnExactHoursUntilFreeSpec)

/-- 'laws.FnExactWaitHours', WHERE WHAT IT READS IS OF BULK AT MOST 1048576: true; the input reads as it did. -/
def fnExactWaitHoursUptoRow : OpenClaim := { program := "yteoihmajnpleoaa", sum := "e944ee08b2f8041f3682198130e02c37aed9c4918dbcb141b0a34ca0893e04fb", func := "loop.example/g03305/laws.FnExactWaitHours", spec := "fnExactWaitHours", unfollowed := true, recurses := true, apart := false, narrowed := true }
def FnExactWaitHoursUptoSaid : Prop := fnExactWaitHoursUptoRow.holds Try.pinned (OpenSpec.upto fnExactWaitHoursSpec)

/-- 'laws.FnExactDryAll', WHERE WHAT IT READS IS OF BULK AT MOST 1048576: true; the input reads as it did. -/
def fnExactDryAllUptoRow : OpenClaim := { program := "yteoihmajnpleoaa", sum := "e944ee08b2f8041f3682198130e02c37aed9c4918dbcb141b0a34ca0893e04fb", func := "loop.example/g03305/laws.FnExactDryAll", spec := "fnExactDryAll", unfollowed := true, recurses := true, apart := false, narrowed := true }
def FnExactDryAllUptoSaid : Prop := fnExactDryAllUptoRow.holds Try.pinned (OpenSpec.upto fnExactDryAllSpec)

/-- 'laws.FnDamp', WHERE WHAT IT READS IS OF BULK AT MOST 1048576: true; the input reads as it did. -/
def fnDampUptoRow : OpenClaim := { program := "yteoihmajnpleoaa", sum := "e944ee08b2f8041f3682198130e02c37aed9c4918dbcb141b0a34ca0893e04fb", func := "loop.example/g03305/laws.FnDamp", spec := "fnDamp", unfollowed := true, recurses := true, apart := false, narrowed := true }
def FnDampUptoSaid : Prop := fnDampUptoRow.holds Try.pinned (OpenSpec.upto fnDampSpec)

end Rows
end Go.Proofs.Yteoihmajnpleoaa
