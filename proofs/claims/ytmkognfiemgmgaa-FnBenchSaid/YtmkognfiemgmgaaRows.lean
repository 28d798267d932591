/-
  No cell of these rows narrows 'for every input' (looked for: loops, veiled, ifaces, maps, wideKeys, modest, calm, conditions, laid).
  DERIVED. THE GIVEN ROWS OF THIS SEAT. 8 by the template 'for every input the law returns true; each argument reads behind the call as it read before'; 0 by the template 'total and deterministic' (their statements: YtmkognfiemgmgaaTotals.lean).
  GIVEN WITH THE SEED: the statements are not yours to turn. If you find one false, say at which input.
  Laid BY PROGRAM, IN A SANDBOX (cutbox-rows.mjs): the forced cells as the released guide's own fill.sh prints them over the translation 9b573c1e18e79c47… (all of the seat's roots in one cut). By AI agents, Wed Nov 11 2026. No macro, syntax, notation, axiom, sorry.
-/
import Derived.Test.YtmkognfiemgmgaaChecked
import GoSem.Claim
import GoSem.ClaimJoined
import GoSem.ClaimMapViews
import Derived.JoinedTies
import Derived.KernelRfl
namespace Go.Proofs.Ytmkognfiemgmgaa
/- THE CELL 'sum', in the pinned program and in every row, IS THE sha256 OF THE DUMP (.gsa) THAT YtmkognfiemgmgaaProg.lean LOADS. Nothing in Lean hashes anything: it is a label: what it is worth is what the hold of that sum in a sandbox is worth. -/
noncomputable def Try.pinned : Pinned := { name := "ytmkognfiemgmgaa", sum := "9b573c1e18e79c470798189688d380cc71b4df9f99f5279171871d2a477144c9", checked := Try.checked }
namespace Rows
def none {H : Type} : Left H := { results := [], args := [] }

/-- 'laws.FnExactJobsOk': WHATEVER THE INPUT: true; the input reads as it did. -/
def fnExactJobsOkSpec : ChangeSpec := { name := "fnExactJobsOk", fn := fun _ => fun
  | [d] => { results := [.lit (.bool true)], args := [d] }
  | _ => none }
def fnExactJobsOkRow : OpenClaim := { program := "ytmkognfiemgmgaa", sum := "9b573c1e18e79c470798189688d380cc71b4df9f99f5279171871d2a477144c9", func := "loop.example/g03305/laws.FnExactJobsOk", spec := "fnExactJobsOk", apart := false }
def FnExactJobsOkSaid : Prop := fnExactJobsOkRow.holds Try.pinned (OpenSpec.ofChange fnExactJobsOkSpec)

/-- ITS FALSE NEIGHBOUR: 'it returns false'. Refute it at one input. -/
def fnExactJobsOkWrong : ChangeSpec := { name := "fnExactJobsOk", fn := fun _ => fun
  | [d] => { results := [.lit (.bool false)], args := [d] }
  | _ => none }
def FnExactJobsOkWrongFalsely : Prop := fnExactJobsOkRow.holds Try.pinned (OpenSpec.ofChange fnExactJobsOkWrong)

/-- 'laws.FnExactOneByOne': WHATEVER THE INPUT: true; the input reads as it did. -/
def fnExactOneByOneSpec : ChangeSpec := { name := "fnExactOneByOne", fn := fun _ => fun
  | [d] => { results := [.lit (.bool true)], args := [d] }
  | _ => none }
def fnExactOneByOneRow : OpenClaim := { program := "ytmkognfiemgmgaa", sum := "9b573c1e18e79c470798189688d380cc71b4df9f99f5279171871d2a477144c9", func := "loop.example/g03305/laws.FnExactOneByOne", spec := "fnExactOneByOne", apart := false }
def FnExactOneByOneSaid : Prop := fnExactOneByOneRow.holds Try.pinned (OpenSpec.ofChange fnExactOneByOneSpec)

/-- ITS FALSE NEIGHBOUR: 'it returns false'. Refute it at one input. -/
def fnExactOneByOneWrong : ChangeSpec := { name := "fnExactOneByOne", fn := fun _ => fun
  | [d] => { results := [.lit (.bool false)], args := [d] }
  | _ => none }
def FnExactOneByOneWrongFalsely : Prop := fnExactOneByOneRow.holds Try.pinned (OpenSpec.ofChange fnExactOneByOneWrong)

/-- 'laws.FnExactHoursNeeded': WHATEVER THE INPUT: true; the input reads as it did. -/
def fnExactHoursNeededSpec : ChangeSpec := { name := "fnExactHoursNeeded", fn := fun _ => fun
  | [d] => { results := [.lit (.bool true)], args := [d] }
  | _ => none }
def fnExactHoursNeededRow : OpenClaim := { program := "ytmkognfiemgmgaa", sum := "9b573c1e18e79c470798189688d380cc71b4df9f99f5279171871d2a477144c9", func := "loop.example/g03305/laws.FnExactHoursNeeded", spec := "fnExactHoursNeeded", apart := false }
def FnExactHoursNeededSaid : Prop := fnExactHoursNeededRow.holds Try.pinned (OpenSpec.ofChange fnExactHoursNeededSpec)

/-- ITS FALSE NEIGHBOUR: 'it returns false'. Refute it at one input. -/
def fnExactHoursNeededWrong : ChangeSpec := { name := "fnExactHoursNeeded", fn := fun _ => fun
  | [d] => { results := [.lit (.bool false)], args := [d] }
  | _ => none }
def FnExactHoursNeededWrongFalsely : Prop := fnExactHoursNeededRow.holds Try.pinned (OpenSpec.ofChange fnExactHoursNeededWrong)

/-- 'laws.FnExactEarliestOf': WHATEVER THE INPUT: true; the input reads as it did. -/
def fnExactEarliestOfSpec : ChangeSpec := { name := "fnExactEarliestOf", fn := fun _ => fun
  | [d] => { results := [.lit (.bool true)], args := [d] }
  | _ => none }
def fnExactEarliestOfRow : OpenClaim := { program := "ytmkognfiemgmgaa", sum := "9b573c1e18e79c470798189688d380cc71b4df9f99f5279171871d2a477144c9", func := "loop.example/g03305/laws.FnExactEarliestOf", spec := "fnExactEarliestOf", apart := false }
def FnExactEarliestOfSaid : Prop := fnExactEarliestOfRow.holds Try.pinned (OpenSpec.ofChange fnExactEarliestOfSpec)

/-- ITS FALSE NEIGHBOUR: 'it returns false'. Refute it at one input. -/
def fnExactEarliestOfWrong : ChangeSpec := { name := "fnExactEarliestOf", fn := fun _ => fun
  | [d] => { results := [.lit (.bool false)], args := [d] }
  | _ => none }
def FnExactEarliestOfWrongFalsely : Prop := fnExactEarliestOfRow.holds Try.pinned (OpenSpec.ofChange fnExactEarliestOfWrong)

/-- 'laws.FnExactWithWorkers': WHATEVER THE INPUT: true; the input reads as it did. -/
def fnExactWithWorkersSpec : ChangeSpec := { name := "fnExactWithWorkers", fn := fun _ => fun
  | [d1, d2] => { results := [.lit (.bool true)], args := [d1, d2] }
  | _ => none }
def fnExactWithWorkersRow : OpenClaim := { program := "ytmkognfiemgmgaa", sum := "9b573c1e18e79c470798189688d380cc71b4df9f99f5279171871d2a477144c9", func := "loop.example/g03305/laws.FnExactWithWorkers", spec := "fnExactWithWorkers", apart := false }
def FnExactWithWorkersSaid : Prop := fnExactWithWorkersRow.holds Try.pinned (OpenSpec.ofChange fnExactWithWorkersSpec)

/-- ITS FALSE NEIGHBOUR: 'it returns false'. Refute it at one input. -/
def fnExactWithWorkersWrong : ChangeSpec := { name := "fnExactWithWorkers", fn := fun _ => fun
  | [d1, d2] => { results := [.lit (.bool false)], args := [d1, d2] }
  | _ => none }
def FnExactWithWorkersWrongFalsely : Prop := fnExactWithWorkersRow.holds Try.pinned (OpenSpec.ofChange fnExactWithWorkersWrong)

/-- 'laws.FnExactLatestOf': WHATEVER THE INPUT: true; the input reads as it did. -/
def fnExactLatestOfSpec : ChangeSpec := { name := "fnExactLatestOf", fn := fun _ => fun
  | [d] => { results := [.lit (.bool true)], args := [d] }
  | _ => none }
def fnExactLatestOfRow : OpenClaim := { program := "ytmkognfiemgmgaa", sum := "9b573c1e18e79c470798189688d380cc71b4df9f99f5279171871d2a477144c9", func := "loop.example/g03305/laws.FnExactLatestOf", spec := "fnExactLatestOf", apart := false }
def FnExactLatestOfSaid : Prop := fnExactLatestOfRow.holds Try.pinned (OpenSpec.ofChange fnExactLatestOfSpec)

/-- ITS FALSE NEIGHBOUR: 'it returns false'. Refute it at one input. -/
def fnExactLatestOfWrong : ChangeSpec := { name := "fnExactLatestOf", fn := fun _ => fun
  | [d] => { results := [.lit (.bool false)], args := [d] }
  | _ => none }
def FnExactLatestOfWrongFalsely : Prop := fnExactLatestOfRow.holds Try.pinned (OpenSpec.ofChange fnExactLatestOfWrong)

/-- 'laws.FnExactCriticalJobs': WHATEVER THE INPUT: true; the input reads as it did. -/
def fnExactCriticalJobsSpec : ChangeSpec := { name := "fnExactCriticalJobs", fn := fun _ => fun
  | [d] => { results := [.lit (.bool true)], args := [d] }
  | _ => none }
def fnExactCriticalJobsRow : OpenClaim := { program := "ytmkognfiemgmgaa", sum := "9b573c1e18e79c470798189688d380cc71b4df9f99f5279171871d2a477144c9", func := "loop.example/g03305/laws.FnExactCriticalJobs", spec := "fnExactCriticalJobs", apart := false }
def FnExactCriticalJobsSaid : Prop := fnExactCriticalJobsRow.holds Try.pinned (OpenSpec.ofChange fnExactCriticalJobsSpec)

/-- ITS FALSE NEIGHBOUR: 'it returns false'. Refute it at one input. -/
def fnExactCriticalJobsWrong : ChangeSpec := { name := "fnExactCriticalJobs", fn := fun _ => fun
  | [d] => { results := [.lit (.bool false)], args := [d] }
  | _ => none }
def FnExactCriticalJobsWrongFalsely : Prop := fnExactCriticalJobsRow.holds Try.pinned (OpenSpec.ofChange fnExactCriticalJobsWrong)

/-- 'laws.FnBench': WHATEVER THE INPUT: true; the input reads as it did. -/
def fnBenchSpec : ChangeSpec := { name := "fnBench", fn := fun _ => fun
  | [d] => { results := [.lit (.bool true)], args := [d] }
  | _ => none }
def fnBenchRow : OpenClaim := { program := "ytmkognfiemgmgaa", sum := "9b573c1e18e79c470798189688d380cc71b4df9f99f5279171871d2a477144c9", func := "loop.example/g03305/laws.FnBench", spec := "fnBench", apart := false }
def FnBenchSaid : Prop := fnBenchRow.holds Try.pinned (OpenSpec.ofChange fnBenchSpec)

/-- ITS FALSE NEIGHBOUR: 'it returns false'. Refute it at one input. -/
def fnBenchWrong : ChangeSpec := { name := "fnBench", fn := fun _ => fun
  | [d] => { results := [.lit (.bool false)], args := [d] }
  | _ => none }
def FnBenchWrongFalsely : Prop := fnBenchRow.holds Try.pinned (OpenSpec.ofChange fnBenchWrong)

/- THE SECOND FORM. 'bulk': how many values and letters a reading holds, each counted each time it is reached (what is shared counts as often as it is met; a slice's spare places count too). A statement '..UptoSaid' is the law's where the arguments, and the package variables that the reading takes, are together of bulk at most 1048576: NARROWER than '..Said'. Prove '..Said' where nothing that the law and all that it calls make is longer than what came in: it says more and counts as full. Else prove '..UptoSaid'. A law counts once. -/
mutual
def uptoBulk {H : Type} : DataW H → Nat
  | .lit (.string bytes) => bytes.length + 1
  | .lit _ => 1
  | .nil => 1
  | .ptr d => uptoBulk d + 1
  | .slice elems spare => uptoBulkAll elems + uptoBulkAll spare + 1
  | .agg parts => uptoBulkAll parts + 1
  | .iface _ d => uptoBulk d + 1
  | .map entries => uptoBulkEntries entries + 1
  | .held _ => 1
def uptoBulkAll {H : Type} : List (DataW H) → Nat
  | [] => 0
  | d :: r => uptoBulk d + uptoBulkAll r
def uptoBulkEntries {H : Type} : List (Lit × DataW H) → Nat
  | [] => 0
  | x :: r => uptoBulkEntry x + uptoBulkEntries r
def uptoBulkEntry {H : Type} : Lit × DataW H → Nat
  | (.string bytes, d) => bytes.length + uptoBulk d + 1
  | (_, d) => uptoBulk d + 1
 end
def uptoSmall : (H : Type) → List (DataW H) → Bool := fun _ ds => decide (uptoBulkAll ds ≤ 1048576)
def OpenSpec.upto (s : _root_.Go.ChangeSpec) : _root_.Go.OpenSpec := { _root_.Go.OpenSpec.ofChange s with cond := some uptoSmall }

/-- 'laws.FnExactJobsOk', WHERE WHAT IT READS IS OF BULK AT MOST 1048576: true; the input reads as it did. -/
def fnExactJobsOkUptoRow : OpenClaim := { program := "ytmkognfiemgmgaa", sum := "9b573c1e18e79c470798189688d380cc71b4df9f99f5279171871d2a477144c9", func := "loop.example/g03305/laws.FnExactJobsOk", spec := "fnExactJobsOk", apart := false, narrowed := true }
def FnExactJobsOkUptoSaid : Prop := fnExactJobsOkUptoRow.holds Try.pinned (OpenSpec.upto fnExactJobsOkSpec)

/-- 'laws.FnExactOneByOne', WHERE WHAT IT READS IS OF BULK AT MOST 1048576: true; the input reads as it did. -/
def fnExactOneByOneUptoRow : OpenClaim := { program := "ytmkognfiemgmgaa", sum := "9b573c1e18e79c470798189688d380cc71b4df9f99f5279171871d2a477144c9", func := "loop.example/g03305/laws.FnExactOneByOne", spec := "fnExactOneByOne", apart := false, narrowed := true }
def FnExactOneByOneUptoSaid : Prop := fnExactOneByOneUptoRow.holds Try.pinned (OpenSpec.upto fnExactOneByOneSpec)

/-- 'laws.FnExactHoursNeeded', WHERE WHAT IT READS IS OF BULK AT MOST 1048576: true; the input reads as it did. -/
def fnExactHoursNeededUptoRow : OpenClaim := { program := "ytmkognfiemgmgaa", sum := "9b573c1e18e79c470798189688d380cc71b4df9f99f5279171871d2a477144c9", func := "loop.example/g03305/laws.FnExactHoursNeeded", spec := "fnExactHoursNeeded", apart := false, narrowed := true }
def FnExactHoursNeededUptoSaid : Prop := fnExactHoursNeededUptoRow.holds Try.pinned (OpenSpec.upto fnExactHoursNeededSpec)

/-- 'laws.FnExactEarliestOf', WHERE WHAT IT READS IS OF BULK AT MOST 1048576: true; the input reads as it did. -/
def fnExactEarliestOfUptoRow : OpenClaim := { program := "ytmkognfiemgmgaa", sum := "9b573c1e18e79c470798189688d380cc71b4df9f99f5279171871d2a477144c9", func := "loop.example/g03305/laws.FnExactEarliestOf", spec := "fnExactEarliestOf", apart := false, narrowed := true }
def FnExactEarliestOfUptoSaid : Prop := fnExactEarliestOfUptoRow.holds Try.pinned (OpenSpec.upto fnExactEarliestOfSpec)

/-- 'laws.FnExactWithWorkers', WHERE WHAT IT READS IS OF BULK AT MOST 1048576: true; the input reads as it did. -/
def fnExactWithWorkersUptoRow : OpenClaim := { program := "ytmkognfiemgmgaa", sum := "9b573c1e18e79c470798189688d380cc71b4df9f99f5279171871d2a477144c9", func := "loop.example/g03305/laws.FnExactWithWorkers", spec := "fnExactWithWorkers", apart := false, narrowed := true }
def FnExactWithWorkersUptoSaid : Prop := fnExactWithWorkersUptoRow.holds Try.pinned (OpenSpec.upto fnExactWithWorkersSpec)

/-- 'laws.FnExactLatestOf', WHERE WHAT IT READS IS OF BULK AT MOST 1048576: true; the input reads as it did. -/
def fnExactLatestOfUptoRow : OpenClaim := { program := "ytmkognfiemgmgaa", sum := "9b573c1e18e79c470798189688d380cc71b4df9f99f5279171871d2a477144c9", func := "loop.example/g03305/laws.FnExactLatestOf", spec := "fnExactLatestOf", apart := false, narrowed := true }
def FnExactLatestOfUptoSaid : Prop := fnExactLatestOfUptoRow.holds Try.pinned (OpenSpec.upto fnExactLatestOfSpec)

/-- 'laws.FnExactCriticalJobs', WHERE WHAT IT READS IS OF BULK AT MOST 1048576: true; the input reads as it did. -/
def fnExactCriticalJobsUptoRow : OpenClaim := { program := "ytmkognfiemgmgaa", sum := "9b573c1e18e79c470798189688d380cc71b4df9f99f5279171871d2a477144c9", func := "loop.example/g03305/laws.FnExactCriticalJobs", spec := "fnExactCriticalJobs", apart := false, narrowed := true }
def FnExactCriticalJobsUptoSaid : Prop := fnExactCriticalJobsUptoRow.holds Try.pinned (OpenSpec.upto fnExactCriticalJobsSpec)

/-- 'laws.FnBench', WHERE WHAT IT READS IS OF BULK AT MOST 1048576: true; the input reads as it did. -/
def fnBenchUptoRow : OpenClaim := { program := "ytmkognfiemgmgaa", sum := "9b573c1e18e79c470798189688d380cc71b4df9f99f5279171871d2a477144c9", func := "loop.example/g03305/laws.FnBench", spec := "fnBench", apart := false, narrowed := true }
def FnBenchUptoSaid : Prop := fnBenchUptoRow.holds Try.pinned (OpenSpec.upto fnBenchSpec)

end Rows
end Go.Proofs.Ytmkognfiemgmgaa
