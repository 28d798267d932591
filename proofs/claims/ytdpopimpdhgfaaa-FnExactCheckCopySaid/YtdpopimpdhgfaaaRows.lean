/-
  No cell of these rows narrows 'for every input' (looked for: loops, veiled, ifaces, maps, wideKeys, modest, calm, conditions, laid).
  DERIVED. THE GIVEN ROWS OF THIS SEAT. 11 by the template 'for every input the law returns true; each argument reads behind the call as it read before'; 0 by the template 'total and deterministic' (their statements: YtdpopimpdhgfaaaTotals.lean).
  GIVEN WITH THE SEED: the statements are not yours to turn. If you find one false, say at which input.
  Laid BY PROGRAM, IN A SANDBOX (cutbox-rows.mjs): the forced cells as the released guide's own fill.sh prints them over the translation cb4783a8fb02c912… (all of the seat's roots in one cut). By AI agents, Wed Nov 11 2026. No macro, syntax, notation, axiom, sorry.
-/
import Derived.Test.YtdpopimpdhgfaaaChecked
import GoSem.Claim
import GoSem.ClaimJoined
import GoSem.ClaimMapViews
import Derived.JoinedTies
import Derived.KernelRfl
namespace Go.Proofs.Ytdpopimpdhgfaaa
/- THE CELL 'sum', in the pinned program and in every row, IS THE sha256 OF THE DUMP (.gsa) THAT YtdpopimpdhgfaaaProg.lean LOADS. Nothing in Lean hashes anything: it is a label: what it is worth is what the hold of that sum in a sandbox is worth. -/
noncomputable def Try.pinned : Pinned := { name := "ytdpopimpdhgfaaa", sum := "cb4783a8fb02c9127d1999bf1ec6e229954ede7bd9d073e7799aad5b5ba24536", checked := Try.checked }
namespace Rows
def none {H : Type} : Left H := { results := [], args := [] }

/-- 'laws.FnExactEditionOk': WHATEVER THE INPUT: true; the input reads as it did. -/
def fnExactEditionOkSpec : ChangeSpec := { name := "fnExactEditionOk", fn := fun _ => fun
  | [d] => { results := [.lit (.bool true)], args := [d] }
  | _ => none }
def fnExactEditionOkRow : OpenClaim := { program := "ytdpopimpdhgfaaa", sum := "cb4783a8fb02c9127d1999bf1ec6e229954ede7bd9d073e7799aad5b5ba24536", func := "loop.example/g03305/laws.FnExactEditionOk", spec := "fnExactEditionOk", apart := false }
def FnExactEditionOkSaid : Prop := fnExactEditionOkRow.holds Try.pinned (OpenSpec.ofChange fnExactEditionOkSpec)

/-- ITS FALSE NEIGHBOUR: 'it returns false'. Refute it at one input. -/
def fnExactEditionOkWrong : ChangeSpec := { name := "fnExactEditionOk", fn := fun _ => fun
  | [d] => { results := [.lit (.bool false)], args := [d] }
  | _ => none }
def FnExactEditionOkWrongFalsely : Prop := fnExactEditionOkRow.holds Try.pinned (OpenSpec.ofChange fnExactEditionOkWrong)

/-- 'laws.FnExactSellNumber': WHATEVER THE INPUT: true; the input reads as it did. -/
def fnExactSellNumberSpec : ChangeSpec := { name := "fnExactSellNumber", fn := fun _ => fun
  | [d1, d2] => { results := [.lit (.bool true)], args := [d1, d2] }
  | _ => none }
def fnExactSellNumberRow : OpenClaim := { program := "ytdpopimpdhgfaaa", sum := "cb4783a8fb02c9127d1999bf1ec6e229954ede7bd9d073e7799aad5b5ba24536", func := "loop.example/g03305/laws.FnExactSellNumber", spec := "fnExactSellNumber", apart := false }
def FnExactSellNumberSaid : Prop := fnExactSellNumberRow.holds Try.pinned (OpenSpec.ofChange fnExactSellNumberSpec)

/-- ITS FALSE NEIGHBOUR: 'it returns false'. Refute it at one input. -/
def fnExactSellNumberWrong : ChangeSpec := { name := "fnExactSellNumber", fn := fun _ => fun
  | [d1, d2] => { results := [.lit (.bool false)], args := [d1, d2] }
  | _ => none }
def FnExactSellNumberWrongFalsely : Prop := fnExactSellNumberRow.holds Try.pinned (OpenSpec.ofChange fnExactSellNumberWrong)

/-- 'laws.FnExactFreeNumbers': WHATEVER THE INPUT: true; the input reads as it did. -/
def fnExactFreeNumbersSpec : ChangeSpec := { name := "fnExactFreeNumbers", fn := fun _ => fun
  | [d] => { results := [.lit (.bool true)], args := [d] }
  | _ => none }
def fnExactFreeNumbersRow : OpenClaim := { program := "ytdpopimpdhgfaaa", sum := "cb4783a8fb02c9127d1999bf1ec6e229954ede7bd9d073e7799aad5b5ba24536", func := "loop.example/g03305/laws.FnExactFreeNumbers", spec := "fnExactFreeNumbers", apart := false }
def FnExactFreeNumbersSaid : Prop := fnExactFreeNumbersRow.holds Try.pinned (OpenSpec.ofChange fnExactFreeNumbersSpec)

/-- ITS FALSE NEIGHBOUR: 'it returns false'. Refute it at one input. -/
def fnExactFreeNumbersWrong : ChangeSpec := { name := "fnExactFreeNumbers", fn := fun _ => fun
  | [d] => { results := [.lit (.bool false)], args := [d] }
  | _ => none }
def FnExactFreeNumbersWrongFalsely : Prop := fnExactFreeNumbersRow.holds Try.pinned (OpenSpec.ofChange fnExactFreeNumbersWrong)

/-- 'laws.FnExactReturnNumber': WHATEVER THE INPUT: true; the input reads as it did. -/
def fnExactReturnNumberSpec : ChangeSpec := { name := "fnExactReturnNumber", fn := fun _ => fun
  | [d1, d2] => { results := [.lit (.bool true)], args := [d1, d2] }
  | _ => none }
def fnExactReturnNumberRow : OpenClaim := { program := "ytdpopimpdhgfaaa", sum := "cb4783a8fb02c9127d1999bf1ec6e229954ede7bd9d073e7799aad5b5ba24536", func := "loop.example/g03305/laws.FnExactReturnNumber", spec := "fnExactReturnNumber", apart := false }
def FnExactReturnNumberSaid : Prop := fnExactReturnNumberRow.holds Try.pinned (OpenSpec.ofChange fnExactReturnNumberSpec)

/-- ITS FALSE NEIGHBOUR: 'it returns false'. Refute it at one input. -/
def fnExactReturnNumberWrong : ChangeSpec := { name := "fnExactReturnNumber", fn := fun _ => fun
  | [d1, d2] => { results := [.lit (.bool false)], args := [d1, d2] }
  | _ => none }
def FnExactReturnNumberWrongFalsely : Prop := fnExactReturnNumberRow.holds Try.pinned (OpenSpec.ofChange fnExactReturnNumberWrong)

/-- 'laws.FnExactSellNext': WHATEVER THE INPUT: true; the input reads as it did. -/
def fnExactSellNextSpec : ChangeSpec := { name := "fnExactSellNext", fn := fun _ => fun
  | [d] => { results := [.lit (.bool true)], args := [d] }
  | _ => none }
def fnExactSellNextRow : OpenClaim := { program := "ytdpopimpdhgfaaa", sum := "cb4783a8fb02c9127d1999bf1ec6e229954ede7bd9d073e7799aad5b5ba24536", func := "loop.example/g03305/laws.FnExactSellNext", spec := "fnExactSellNext", apart := false }
def FnExactSellNextSaid : Prop := fnExactSellNextRow.holds Try.pinned (OpenSpec.ofChange fnExactSellNextSpec)

/-- ITS FALSE NEIGHBOUR: 'it returns false'. Refute it at one input. -/
def fnExactSellNextWrong : ChangeSpec := { name := "fnExactSellNext", fn := fun _ => fun
  | [d] => { results := [.lit (.bool false)], args := [d] }
  | _ => none }
def FnExactSellNextWrongFalsely : Prop := fnExactSellNextRow.holds Try.pinned (OpenSpec.ofChange fnExactSellNextWrong)

/-- 'laws.FnExactSoldParts': WHATEVER THE INPUT: true; the input reads as it did. -/
def fnExactSoldPartsSpec : ChangeSpec := { name := "fnExactSoldParts", fn := fun _ => fun
  | [d] => { results := [.lit (.bool true)], args := [d] }
  | _ => none }
def fnExactSoldPartsRow : OpenClaim := { program := "ytdpopimpdhgfaaa", sum := "cb4783a8fb02c9127d1999bf1ec6e229954ede7bd9d073e7799aad5b5ba24536", func := "loop.example/g03305/laws.FnExactSoldParts", spec := "fnExactSoldParts", recurses := true, apart := false }
def FnExactSoldPartsSaid : Prop := fnExactSoldPartsRow.holds Try.pinned (OpenSpec.ofChange fnExactSoldPartsSpec)

/-- ITS FALSE NEIGHBOUR: 'it returns false'. Refute it at one input. -/
def fnExactSoldPartsWrong : ChangeSpec := { name := "fnExactSoldParts", fn := fun _ => fun
  | [d] => { results := [.lit (.bool false)], args := [d] }
  | _ => none }
def FnExactSoldPartsWrongFalsely : Prop := fnExactSoldPartsRow.holds Try.pinned (OpenSpec.ofChange fnExactSoldPartsWrong)

/-- 'laws.FnSeries': WHATEVER THE INPUT: true; the input reads as it did. -/
def fnSeriesSpec : ChangeSpec := { name := "fnSeries", fn := fun _ => fun
  | [d] => { results := [.lit (.bool true)], args := [d] }
  | _ => none }
def fnSeriesRow : OpenClaim := { program := "ytdpopimpdhgfaaa", sum := "cb4783a8fb02c9127d1999bf1ec6e229954ede7bd9d073e7799aad5b5ba24536", func := "loop.example/g03305/laws.FnSeries", spec := "fnSeries", recurses := true, apart := false }
def FnSeriesSaid : Prop := fnSeriesRow.holds Try.pinned (OpenSpec.ofChange fnSeriesSpec)

/-- ITS FALSE NEIGHBOUR: 'it returns false'. Refute it at one input. -/
def fnSeriesWrong : ChangeSpec := { name := "fnSeries", fn := fun _ => fun
  | [d] => { results := [.lit (.bool false)], args := [d] }
  | _ => none }
def FnSeriesWrongFalsely : Prop := fnSeriesRow.holds Try.pinned (OpenSpec.ofChange fnSeriesWrong)

/-- 'laws.FnExactLotOk': WHATEVER THE INPUT: true; the input reads as it did. -/
def fnExactLotOkSpec : ChangeSpec := { name := "fnExactLotOk", fn := fun _ => fun
  | [d] => { results := [.lit (.bool true)], args := [d] }
  | _ => none }
def fnExactLotOkRow : OpenClaim := { program := "ytdpopimpdhgfaaa", sum := "cb4783a8fb02c9127d1999bf1ec6e229954ede7bd9d073e7799aad5b5ba24536", func := "loop.example/g03305/laws.FnExactLotOk", spec := "fnExactLotOk", apart := false }
def FnExactLotOkSaid : Prop := fnExactLotOkRow.holds Try.pinned (OpenSpec.ofChange fnExactLotOkSpec)

/-- ITS FALSE NEIGHBOUR: 'it returns false'. Refute it at one input. -/
def fnExactLotOkWrong : ChangeSpec := { name := "fnExactLotOk", fn := fun _ => fun
  | [d] => { results := [.lit (.bool false)], args := [d] }
  | _ => none }
def FnExactLotOkWrongFalsely : Prop := fnExactLotOkRow.holds Try.pinned (OpenSpec.ofChange fnExactLotOkWrong)

/-- 'laws.FnExactIsAccepted': WHATEVER THE INPUT: true; the input reads as it did. -/
def fnExactIsAcceptedSpec : ChangeSpec := { name := "fnExactIsAccepted", fn := fun _ => fun
  | [d1, d2, d3] => { results := [.lit (.bool true)], args := [d1, d2, d3] }
  | _ => none }
def fnExactIsAcceptedRow : OpenClaim := { program := "ytdpopimpdhgfaaa", sum := "cb4783a8fb02c9127d1999bf1ec6e229954ede7bd9d073e7799aad5b5ba24536", func := "loop.example/g03305/laws.FnExactIsAccepted", spec := "fnExactIsAccepted", apart := false }
def FnExactIsAcceptedSaid : Prop := fnExactIsAcceptedRow.holds Try.pinned (OpenSpec.ofChange fnExactIsAcceptedSpec)

/-- ITS FALSE NEIGHBOUR: 'it returns false'. Refute it at one input. -/
def fnExactIsAcceptedWrong : ChangeSpec := { name := "fnExactIsAccepted", fn := fun _ => fun
  | [d1, d2, d3] => { results := [.lit (.bool false)], args := [d1, d2, d3] }
  | _ => none }
def FnExactIsAcceptedWrongFalsely : Prop := fnExactIsAcceptedRow.holds Try.pinned (OpenSpec.ofChange fnExactIsAcceptedWrong)

/-- 'laws.FnExactNextToCheck': WHATEVER THE INPUT: true; the input reads as it did. -/
def fnExactNextToCheckSpec : ChangeSpec := { name := "fnExactNextToCheck", fn := fun _ => fun
  | [d1, d2] => { results := [.lit (.bool true)], args := [d1, d2] }
  | _ => none }
def fnExactNextToCheckRow : OpenClaim := { program := "ytdpopimpdhgfaaa", sum := "cb4783a8fb02c9127d1999bf1ec6e229954ede7bd9d073e7799aad5b5ba24536", func := "loop.example/g03305/laws.FnExactNextToCheck", spec := "fnExactNextToCheck", apart := false }
def FnExactNextToCheckSaid : Prop := fnExactNextToCheckRow.holds Try.pinned (OpenSpec.ofChange fnExactNextToCheckSpec)

/-- ITS FALSE NEIGHBOUR: 'it returns false'. Refute it at one input. -/
def fnExactNextToCheckWrong : ChangeSpec := { name := "fnExactNextToCheck", fn := fun _ => fun
  | [d1, d2] => { results := [.lit (.bool false)], args := [d1, d2] }
  | _ => none }
def FnExactNextToCheckWrongFalsely : Prop := fnExactNextToCheckRow.holds Try.pinned (OpenSpec.ofChange fnExactNextToCheckWrong)

/-- 'laws.FnExactCheckCopy': WHATEVER THE INPUT: true; the input reads as it did. -/
def fnExactCheckCopySpec : ChangeSpec := { name := "fnExactCheckCopy", fn := fun _ => fun
  | [d1, d2, d3] => { results := [.lit (.bool true)], args := [d1, d2, d3] }
  | _ => none }
def fnExactCheckCopyRow : OpenClaim := { program := "ytdpopimpdhgfaaa", sum := "cb4783a8fb02c9127d1999bf1ec6e229954ede7bd9d073e7799aad5b5ba24536", func := "loop.example/g03305/laws.FnExactCheckCopy", spec := "fnExactCheckCopy", inPlace := ["slices.overlaps[int]"], apart := false }
def FnExactCheckCopySaid : Prop := fnExactCheckCopyRow.holds Try.pinned (OpenSpec.ofChange fnExactCheckCopySpec)

/-- ITS FALSE NEIGHBOUR: 'it returns false'. Refute it at one input. -/
def fnExactCheckCopyWrong : ChangeSpec := { name := "fnExactCheckCopy", fn := fun _ => fun
  | [d1, d2, d3] => { results := [.lit (.bool false)], args := [d1, d2, d3] }
  | _ => none }
def FnExactCheckCopyWrongFalsely : Prop := fnExactCheckCopyRow.holds Try.pinned (OpenSpec.ofChange fnExactCheckCopyWrong)

/- THE SECOND FORM. 'bulk': how many values and letters a reading holds, each counted each time it is reached (what is shared counts as often as it is met; a slice's spare places count too). A statement '..UptoSaid' is the law's where the arguments, and the package variables that the reading takes, are together of bulk at most 1048576: NARROWER than '..Said'. Prove '..Said' where nothing that the law and all that it calls make is longer than what came in: it says more and counts as full. Else prove '..UptoSaid'. A law counts once. -/
mutual
def uptoBulk {H : Type} : DataW H → Nat
  | .lit (.string bytes) => bytes.length + 1
  | .lit _ => 1
  | .nil => 1
  | .ptr d => uptoBulk d + 1
  | .slice elems spare => uptoBulkAll elems + uptoBulkAll spare + 1
  | .agg parts => uptoBulkAll parts + 1
  | .iface _ d => uptoBulk d + 1
  | .map entries => uptoBulkEntries entries + 1
  | .held _ => 1
def uptoBulkAll {H : Type} : List (DataW H) → Nat
  | [] => 0
  | d :: r => uptoBulk d + uptoBulkAll r
def uptoBulkEntries {H : Type} : List (Lit × DataW H) → Nat
  | [] => 0
  | x :: r => uptoBulkEntry x + uptoBulkEntries r
def uptoBulkEntry {H : Type} : Lit × DataW H → Nat
  | (.string bytes, d) => bytes.length + uptoBulk d + 1
  | (_, d) => uptoBulk d + 1
 end
def uptoSmall : (H : Type) → List (DataW H) → Bool := fun _ ds => decide (uptoBulkAll ds ≤ 1048576)
def OpenSpec.upto (s : _root_.Go.ChangeSpec) : _root_.Go.OpenSpec := { _root_.Go.OpenSpec.ofChange s with cond := some uptoSmall }

/-- 'laws.FnExactEditionOk', WHERE WHAT IT READS IS OF BULK AT MOST 1048576: true; the input reads as it did. -/
def fnExactEditionOkUptoRow : OpenClaim := { program := "ytdpopimpdhgfaaa", sum := "cb4783a8fb02c9127d1999bf1ec6e229954ede7bd9d073e7799aad5b5ba24536", func := "loop.example/g03305/laws.FnExactEditionOk", spec := "fnExactEditionOk", apart := false, narrowed := true }
def FnExactEditionOkUptoSaid : Prop := fnExactEditionOkUptoRow.holds Try.pinned (OpenSpec.upto fnExactEditionOkSpec)

/-- 'laws.FnExactSellNumber', WHERE WHAT IT READS IS OF BULK AT MOST 1048576: true; the input reads as it did. -/
def fnExactSellNumberUptoRow : OpenClaim := { program := "ytdpopimpdhgfaaa", sum := "cb4783a8fb02c9127d1999bf1ec6e229954ede7bd9d073e7799aad5b5ba24536", func := "loop.example/g03305/laws.FnExactSellNumber", spec := "fnExactSellNumber", apart := false, narrowed := true }
def FnExactSellNumberUptoSaid : Prop := fnExactSellNumberUptoRow.holds Try.pinned (OpenSpec.upto fnExactSellNumberSpec)

/-- 'laws.FnExactFreeNumbers', WHERE WHAT IT READS IS OF BULK AT MOST 1048576: true; the input reads as it did. -/
def fnExactFreeNumbersUptoRow : OpenClaim := { program := "ytdpopimpdhgfaaa", sum := "cb4783a8fb02c9127d1999bf1ec6e229954ede7bd9d073e7799aad5b5ba24536", func := "loop.example/g03305/laws.FnExactFreeNumbers", spec := "fnExactFreeNumbers", apart := false, narrowed := true }
def FnExactFreeNumbersUptoSaid : Prop := fnExactFreeNumbersUptoRow.holds Try.pinned (OpenSpec.upto fnExactFreeNumbersSpec)

/-- 'laws.FnExactReturnNumber', WHERE WHAT IT READS IS OF BULK AT MOST 1048576: true; the input reads as it did. -/
def fnExactReturnNumberUptoRow : OpenClaim := { program := "ytdpopimpdhgfaaa", sum := "cb4783a8fb02c9127d1999bf1ec6e229954ede7bd9d073e7799aad5b5ba24536", func := "loop.example/g03305/laws.FnExactReturnNumber", spec := "fnExactReturnNumber", apart := false, narrowed := true }
def FnExactReturnNumberUptoSaid : Prop := fnExactReturnNumberUptoRow.holds Try.pinned (OpenSpec.upto fnExactReturnNumberSpec)

/-- 'laws.FnExactSellNext', WHERE WHAT IT READS IS OF BULK AT MOST 1048576: true; the input reads as it did. -/
def fnExactSellNextUptoRow : OpenClaim := { program := "ytdpopimpdhgfaaa", sum := "cb4783a8fb02c9127d1999bf1ec6e229954ede7bd9d073e7799aad5b5ba24536", func := "loop.example/g03305/laws.FnExactSellNext", spec := "fnExactSellNext", apart := false, narrowed := true }
def FnExactSellNextUptoSaid : Prop := fnExactSellNextUptoRow.holds Try.pinned (OpenSpec.upto fnExactSellNextSpec)

/-- 'laws.FnExactSoldParts', WHERE WHAT IT READS IS OF BULK AT MOST 1048576: true; the input reads as it did. -/
def fnExactSoldPartsUptoRow : OpenClaim := { program := "ytdpopimpdhgfaaa", sum := "cb4783a8fb02c9127d1999bf1ec6e229954ede7bd9d073e7799aad5b5ba24536", func := "loop.example/g03305/laws.FnExactSoldParts", spec := "fnExactSoldParts", recurses := true, apart := false, narrowed := true }
def FnExactSoldPartsUptoSaid : Prop := fnExactSoldPartsUptoRow.holds Try.pinned (OpenSpec.upto fnExactSoldPartsSpec)

/-- 'laws.FnSeries', WHERE WHAT IT READS IS OF BULK AT MOST 1048576: true; the input reads as it did. -/
def fnSeriesUptoRow : OpenClaim := { program := "ytdpopimpdhgfaaa", sum := "cb4783a8fb02c9127d1999bf1ec6e229954ede7bd9d073e7799aad5b5ba24536", func := "loop.example/g03305/laws.FnSeries", spec := "fnSeries", recurses := true, apart := false, narrowed := true }
def FnSeriesUptoSaid : Prop := fnSeriesUptoRow.holds Try.pinned (OpenSpec.upto fnSeriesSpec)

/-- 'laws.FnExactLotOk', WHERE WHAT IT READS IS OF BULK AT MOST 1048576: true; the input reads as it did. -/
def fnExactLotOkUptoRow : OpenClaim := { program := "ytdpopimpdhgfaaa", sum := "cb4783a8fb02c9127d1999bf1ec6e229954ede7bd9d073e7799aad5b5ba24536", func := "loop.example/g03305/laws.FnExactLotOk", spec := "fnExactLotOk", apart := false, narrowed := true }
def FnExactLotOkUptoSaid : Prop := fnExactLotOkUptoRow.holds Try.pinned (OpenSpec.upto fnExactLotOkSpec)

/-- 'laws.FnExactIsAccepted', WHERE WHAT IT READS IS OF BULK AT MOST 1048576: true; the input reads as it did. -/
def fnExactIsAcceptedUptoRow : OpenClaim := { program := "ytdpopimpdhgfaaa", sum := "cb4783a8fb02c9127d1999bf1ec6e229954ede7bd9d073e7799aad5b5ba24536", func := "loop.example/g03305/laws.FnExactIsAccepted", spec := "fnExactIsAccepted", apart := false, narrowed := true }
def FnExactIsAcceptedUptoSaid : Prop := fnExactIsAcceptedUptoRow.holds Try.pinned (OpenSpec.upto fnExactIsAcceptedSpec)

/-- 'laws.FnExactNextToCheck', WHERE WHAT IT READS IS OF BULK AT MOST 1048576: true; the input reads as it did. -/
def fnExactNextToCheckUptoRow : OpenClaim := { program := "ytdpopimpdhgfaaa", sum := "cb4783a8fb02c9127d1999bf1ec6e229954ede7bd9d073e7799aad5b5ba24536", func := "loop.example/g03305/laws.FnExactNextToCheck", spec := "fnExactNextToCheck", apart := false, narrowed := true }
def FnExactNextToCheckUptoSaid : Prop := fnExactNextToCheckUptoRow.holds Try.pinned (OpenSpec.upto fnExactNextToCheckSpec)

/-- 'laws.FnExactCheckCopy', WHERE WHAT IT READS IS OF BULK AT MOST 1048576: true; the input reads as it did. -/
def fnExactCheckCopyUptoRow : OpenClaim := { program := "ytdpopimpdhgfaaa", sum := "cb4783a8fb02c9127d1999bf1ec6e229954ede7bd9d073e7799aad5b5ba24536", func := "loop.example/g03305/laws.FnExactCheckCopy", spec := "fnExactCheckCopy", inPlace := ["slices.overlaps[int]"], apart := false, narrowed := true }
def FnExactCheckCopyUptoSaid : Prop := fnExactCheckCopyUptoRow.holds Try.pinned (OpenSpec.upto fnExactCheckCopySpec)

end Rows
end Go.Proofs.Ytdpopimpdhgfaaa
