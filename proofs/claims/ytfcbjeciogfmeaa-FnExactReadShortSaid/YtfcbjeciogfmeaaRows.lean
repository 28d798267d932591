/-
  No cell of these rows narrows 'for every input' (looked for: loops, veiled, ifaces, maps, wideKeys, modest, calm, conditions, laid).
  DERIVED. THE GIVEN ROWS OF THIS SEAT. 5 by the template 'for every input the law returns true; each argument reads behind the call as it read before'; 0 by the template 'total and deterministic' (their statements: YtfcbjeciogfmeaaTotals.lean).
  GIVEN WITH THE SEED: the statements are not yours to turn. If you find one false, say at which input.
  Laid BY PROGRAM, IN A SANDBOX (cutbox-rows.mjs): the forced cells as the released guide's own fill.sh prints them over the translation df06bb4fe77b4ba1… (all of the seat's roots in one cut). By AI agents, Wed Nov 11 2026. No macro, syntax, notation, axiom, sorry.
-/
import Derived.Test.YtfcbjeciogfmeaaChecked
import GoSem.Claim
import GoSem.ClaimJoined
import GoSem.ClaimMapViews
import Derived.JoinedTies
import Derived.KernelRfl
namespace Go.Proofs.Ytfcbjeciogfmeaa
/- THE CELL 'sum', in the pinned program and in every row, IS THE sha256 OF THE DUMP (.gsa) THAT YtfcbjeciogfmeaaProg.lean LOADS. Nothing in Lean hashes anything: it is a label: what it is worth is what the hold of that sum in a sandbox is worth. -/
noncomputable def Try.pinned : Pinned := { name := "ytfcbjeciogfmeaa", sum := "df06bb4fe77b4ba13b8ac0f854aea68a325fbf522822350b0348cac25781707e", checked := Try.checked }
namespace Rows
def none {H : Type} : Left H := { results := [], args := [] }

/-- 'laws.FnExactCheaperCard': WHATEVER THE INPUT: true; the input reads as it did. -/
def fnExactCheaperCardSpec : ChangeSpec := { name := "fnExactCheaperCard", fn := fun _ => fun
  | [d1, d2, d3] => { results := [.lit (.bool true)], args := [d1, d2, d3] }
  | _ => none }
def fnExactCheaperCardRow : OpenClaim := { program := "ytfcbjeciogfmeaa", sum := "df06bb4fe77b4ba13b8ac0f854aea68a325fbf522822350b0348cac25781707e", func := "loop.example/g03305/laws.FnExactCheaperCard", spec := "fnExactCheaperCard", inPlace := ["internal/bytealg.CountString", "internal/bytealg.IndexByteString", "internal/bytealg.IndexString"], named := ["internal/bytealg.MaxLen"], apart := false }
def FnExactCheaperCardSaid : Prop := fnExactCheaperCardRow.holds Try.pinned (OpenSpec.ofChange fnExactCheaperCardSpec)

/-- ITS FALSE NEIGHBOUR: 'it returns false'. Refute it at one input. -/
def fnExactCheaperCardWrong : ChangeSpec := { name := "fnExactCheaperCard", fn := fun _ => fun
  | [d1, d2, d3] => { results := [.lit (.bool false)], args := [d1, d2, d3] }
  | _ => none }
def FnExactCheaperCardWrongFalsely : Prop := fnExactCheaperCardRow.holds Try.pinned (OpenSpec.ofChange fnExactCheaperCardWrong)

/-- 'laws.FnExactCanAdd': WHATEVER THE INPUT: true; the input reads as it did. -/
def fnExactCanAddSpec : ChangeSpec := { name := "fnExactCanAdd", fn := fun _ => fun
  | [d1, d2] => { results := [.lit (.bool true)], args := [d1, d2] }
  | _ => none }
def fnExactCanAddRow : OpenClaim := { program := "ytfcbjeciogfmeaa", sum := "df06bb4fe77b4ba13b8ac0f854aea68a325fbf522822350b0348cac25781707e", func := "loop.example/g03305/laws.FnExactCanAdd", spec := "fnExactCanAdd", inPlace := ["internal/bytealg.CountString", "internal/bytealg.IndexByteString", "internal/bytealg.IndexString"], unfollowed := true, recurses := true, named := ["internal/bytealg.MaxLen"], apart := false }
def FnExactCanAddSaid : Prop := fnExactCanAddRow.holds Try.pinned (OpenSpec.ofChange fnExactCanAddSpec)

/-- ITS FALSE NEIGHBOUR: 'it returns false'. Refute it at one input. -/
def fnExactCanAddWrong : ChangeSpec := { name := "fnExactCanAdd", fn := fun _ => fun
  | [d1, d2] => { results := [.lit (.bool false)], args := [d1, d2] }
  | _ => none }
def FnExactCanAddWrongFalsely : Prop := fnExactCanAddRow.holds Try.pinned (OpenSpec.ofChange fnExactCanAddWrong)

/-- 'laws.FnExactCatalogOk': WHATEVER THE INPUT: true; the input reads as it did. -/
def fnExactCatalogOkSpec : ChangeSpec := { name := "fnExactCatalogOk", fn := fun _ => fun
  | [d] => { results := [.lit (.bool true)], args := [d] }
  | _ => none }
def fnExactCatalogOkRow : OpenClaim := { program := "ytfcbjeciogfmeaa", sum := "df06bb4fe77b4ba13b8ac0f854aea68a325fbf522822350b0348cac25781707e", func := "loop.example/g03305/laws.FnExactCatalogOk", spec := "fnExactCatalogOk", inPlace := ["internal/bytealg.CountString", "internal/bytealg.IndexByteString", "internal/bytealg.IndexString"], named := ["internal/bytealg.MaxLen"], apart := false }
def FnExactCatalogOkSaid : Prop := fnExactCatalogOkRow.holds Try.pinned (OpenSpec.ofChange fnExactCatalogOkSpec)

/-- ITS FALSE NEIGHBOUR: 'it returns false'. Refute it at one input. -/
def fnExactCatalogOkWrong : ChangeSpec := { name := "fnExactCatalogOk", fn := fun _ => fun
  | [d] => { results := [.lit (.bool false)], args := [d] }
  | _ => none }
def FnExactCatalogOkWrongFalsely : Prop := fnExactCatalogOkRow.holds Try.pinned (OpenSpec.ofChange fnExactCatalogOkWrong)

/-- 'laws.FnExactNamesWith': WHATEVER THE INPUT: true; the input reads as it did. -/
def fnExactNamesWithSpec : ChangeSpec := { name := "fnExactNamesWith", fn := fun _ => fun
  | [d1, d2] => { results := [.lit (.bool true)], args := [d1, d2] }
  | _ => none }
def fnExactNamesWithRow : OpenClaim := { program := "ytfcbjeciogfmeaa", sum := "df06bb4fe77b4ba13b8ac0f854aea68a325fbf522822350b0348cac25781707e", func := "loop.example/g03305/laws.FnExactNamesWith", spec := "fnExactNamesWith", inPlace := ["internal/bytealg.CountString", "internal/bytealg.IndexByteString", "internal/bytealg.IndexString"], named := ["internal/bytealg.MaxLen"], apart := false }
def FnExactNamesWithSaid : Prop := fnExactNamesWithRow.holds Try.pinned (OpenSpec.ofChange fnExactNamesWithSpec)

/-- ITS FALSE NEIGHBOUR: 'it returns false'. Refute it at one input. -/
def fnExactNamesWithWrong : ChangeSpec := { name := "fnExactNamesWith", fn := fun _ => fun
  | [d1, d2] => { results := [.lit (.bool false)], args := [d1, d2] }
  | _ => none }
def FnExactNamesWithWrongFalsely : Prop := fnExactNamesWithRow.holds Try.pinned (OpenSpec.ofChange fnExactNamesWithWrong)

/-- 'laws.FnExactReadShort': WHATEVER THE INPUT: true; the input reads as it did. -/
def fnExactReadShortSpec : ChangeSpec := { name := "fnExactReadShort", fn := fun _ => fun
  | [d] => { results := [.lit (.bool true)], args := [d] }
  | _ => none }
def fnExactReadShortRow : OpenClaim := { program := "ytfcbjeciogfmeaa", sum := "df06bb4fe77b4ba13b8ac0f854aea68a325fbf522822350b0348cac25781707e", func := "loop.example/g03305/laws.FnExactReadShort", spec := "fnExactReadShort", inPlace := ["internal/abi.NoEscape", "internal/bytealg.MakeNoZero", "internal/bytealg.CountString", "internal/bytealg.IndexByteString", "internal/bytealg.IndexString"], named := ["internal/bytealg.MaxLen"], apart := false }
def FnExactReadShortSaid : Prop := fnExactReadShortRow.holds Try.pinned (OpenSpec.ofChange fnExactReadShortSpec)

/-- ITS FALSE NEIGHBOUR: 'it returns false'. Refute it at one input. -/
def fnExactReadShortWrong : ChangeSpec := { name := "fnExactReadShort", fn := fun _ => fun
  | [d] => { results := [.lit (.bool false)], args := [d] }
  | _ => none }
def FnExactReadShortWrongFalsely : Prop := fnExactReadShortRow.holds Try.pinned (OpenSpec.ofChange fnExactReadShortWrong)

/- THE SECOND FORM. 'bulk': how many values and letters a reading holds, each counted each time it is reached (what is shared counts as often as it is met; a slice's spare places count too). A statement '..UptoSaid' is the law's where the arguments, and the package variables that the reading takes, are together of bulk at most 1048576: NARROWER than '..Said'. Prove '..Said' where nothing that the law and all that it calls make is longer than what came in: it says more and counts as full. Else prove '..UptoSaid'. A law counts once. -/
mutual
def uptoBulk {H : Type} : DataW H → Nat
  | .lit (.string bytes) => bytes.length + 1
  | .lit _ => 1
  | .nil => 1
  | .ptr d => uptoBulk d + 1
  | .slice elems spare => uptoBulkAll elems + uptoBulkAll spare + 1
  | .agg parts => uptoBulkAll parts + 1
  | .iface _ d => uptoBulk d + 1
  | .map entries => uptoBulkEntries entries + 1
  | .held _ => 1
def uptoBulkAll {H : Type} : List (DataW H) → Nat
  | [] => 0
  | d :: r => uptoBulk d + uptoBulkAll r
def uptoBulkEntries {H : Type} : List (Lit × DataW H) → Nat
  | [] => 0
  | x :: r => uptoBulkEntry x + uptoBulkEntries r
def uptoBulkEntry {H : Type} : Lit × DataW H → Nat
  | (.string bytes, d) => bytes.length + uptoBulk d + 1
  | (_, d) => uptoBulk d + 1
 end
def uptoSmall : (H : Type) → List (DataW H) → Bool := fun _ ds => decide (uptoBulkAll ds ≤ 1048576)
def OpenSpec.upto (s : _root_.Go.ChangeSpec) : _root_.Go.OpenSpec := { _root_.Go.OpenSpec.ofChange s with cond := some uptoSmall }

/-- 'laws.FnExactCheaperCard', WHERE WHAT IT READS IS OF BULK AT MOST 1048576: true; the input reads as it did. -/
def fnExactCheaperCardUptoRow : OpenClaim := { program := "ytfcbjeciogfmeaa", sum := "df06bb4fe77b4ba13b8ac0f854aea68a325fbf522822350b0348cac25781707e", func := "loop.example/g03305/laws.FnExactCheaperCard", spec := "fnExactCheaperCard", inPlace := ["internal/bytealg.CountString", "internal/bytealg.IndexByteString", "internal/bytealg.IndexString"], named := ["internal/bytealg.MaxLen"], apart := false, narrowed := true }
def FnExactCheaperCardUptoSaid : Prop := fnExactCheaperCardUptoRow.holds Try.pinned (OpenSpec.upto fnExactCheaperCardSpec)

/-- 'laws.FnExactCanAdd', WHERE WHAT IT READS IS OF BULK AT MOST 1048576: true; the input reads as it did. -/
def fnExactCanAddUptoRow : OpenClaim := { program := "ytfcbjeciogfmeaa", sum := "df06bb4fe77b4ba13b8ac0f854aea68a325fbf522822350b0348cac25781707e", func := "loop.example/g03305/laws.FnExactCanAdd", spec := "fnExactCanAdd", inPlace := ["internal/bytealg.CountString", "internal/bytealg.IndexByteString", "internal/bytealg.IndexString"], unfollowed := true, recurses := true, named := ["internal/bytealg.MaxLen"], apart := false, narrowed := true }
def FnExactCanAddUptoSaid : Prop := fnExactCanAddUptoRow.holds Try.pinned (OpenSpec.upto fnExactCanAddSpec)

/-- 'laws.FnExactCatalogOk', WHERE WHAT IT READS IS OF BULK AT MOST 1048576: true; the input reads as it did. -/
def fnExactCatalogOkUptoRow : OpenClaim := { program := "ytfcbjeciogfmeaa", sum := "df06bb4fe77b4ba13b8ac0f854aea68a325fbf522822350b0348cac25781707e", func := "loop.example/g03305/laws.FnExactCatalogOk", spec := "fnExactCatalogOk", inPlace := ["internal/bytealg.CountString", "internal/bytealg.IndexByteString", "internal/bytealg.IndexString"], named := ["internal/bytealg.MaxLen"], apart := false, narrowed := true }
def FnExactCatalogOkUptoSaid : Prop := fnExactCatalogOkUptoRow.holds Try.pinned (OpenSpec.upto fnExactCatalogOkSpec)

/-- 'laws.FnExactNamesWith', WHERE WHAT IT READS IS OF BULK AT MOST 1048576: true; the input reads as it did. -/
def fnExactNamesWithUptoRow : OpenClaim := { program := "ytfcbjeciogfmeaa", sum := "df06bb4fe77b4ba13b8ac0f854aea68a325fbf522822350b0348cac25781707e", func := "loop.example/g03305/laws.FnExactNamesWith", spec := "fnExactNamesWith", inPlace := ["internal/bytealg.CountString", "internal/bytealg.IndexByteString", "internal/bytealg.IndexString"], named := ["internal/bytealg.MaxLen"], apart := false, narrowed := true }
def FnExactNamesWithUptoSaid : Prop := fnExactNamesWithUptoRow.holds Try.pinned (OpenSpec.upto fnExactNamesWithSpec)

/-- 'laws.FnExactReadShort', WHERE WHAT IT READS IS OF BULK AT MOST 1048576: true; the input reads as it did. -/
def fnExactReadShortUptoRow : OpenClaim := { program := "ytfcbjeciogfmeaa", sum := "df06bb4fe77b4ba13b8ac0f854aea68a325fbf522822350b0348cac25781707e", func := "loop.example/g03305/laws.FnExactReadShort", spec := "fnExactReadShort", inPlace := ["internal/abi.NoEscape", "internal/bytealg.MakeNoZero", "internal/bytealg.CountString", "internal/bytealg.IndexByteString", "internal/bytealg.IndexString"], named := ["internal/bytealg.MaxLen"], apart := false, narrowed := true }
def FnExactReadShortUptoSaid : Prop := fnExactReadShortUptoRow.holds Try.pinned (OpenSpec.upto fnExactReadShortSpec)

end Rows
end Go.Proofs.Ytfcbjeciogfmeaa
