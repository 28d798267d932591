/-
  No cell of these rows narrows 'for every input' (looked for: loops, veiled, ifaces, maps, wideKeys, modest, calm, conditions, laid).
  DERIVED. THE GIVEN ROWS OF THIS SEAT. 10 by the template 'for every input the law returns true; each argument reads behind the call as it read before'; 0 by the template 'total and deterministic' (their statements: YtdnbhknejalibaaTotals.lean).
  GIVEN WITH THE SEED: the statements are not yours to turn. If you find one false, say at which input.
  Laid BY PROGRAM, IN A SANDBOX (cutbox-rows.mjs): the forced cells as the released guide's own fill.sh prints them over the translation 866fe998350c120b… (all of the seat's roots in one cut). By AI agents, Wed Nov 11 2026. No macro, syntax, notation, axiom, sorry.
-/
import Derived.Test.YtdnbhknejalibaaChecked
import GoSem.Claim
import GoSem.ClaimJoined
import GoSem.ClaimMapViews
import Derived.JoinedTies
import Derived.KernelRfl
namespace Go.Proofs.Ytdnbhknejalibaa
/- THE CELL 'sum', in the pinned program and in every row, IS THE sha256 OF THE DUMP (.gsa) THAT YtdnbhknejalibaaProg.lean LOADS. Nothing in Lean hashes anything: it is a label: what it is worth is what the hold of that sum in a sandbox is worth. -/
noncomputable def Try.pinned : Pinned := { name := "ytdnbhknejalibaa", sum := "866fe998350c120bc012b92f4fa810beeeea29afef4a53e681a793043c9df9b8", checked := Try.checked }
namespace Rows
def none {H : Type} : Left H := { results := [], args := [] }

/-- 'laws.FnExactNameOk': WHATEVER THE INPUT: true; the input reads as it did. -/
def fnExactNameOkSpec : ChangeSpec := { name := "fnExactNameOk", fn := fun _ => fun
  | [d] => { results := [.lit (.bool true)], args := [d] }
  | _ => none }
def fnExactNameOkRow : OpenClaim := { program := "ytdnbhknejalibaa", sum := "866fe998350c120bc012b92f4fa810beeeea29afef4a53e681a793043c9df9b8", func := "loop.example/g03305/laws.FnExactNameOk", spec := "fnExactNameOk", apart := false }
def FnExactNameOkSaid : Prop := fnExactNameOkRow.holds Try.pinned (OpenSpec.ofChange fnExactNameOkSpec)

/-- ITS FALSE NEIGHBOUR: 'it returns false'. Refute it at one input. -/
def fnExactNameOkWrong : ChangeSpec := { name := "fnExactNameOk", fn := fun _ => fun
  | [d] => { results := [.lit (.bool false)], args := [d] }
  | _ => none }
def FnExactNameOkWrongFalsely : Prop := fnExactNameOkRow.holds Try.pinned (OpenSpec.ofChange fnExactNameOkWrong)

/-- 'laws.FnExactRatesOk': WHATEVER THE INPUT: true; the input reads as it did. -/
def fnExactRatesOkSpec : ChangeSpec := { name := "fnExactRatesOk", fn := fun _ => fun
  | [d] => { results := [.lit (.bool true)], args := [d] }
  | _ => none }
def fnExactRatesOkRow : OpenClaim := { program := "ytdnbhknejalibaa", sum := "866fe998350c120bc012b92f4fa810beeeea29afef4a53e681a793043c9df9b8", func := "loop.example/g03305/laws.FnExactRatesOk", spec := "fnExactRatesOk", apart := false }
def FnExactRatesOkSaid : Prop := fnExactRatesOkRow.holds Try.pinned (OpenSpec.ofChange fnExactRatesOkSpec)

/-- ITS FALSE NEIGHBOUR: 'it returns false'. Refute it at one input. -/
def fnExactRatesOkWrong : ChangeSpec := { name := "fnExactRatesOk", fn := fun _ => fun
  | [d] => { results := [.lit (.bool false)], args := [d] }
  | _ => none }
def FnExactRatesOkWrongFalsely : Prop := fnExactRatesOkRow.holds Try.pinned (OpenSpec.ofChange fnExactRatesOkWrong)

/-- 'laws.FnExactPriceFor': WHATEVER THE INPUT: true; the input reads as it did. -/
def fnExactPriceForSpec : ChangeSpec := { name := "fnExactPriceFor", fn := fun _ => fun
  | [d1, d2, d3] => { results := [.lit (.bool true)], args := [d1, d2, d3] }
  | _ => none }
def fnExactPriceForRow : OpenClaim := { program := "ytdnbhknejalibaa", sum := "866fe998350c120bc012b92f4fa810beeeea29afef4a53e681a793043c9df9b8", func := "loop.example/g03305/laws.FnExactPriceFor", spec := "fnExactPriceFor", apart := false }
def FnExactPriceForSaid : Prop := fnExactPriceForRow.holds Try.pinned (OpenSpec.ofChange fnExactPriceForSpec)

/-- ITS FALSE NEIGHBOUR: 'it returns false'. Refute it at one input. -/
def fnExactPriceForWrong : ChangeSpec := { name := "fnExactPriceFor", fn := fun _ => fun
  | [d1, d2, d3] => { results := [.lit (.bool false)], args := [d1, d2, d3] }
  | _ => none }
def FnExactPriceForWrongFalsely : Prop := fnExactPriceForRow.holds Try.pinned (OpenSpec.ofChange fnExactPriceForWrong)

/-- 'laws.FnExactWishesOk': WHATEVER THE INPUT: true; the input reads as it did. -/
def fnExactWishesOkSpec : ChangeSpec := { name := "fnExactWishesOk", fn := fun _ => fun
  | [d] => { results := [.lit (.bool true)], args := [d] }
  | _ => none }
def fnExactWishesOkRow : OpenClaim := { program := "ytdnbhknejalibaa", sum := "866fe998350c120bc012b92f4fa810beeeea29afef4a53e681a793043c9df9b8", func := "loop.example/g03305/laws.FnExactWishesOk", spec := "fnExactWishesOk", apart := false }
def FnExactWishesOkSaid : Prop := fnExactWishesOkRow.holds Try.pinned (OpenSpec.ofChange fnExactWishesOkSpec)

/-- ITS FALSE NEIGHBOUR: 'it returns false'. Refute it at one input. -/
def fnExactWishesOkWrong : ChangeSpec := { name := "fnExactWishesOk", fn := fun _ => fun
  | [d] => { results := [.lit (.bool false)], args := [d] }
  | _ => none }
def FnExactWishesOkWrongFalsely : Prop := fnExactWishesOkRow.holds Try.pinned (OpenSpec.ofChange fnExactWishesOkWrong)

/-- 'laws.FnExactFirstLate': WHATEVER THE INPUT: true; the input reads as it did. -/
def fnExactFirstLateSpec : ChangeSpec := { name := "fnExactFirstLate", fn := fun _ => fun
  | [d1, d2] => { results := [.lit (.bool true)], args := [d1, d2] }
  | _ => none }
def fnExactFirstLateRow : OpenClaim := { program := "ytdnbhknejalibaa", sum := "866fe998350c120bc012b92f4fa810beeeea29afef4a53e681a793043c9df9b8", func := "loop.example/g03305/laws.FnExactFirstLate", spec := "fnExactFirstLate", unfollowed := true, recurses := true, apart := false }
def FnExactFirstLateSaid : Prop := fnExactFirstLateRow.holds Try.pinned (OpenSpec.ofChange fnExactFirstLateSpec)

/-- ITS FALSE NEIGHBOUR: 'it returns false'. Refute it at one input. -/
def fnExactFirstLateWrong : ChangeSpec := { name := "fnExactFirstLate", fn := fun _ => fun
  | [d1, d2] => { results := [.lit (.bool false)], args := [d1, d2] }
  | _ => none }
def FnExactFirstLateWrongFalsely : Prop := fnExactFirstLateRow.holds Try.pinned (OpenSpec.ofChange fnExactFirstLateWrong)

/-- 'laws.FnExactCanServe': WHATEVER THE INPUT: true; the input reads as it did. -/
def fnExactCanServeSpec : ChangeSpec := { name := "fnExactCanServe", fn := fun _ => fun
  | [d1, d2] => { results := [.lit (.bool true)], args := [d1, d2] }
  | _ => none }
def fnExactCanServeRow : OpenClaim := { program := "ytdnbhknejalibaa", sum := "866fe998350c120bc012b92f4fa810beeeea29afef4a53e681a793043c9df9b8", func := "loop.example/g03305/laws.FnExactCanServe", spec := "fnExactCanServe", unfollowed := true, recurses := true, apart := false }
def FnExactCanServeSaid : Prop := fnExactCanServeRow.holds Try.pinned (OpenSpec.ofChange fnExactCanServeSpec)

/-- ITS FALSE NEIGHBOUR: 'it returns false'. Refute it at one input. -/
def fnExactCanServeWrong : ChangeSpec := { name := "fnExactCanServe", fn := fun _ => fun
  | [d1, d2] => { results := [.lit (.bool false)], args := [d1, d2] }
  | _ => none }
def FnExactCanServeWrongFalsely : Prop := fnExactCanServeRow.holds Try.pinned (OpenSpec.ofChange fnExactCanServeWrong)

/-- 'laws.FnExactServeOrder': WHATEVER THE INPUT: true; the input reads as it did. -/
def fnExactServeOrderSpec : ChangeSpec := { name := "fnExactServeOrder", fn := fun _ => fun
  | [d] => { results := [.lit (.bool true)], args := [d] }
  | _ => none }
def fnExactServeOrderRow : OpenClaim := { program := "ytdnbhknejalibaa", sum := "866fe998350c120bc012b92f4fa810beeeea29afef4a53e681a793043c9df9b8", func := "loop.example/g03305/laws.FnExactServeOrder", spec := "fnExactServeOrder", unfollowed := true, recurses := true, apart := false }
def FnExactServeOrderSaid : Prop := fnExactServeOrderRow.holds Try.pinned (OpenSpec.ofChange fnExactServeOrderSpec)

/-- ITS FALSE NEIGHBOUR: 'it returns false'. Refute it at one input. -/
def fnExactServeOrderWrong : ChangeSpec := { name := "fnExactServeOrder", fn := fun _ => fun
  | [d] => { results := [.lit (.bool false)], args := [d] }
  | _ => none }
def FnExactServeOrderWrongFalsely : Prop := fnExactServeOrderRow.holds Try.pinned (OpenSpec.ofChange fnExactServeOrderWrong)

/-- 'laws.FnExactLeastDaily': WHATEVER THE INPUT: true; the input reads as it did. -/
def fnExactLeastDailySpec : ChangeSpec := { name := "fnExactLeastDaily", fn := fun _ => fun
  | [d] => { results := [.lit (.bool true)], args := [d] }
  | _ => none }
def fnExactLeastDailyRow : OpenClaim := { program := "ytdnbhknejalibaa", sum := "866fe998350c120bc012b92f4fa810beeeea29afef4a53e681a793043c9df9b8", func := "loop.example/g03305/laws.FnExactLeastDaily", spec := "fnExactLeastDaily", unfollowed := true, recurses := true, apart := false }
def FnExactLeastDailySaid : Prop := fnExactLeastDailyRow.holds Try.pinned (OpenSpec.ofChange fnExactLeastDailySpec)

/-- ITS FALSE NEIGHBOUR: 'it returns false'. Refute it at one input. -/
def fnExactLeastDailyWrong : ChangeSpec := { name := "fnExactLeastDaily", fn := fun _ => fun
  | [d] => { results := [.lit (.bool false)], args := [d] }
  | _ => none }
def FnExactLeastDailyWrongFalsely : Prop := fnExactLeastDailyRow.holds Try.pinned (OpenSpec.ofChange fnExactLeastDailyWrong)

/-- 'laws.FnExactDoneOn': WHATEVER THE INPUT: true; the input reads as it did. -/
def fnExactDoneOnSpec : ChangeSpec := { name := "fnExactDoneOn", fn := fun _ => fun
  | [d1, d2] => { results := [.lit (.bool true)], args := [d1, d2] }
  | _ => none }
def fnExactDoneOnRow : OpenClaim := { program := "ytdnbhknejalibaa", sum := "866fe998350c120bc012b92f4fa810beeeea29afef4a53e681a793043c9df9b8", func := "loop.example/g03305/laws.FnExactDoneOn", spec := "fnExactDoneOn", unfollowed := true, recurses := true, apart := false }
def FnExactDoneOnSaid : Prop := fnExactDoneOnRow.holds Try.pinned (OpenSpec.ofChange fnExactDoneOnSpec)

/-- ITS FALSE NEIGHBOUR: 'it returns false'. Refute it at one input. -/
def fnExactDoneOnWrong : ChangeSpec := { name := "fnExactDoneOn", fn := fun _ => fun
  | [d1, d2] => { results := [.lit (.bool false)], args := [d1, d2] }
  | _ => none }
def FnExactDoneOnWrongFalsely : Prop := fnExactDoneOnRow.holds Try.pinned (OpenSpec.ofChange fnExactDoneOnWrong)

/-- 'laws.FnWishes': WHATEVER THE INPUT: true; the input reads as it did. -/
def fnWishesSpec : ChangeSpec := { name := "fnWishes", fn := fun _ => fun
  | [d] => { results := [.lit (.bool true)], args := [d] }
  | _ => none }
def fnWishesRow : OpenClaim := { program := "ytdnbhknejalibaa", sum := "866fe998350c120bc012b92f4fa810beeeea29afef4a53e681a793043c9df9b8", func := "loop.example/g03305/laws.FnWishes", spec := "fnWishes", unfollowed := true, recurses := true, apart := false }
def FnWishesSaid : Prop := fnWishesRow.holds Try.pinned (OpenSpec.ofChange fnWishesSpec)

/-- ITS FALSE NEIGHBOUR: 'it returns false'. Refute it at one input. -/
def fnWishesWrong : ChangeSpec := { name := "fnWishes", fn := fun _ => fun
  | [d] => { results := [.lit (.bool false)], args := [d] }
  | _ => none }
def FnWishesWrongFalsely : Prop := fnWishesRow.holds Try.pinned (OpenSpec.ofChange fnWishesWrong)

/- THE SECOND FORM. 'bulk': how many values and letters a reading holds, each counted each time it is reached (what is shared counts as often as it is met; a slice's spare places count too). A statement '..UptoSaid' is the law's where the arguments, and the package variables that the reading takes, are together of bulk at most 1048576: NARROWER than '..Said'. Prove '..Said' where nothing that the law and all that it calls make is longer than what came in: it says more and counts as full. Else prove '..UptoSaid'. A law counts once. -/
mutual
def uptoBulk {H : Type} : DataW H → Nat
  | .lit (.string bytes) => bytes.length + 1
  | .lit _ => 1
  | .nil => 1
  | .ptr d => uptoBulk d + 1
  | .slice elems spare => uptoBulkAll elems + uptoBulkAll spare + 1
  | .agg parts => uptoBulkAll parts + 1
  | .iface _ d => uptoBulk d + 1
  | .map entries => uptoBulkEntries entries + 1
  | .held _ => 1
def uptoBulkAll {H : Type} : List (DataW H) → Nat
  | [] => 0
  | d :: r => uptoBulk d + uptoBulkAll r
def uptoBulkEntries {H : Type} : List (Lit × DataW H) → Nat
  | [] => 0
  | x :: r => uptoBulkEntry x + uptoBulkEntries r
def uptoBulkEntry {H : Type} : Lit × DataW H → Nat
  | (.string bytes, d) => bytes.length + uptoBulk d + 1
  | (_, d) => uptoBulk d + 1
 end
def uptoSmall : (H : Type) → List (DataW H) → Bool := fun _ ds => decide (uptoBulkAll ds ≤ 1048576)
def OpenSpec.upto (s : _root_.Go.ChangeSpec) : _root_.Go.OpenSpec := { _root_.Go.OpenSpec.ofChange s with cond := some uptoSmall }

/-- 'laws.FnExactNameOk', WHERE WHAT IT READS IS OF BULK AT MOST 1048576: true; the input reads as it did. -/
def fnExactNameOkUptoRow : OpenClaim := { program := "ytdnbhknejalibaa", sum := "866fe998350c120bc012b92f4fa810beeeea29afef4a53e681a793043c9df9b8", func := "loop.example/g03305/laws.FnExactNameOk", spec := "fnExactNameOk", apart := false, narrowed := true }
def FnExactNameOkUptoSaid : Prop := fnExactNameOkUptoRow.holds Try.pinned (OpenSpec.upto fnExactNameOkSpec)

/-- 'laws.FnExactRatesOk', WHERE WHAT IT READS IS OF BULK AT MOST 1048576: true; the input reads as it did. -/
def fnExactRatesOkUptoRow : OpenClaim := { program := "ytdnbhknejalibaa", sum := "866fe998350c120bc012b92f4fa810beeeea29afef4a53e681a793043c9df9b8", func := "loop.example/g03305/laws.FnExactRatesOk", spec := "fnExactRatesOk", apart := false, narrowed := true }
def FnExactRatesOkUptoSaid : Prop := fnExactRatesOkUptoRow.holds Try.pinned (OpenSpec.upto fnExactRatesOkSpec)

/-- 'laws.FnExactPriceFor', WHERE WHAT IT READS IS OF BULK AT MOST 1048576: true; the input reads as it did. -/
def fnExactPriceForUptoRow : OpenClaim := { program := "ytdnbhknejalibaa", sum := "866fe998350c120bc012b92f4fa810beeeea29afef4a53e681a793043c9df9b8", func := "loop.example/g03305/laws.FnExactPriceFor", spec := "fnExactPriceFor", apart := false, narrowed := true }
def FnExactPriceForUptoSaid : Prop := fnExactPriceForUptoRow.holds Try.pinned (OpenSpec.upto fnExactPriceForSpec)

/-- 'laws.FnExactWishesOk', WHERE WHAT IT READS IS OF BULK AT MOST 1048576: true; the input reads as it did. -/
def fnExactWishesOkUptoRow : OpenClaim := { program := "ytdnbhknejalibaa", sum := "866fe998350c120bc012b92f4fa810beeeea29afef4a53e681a793043c9df9b8", func := "loop.example/g03305/laws.FnExactWishesOk", spec := "fnExactWishesOk", apart := false, narrowed := true }
def FnExactWishesOkUptoSaid : Prop := fnExactWishesOkUptoRow.holds Try.pinned (OpenSpec.upto fnExactWishesOkSpec)

/-- 'laws.FnExactFirstLate', WHERE WHAT IT READS IS OF BULK AT MOST 1048576: true; the input reads as it did. -/
def fnExactFirstLateUptoRow : OpenClaim := { program := "ytdnbhknejalibaa", sum := "866fe998350c120bc012b92f4fa810beeeea29afef4a53e681a793043c9df9b8", func := "loop.example/g03305/laws.FnExactFirstLate", spec := "fnExactFirstLate", unfollowed := true, recurses := true, apart := false, narrowed := true }
def FnExactFirstLateUptoSaid : Prop := fnExactFirstLateUptoRow.holds Try.pinned (OpenSpec.upto fnExactFirstLateSpec)

/-- 'laws.FnExactCanServe', WHERE WHAT IT READS IS OF BULK AT MOST 1048576: true; the input reads as it did. -/
def fnExactCanServeUptoRow : OpenClaim := { program := "ytdnbhknejalibaa", sum := "866fe998350c120bc012b92f4fa810beeeea29afef4a53e681a793043c9df9b8", func := "loop.example/g03305/laws.FnExactCanServe", spec := "fnExactCanServe", unfollowed := true, recurses := true, apart := false, narrowed := true }
def FnExactCanServeUptoSaid : Prop := fnExactCanServeUptoRow.holds Try.pinned (OpenSpec.upto fnExactCanServeSpec)

/-- 'laws.FnExactServeOrder', WHERE WHAT IT READS IS OF BULK AT MOST 1048576: true; the input reads as it did. -/
def fnExactServeOrderUptoRow : OpenClaim := { program := "ytdnbhknejalibaa", sum := "866fe998350c120bc012b92f4fa810beeeea29afef4a53e681a793043c9df9b8", func := "loop.example/g03305/laws.FnExactServeOrder", spec := "fnExactServeOrder", unfollowed := true, recurses := true, apart := false, narrowed := true }
def FnExactServeOrderUptoSaid : Prop := fnExactServeOrderUptoRow.holds Try.pinned (OpenSpec.upto fnExactServeOrderSpec)

/-- 'laws.FnExactLeastDaily', WHERE WHAT IT READS IS OF BULK AT MOST 1048576: true; the input reads as it did. -/
def fnExactLeastDailyUptoRow : OpenClaim := { program := "ytdnbhknejalibaa", sum := "866fe998350c120bc012b92f4fa810beeeea29afef4a53e681a793043c9df9b8", func := "loop.example/g03305/laws.FnExactLeastDaily", spec := "fnExactLeastDaily", unfollowed := true, recurses := true, apart := false, narrowed := true }
def FnExactLeastDailyUptoSaid : Prop := fnExactLeastDailyUptoRow.holds Try.pinned (OpenSpec.upto fnExactLeastDailySpec)

/-- 'laws.FnExactDoneOn', WHERE WHAT IT READS IS OF BULK AT MOST 1048576: true; the input reads as it did. -/
def fnExactDoneOnUptoRow : OpenClaim := { program := "ytdnbhknejalibaa", sum := "866fe998350c120bc012b92f4fa810beeeea29afef4a53e681a793043c9df9b8", func := "loop.example/g03305/laws.FnExactDoneOn", spec := "fnExactDoneOn", unfollowed := true, recurses := true, apart := false, narrowed := true }
def FnExactDoneOnUptoSaid : Prop := fnExactDoneOnUptoRow.holds Try.pinned (OpenSpec.upto fnExactDoneOnSpec)

/-- 'laws.FnWishes', WHERE WHAT IT READS IS OF BULK AT MOST 1048576: true; the input reads as it did. -/
def fnWishesUptoRow : OpenClaim := { program := "ytdnbhknejalibaa", sum := "866fe998350c120bc012b92f4fa810beeeea29afef4a53e681a793043c9df9b8", func := "loop.example/g03305/laws.FnWishes", spec := "fnWishes", unfollowed := true, recurses := true, apart := false, narrowed := true }
def FnWishesUptoSaid : Prop := fnWishesUptoRow.holds Try.pinned (OpenSpec.upto fnWishesSpec)

end Rows
end Go.Proofs.Ytdnbhknejalibaa
