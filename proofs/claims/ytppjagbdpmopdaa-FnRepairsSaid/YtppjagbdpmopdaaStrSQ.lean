/- Slices of texts: copying, comparing, measuring, turning. -/
import Derived.Test.YtppjagbdpmopdaaW1Q
import Derived.Test.YtppjagbdpmopdaaAb25
import Derived.Test.YtppjagbdpmopdaaAb30
import Derived.Shelf.SlGeneric
import Derived.Ground.SlgnProg
import Derived.Shelf.SlicesE.Clone
namespace Go.Proofs.Ytppjagbdpmopdaa
set_option maxRecDepth 20000
set_option linter.unusedSimpArgs false
set_option linter.unusedVariables false
open Go Go.Ab Go.Shelf
abbrev rowT (xs : List ByteArray) : Blk := ⟨.row 9 1, rowS xs⟩
theorem bEq_self (a : ByteArray) : (a.toList == a.toList) = true := beq_self_eq_true _
theorem bEq_ne {a b : ByteArray} (h : a ≠ b) : (a.toList == b.toList) = false := by
  rw [beq_eq_false_iff_ne]
  intro e
  apply h
  rw [ByteArray.toList_eq, ByteArray.toList_eq] at e
  cases a; cases b
  simpa [Array.toList_inj] using e
theorem rowS_put (xs : List ByteArray) (k : Nat) (v : ByteArray) (hk : k < xs.length) : List.take k (rowS xs) ++ [VS v] ++ List.drop (k + 1) (rowS xs) = rowS (xs.set k v) := rowS_set xs k v hk
end Go.Proofs.Ytppjagbdpmopdaa
