/- Slices of texts: copying, comparing, measuring, turning. -/
import Derived.Test.YtbpcbemnbelajaaGreatDoorAb32
import Derived.Test.YtbpcbemnbelajaaGreatDoorW1
import Derived.Test.YtbpcbemnbelajaaGreatDoorAb25
import Derived.Test.YtbpcbemnbelajaaGreatDoorAb30
import Derived.Shelf.SlGeneric
import Derived.Ground.SlgnProg
import Derived.Shelf.SlicesE.Clone
namespace Go.Proofs.YtbpcbemnbelajaaGreatDoor
set_option maxRecDepth 20000
set_option linter.unusedSimpArgs false
set_option linter.unusedVariables false
open Go Go.Ab Go.Shelf

abbrev rowT (xs : List ByteArray) : Blk := ⟨.row 9 1, rowS xs⟩
theorem bEq_self (a : ByteArray) : (a.toList == a.toList) = true := beq_self_eq_true _
theorem bEq_ne {a b : ByteArray} (h : a ≠ b) : (a.toList == b.toList) = false := by
  rw [beq_eq_false_iff_ne]
  intro e
  apply h
  rw [ByteArray.toList_eq, ByteArray.toList_eq] at e
  cases a; cases b
  simpa [Array.toList_inj] using e
theorem rowS_put (xs : List ByteArray) (k : Nat) (v : ByteArray) (hk : k < xs.length) : List.take k (rowS xs) ++ [VS v] ++ List.drop (k + 1) (rowS xs) = rowS (xs.set k v) := rowS_set xs k v hk
theorem rowT_end (xs : List ByteArray) (n : ByteArray) : rowT (xs ++ [n]) = ⟨.row 9 1, rowS xs ++ [VS n]⟩ := by rw [rowT, ← rowS_snoc]

def sumZ (xs : List ByteArray) (i : Nat) : Nat := ((xs.take i).map ByteArray.size).sum
theorem sumZ_zero (xs : List ByteArray) : sumZ xs 0 = 0 := rfl
theorem sumZ_succ {xs : List ByteArray} {i : Nat} {x : ByteArray} (hx : xs[i]? = some x) : sumZ xs (i + 1) = sumZ xs i + x.size := by
  unfold sumZ
  rw [take_snoc hx]; simp
theorem sumZ_mono (xs : List ByteArray) {i j : Nat} (h : i ≤ j) : sumZ xs i ≤ sumZ xs j := by
  unfold sumZ
  obtain ⟨d, rfl⟩ : ∃ d, j = i + d := ⟨j - i, by omega⟩
  rw [List.take_add, List.map_append, List.sum_append]; omega
def szT (xs : List ByteArray) : Nat := xs.length + sumZ xs xs.length
theorem szT_elt {xs : List ByteArray} {x : ByteArray} (h : x ∈ xs) : x.size ≤ szT xs := by
  obtain ⟨i, hi, rfl⟩ := List.mem_iff_getElem.1 h
  have h1 := sumZ_succ (xs := xs) (i := i) (List.getElem?_eq_getElem hi)
  have h2 := sumZ_mono xs (show i + 1 ≤ xs.length by omega)
  unfold szT; omega
theorem szT_len (xs : List ByteArray) : xs.length ≤ szT xs := by unfold szT; omega
def szR (xs : List ByteArray) (left : Int) : Int := if (szT xs : Int) ≤ left then left - szT xs else -1

end Go.Proofs.YtbpcbemnbelajaaGreatDoor
