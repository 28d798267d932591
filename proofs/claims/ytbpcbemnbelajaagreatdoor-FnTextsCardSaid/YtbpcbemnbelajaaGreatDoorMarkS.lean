/- Slices of texts, marked and held. -/
import Derived.Test.YtbpcbemnbelajaaGreatDoorAb32
import Derived.Test.YtbpcbemnbelajaaGreatDoorMarkT
namespace Go.Proofs.YtbpcbemnbelajaaGreatDoor
set_option maxRecDepth 20000
set_option linter.unusedSimpArgs false
set_option linter.unusedVariables false
open Go Go.Ab

def marksT (k : Int) (n : Nat) : List ByteArray := (List.range n).map fun j : Nat => markT (k + j)
theorem marksT_len (k : Int) (n : Nat) : (marksT k n).length = n := by simp [marksT]
theorem marksT_at {k : Int} {n j : Nat} (h : j < n) : (marksT k n)[j]? = some (markT (k + j)) := by simp [marksT, h]
theorem marks_step {k : Int} {xs : List ByteArray} {i : Nat} (hi : i < xs.length) : (marksT k i ++ xs.drop i).set i (markT (k + i)) = marksT k (i + 1) ++ xs.drop (i + 1) := by
  rw [List.set_append_right _ _ (by rw [marksT_len]; exact Nat.le_refl _), marksT_len, Nat.sub_self]
  have : xs.drop i = xs[i] :: xs.drop (i + 1) := List.drop_eq_getElem_cons hi
  rw [this, List.set_cons_zero]
  simp [marksT, List.range_succ]

end Go.Proofs.YtbpcbemnbelajaaGreatDoor
