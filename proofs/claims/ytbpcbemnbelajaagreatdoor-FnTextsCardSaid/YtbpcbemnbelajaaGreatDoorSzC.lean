/- Cards that are small enough. -/
import Derived.Test.YtbpcbemnbelajaaGreatDoorCard
namespace Go.Proofs.YtbpcbemnbelajaaGreatDoor
set_option maxRecDepth 20000
set_option linter.unusedSimpArgs false
set_option linter.unusedVariables false
open Go Go.Ab

theorem szR_le {xs : List ByteArray} {left : Int} (h : 0 ≤ szR xs left) : (szT xs : Int) ≤ left ∧ szR xs left = left - szT xs := by
  unfold szR at h ⊢; split at h
  · rename_i g; exact ⟨g, if_pos g⟩
  · omega
theorem small_of {xs : List ByteArray} {left : Int} (h1 : left ≤ 1048576) (h : (szT xs : Int) ≤ left) : xs.length ≤ 1048576 ∧ ∀ x ∈ xs, x.size ≤ 1048576 := by
  have := szT_len xs
  exact ⟨by omega, fun x hx => by have := szT_elt hx; omega⟩
end Go.Proofs.YtbpcbemnbelajaaGreatDoor
