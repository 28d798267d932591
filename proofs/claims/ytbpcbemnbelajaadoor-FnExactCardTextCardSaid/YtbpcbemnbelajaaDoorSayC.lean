/- What a card among the arguments is. -/
import Derived.Test.YtbpcbemnbelajaaDoorCard
import Derived.Test.YtbpcbemnbelajaaDoorAb25
namespace Go.Proofs.YtbpcbemnbelajaaDoor
set_option maxRecDepth 20000
set_option linter.unusedSimpArgs false
set_option linter.unusedVariables false
open Go Go.Ab
theorem say_card {h : Heap} {a : List AV} (hs : (SayF [(1, SayI .i64), (1, SayI .i64), (1, SaySl 1 fun _ => SayS)]) h a) :
    ∃ (d f : Int) (xs : List ByteArray) (i : Nat), .agg a = cdA d f i xs.length ∧ xs.length ≤ maxLen ∧ (∀ x ∈ xs, x.size ≤ maxLen) ∧ rd h i xs.length = some (rowS xs) := by
  obtain ⟨_, _, rfl, l1, ⟨p, rfl, hp⟩, _, _, rfl, l2, ⟨q, rfl, hq⟩, c, _, rfl, l3, h3, rfl⟩ := hs
  obtain ⟨c, rfl⟩ : ∃ e, c = [e] := by
    match c, l3 with
    | [e], _ => exact ⟨e, rfl⟩
  obtain ⟨xs, i, rfl, hl, hr, hx⟩ := say_strs h3
  exact ⟨p, q, xs, i, rfl, hl, hx, hr⟩
end Go.Proofs.YtbpcbemnbelajaaDoor
