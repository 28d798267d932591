/- A law's argument that is a rack. -/
import Derived.Test.YteoihmajnpleoaaRack
import Derived.Test.YteoihmajnpleoaaAb25
namespace Go.Proofs.Yteoihmajnpleoaa
set_option linter.unusedSimpArgs false
set_option linter.unusedVariables false
open Go Go.Ab

theorem say_rack {h : Heap} {a : List AV} (hs : (SayF [(1, SayI .i64), (1, SaySl 1 fun _ => SayI .i64)]) h a) :
    ∃ (p : Int) (xs : List Int) (id : Nat), .agg a = rkA p id xs.length ∧ xs.length ≤ maxLen ∧ rd h id xs.length = some (rowI xs) ∧ int64 p ∧ ∀ x ∈ xs, int64 x := by
  obtain ⟨_, _, rfl, l1, ⟨p, rfl, hp⟩, _, _, rfl, l2, h2, rfl⟩ := hs
  rename_i c
  obtain ⟨d, rfl⟩ : ∃ d, c = [d] := by
    match c, l2 with
    | [d], _ => exact ⟨d, rfl⟩
  obtain ⟨xs, id, rfl, hl, hr, hx⟩ := say_ints h2
  exact ⟨p, xs, id, rfl, hl, hr, int64_of hp, hx⟩
end Go.Proofs.Yteoihmajnpleoaa
