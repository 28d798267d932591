/- DryAll: the law holds for every input. -/
import Derived.Test.YteoihmajnpleoaaDryAll
import Derived.Test.YteoihmajnpleoaaSayR
import Derived.Test.YteoihmajnpleoaaDryAllF
namespace Go.Proofs.Yteoihmajnpleoaa
set_option linter.unusedSimpArgs false
set_option linter.unusedVariables false
open Go Go.Ab

theorem fnExactDryAll_proved : Rows.FnExactDryAllSaid := by
  refine fnExactDryAll_said fun h av hs => ?_
  obtain ⟨a, _, rfl, h1, _, _, rfl, h2, rfl⟩ := hs
  obtain ⟨p, xs, id, he, hm, hr, _, _⟩ := say_rack h1
  obtain ⟨ls, il, rfl, hml, hq, _⟩ := say_ints h2
  rw [he]
  exact lawDry_ok p xs ls id il hm hml h hr hq

end Go.Proofs.Yteoihmajnpleoaa
