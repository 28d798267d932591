/- RackOk: the law holds for every input. -/
import Derived.Test.YteoihmajnpleoaaSayR
import Derived.Test.YteoihmajnpleoaaRackOkF
namespace Go.Proofs.Yteoihmajnpleoaa
set_option linter.unusedSimpArgs false
set_option linter.unusedVariables false
open Go Go.Ab

theorem fnExactRackOk_proved : Rows.FnExactRackOkSaid := by
  refine fnExactRackOk_said fun h av hs => ?_
  obtain ⟨a, _, rfl, h1, rfl⟩ := hs
  obtain ⟨p, xs, id, he, hm, hr, _, _⟩ := say_rack h1
  rw [he]
  exact lawRackOk_ok p xs id hm h hr

end Go.Proofs.Yteoihmajnpleoaa
