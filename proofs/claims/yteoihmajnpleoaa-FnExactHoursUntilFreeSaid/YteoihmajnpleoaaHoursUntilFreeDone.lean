/- HoursUntilFree: the law holds for every input. -/
import Derived.Test.YteoihmajnpleoaaFree
import Derived.Test.YteoihmajnpleoaaSayR
import Derived.Test.YteoihmajnpleoaaHoursUntilFreeF
namespace Go.Proofs.Yteoihmajnpleoaa
set_option linter.unusedSimpArgs false
set_option linter.unusedVariables false
open Go Go.Ab

theorem fnExactHoursUntilFree_proved : Rows.FnExactHoursUntilFreeSaid := by
  refine fnExactHoursUntilFree_said fun h av hs => ?_
  obtain ⟨a, _, rfl, h1, _, _, rfl, h2, rfl⟩ := hs
  obtain ⟨p, xs, id, he, hm, hr, _, _⟩ := say_rack h1
  obtain ⟨n, rfl, hd⟩ := say_int h2
  rw [he]
  exact lawFree_ok p xs n id hm h hr

end Go.Proofs.Yteoihmajnpleoaa
