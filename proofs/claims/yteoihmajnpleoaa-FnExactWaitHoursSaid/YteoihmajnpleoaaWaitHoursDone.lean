/- WaitHours: the law holds for every input. -/
import Derived.Test.YteoihmajnpleoaaWait
import Derived.Test.YteoihmajnpleoaaSayR
import Derived.Test.YteoihmajnpleoaaWaitHoursF
namespace Go.Proofs.Yteoihmajnpleoaa
set_option linter.unusedSimpArgs false
set_option linter.unusedVariables false
open Go Go.Ab

theorem fnExactWaitHours_proved : Rows.FnExactWaitHoursSaid := by
  refine fnExactWaitHours_said fun h av hs => ?_
  obtain ⟨a, _, rfl, h1, _, _, rfl, h2, rfl⟩ := hs
  obtain ⟨p, xs, id, he, hm, hr, _, _⟩ := say_rack h1
  obtain ⟨n, rfl, hd⟩ := say_int h2
  rw [he]
  exact lawWait_ok p xs n id hm h hr

end Go.Proofs.Yteoihmajnpleoaa
