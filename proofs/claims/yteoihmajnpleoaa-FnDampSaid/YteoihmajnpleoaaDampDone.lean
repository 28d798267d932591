/- FnDamp: the law holds for every input. -/
import Derived.Test.YteoihmajnpleoaaDamp
import Derived.Test.YteoihmajnpleoaaAb25
import Derived.Test.YteoihmajnpleoaaDampF
namespace Go.Proofs.Yteoihmajnpleoaa
set_option maxRecDepth 20000
set_option linter.unusedSimpArgs false
set_option linter.unusedVariables false
open Go Go.Ab

theorem fnDamp_proved : Rows.FnDampSaid := by
  refine fnDamp_said fun h av hs => ?_
  obtain ⟨_, _, rfl, h1, rfl⟩ := hs
  obtain ⟨bs, ci, rfl, hm, hr⟩ := say_bytes h1
  exact lawDamp_ok bs ci hm h hr

end Go.Proofs.Yteoihmajnpleoaa
