/- WithWorkers: the law holds for every input. -/
import Derived.Test.YtmkognfiemgmgaaWorkLaw
import Derived.Test.YtmkognfiemgmgaaSayJ
import Derived.Test.YtmkognfiemgmgaaWithWorkersF
namespace Go.Proofs.Ytmkognfiemgmgaa
set_option maxRecDepth 20000
set_option linter.unusedSimpArgs false
set_option linter.unusedVariables false
open Go Go.Ab

theorem fnExactWithWorkers_proved : Rows.FnExactWithWorkersSaid := by
  refine fnExactWithWorkers_said fun h av hs => ?_
  obtain ⟨_, _, rfl, h1, _, _, rfl, h2, rfl⟩ := hs
  obtain ⟨js, id, rfl, hm, hr⟩ := say_jobs h1
  obtain ⟨w, rfl, _⟩ := say_int h2
  exact lawWithWorkers_ok js id w hm h hr

end Go.Proofs.Ytmkognfiemgmgaa
