/- CriticalJobs: the law holds for every input. -/
import Derived.Test.YtmkognfiemgmgaaJobsLaw
import Derived.Test.YtmkognfiemgmgaaSayJ
import Derived.Test.YtmkognfiemgmgaaCriticalJobsF
namespace Go.Proofs.Ytmkognfiemgmgaa
set_option linter.unusedSimpArgs false
set_option linter.unusedVariables false
open Go Go.Ab

theorem fnExactCriticalJobs_proved : Rows.FnExactCriticalJobsSaid := by
  refine fnExactCriticalJobs_said fun h av hs => ?_
  obtain ⟨_, _, rfl, h1, rfl⟩ := hs
  obtain ⟨js, id, rfl, hm, hr⟩ := say_jobs h1
  exact lawCriticalJobs_ok js id hm h hr

end Go.Proofs.Ytmkognfiemgmgaa
