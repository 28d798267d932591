/- EarliestOf: the law holds for every input. -/
import Derived.Test.YtmkognfiemgmgaaJobsLaw
import Derived.Test.YtmkognfiemgmgaaSayJ
import Derived.Test.YtmkognfiemgmgaaEarliestOfF
namespace Go.Proofs.Ytmkognfiemgmgaa
set_option linter.unusedSimpArgs false
set_option linter.unusedVariables false
open Go Go.Ab

theorem fnExactEarliestOf_proved : Rows.FnExactEarliestOfSaid := by
  refine fnExactEarliestOf_said fun h av hs => ?_
  obtain ⟨_, _, rfl, h1, rfl⟩ := hs
  obtain ⟨js, id, rfl, hm, hr⟩ := say_jobs h1
  exact lawEarliestOf_ok js id hm h hr

end Go.Proofs.Ytmkognfiemgmgaa
