/- FnBench: the law holds for every input. -/
import Derived.Test.YtmkognfiemgmgaaBench
import Derived.Test.YtmkognfiemgmgaaAb25
import Derived.Test.YtmkognfiemgmgaaBenchF
namespace Go.Proofs.Ytmkognfiemgmgaa
set_option maxRecDepth 20000
set_option linter.unusedSimpArgs false
set_option linter.unusedVariables false
open Go Go.Ab

theorem fnBench_proved : Rows.FnBenchSaid := by
  refine fnBench_said fun h av hs => ?_
  obtain ⟨_, _, rfl, h1, rfl⟩ := hs
  obtain ⟨bs, ci, rfl, hm, hr⟩ := say_bytes h1
  exact lawBench_ok bs ci hm h hr

end Go.Proofs.Ytmkognfiemgmgaa
