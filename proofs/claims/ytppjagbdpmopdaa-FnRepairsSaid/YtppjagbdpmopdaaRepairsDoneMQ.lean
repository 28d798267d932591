/- FnRepairs: the law holds for every input. -/
import Derived.Test.YtppjagbdpmopdaaRepairsMQ
import Derived.Test.YtppjagbdpmopdaaAb25
import Derived.Test.YtppjagbdpmopdaaRepairsF
namespace Go.Proofs.Ytppjagbdpmopdaa
set_option maxRecDepth 20000
set_option linter.unusedSimpArgs false
set_option linter.unusedVariables false
open Go Go.Ab
theorem fnRepairs_proved : Rows.FnRepairsSaid := by
  refine fnRepairs_said fun h av hs => ?_
  obtain ⟨_, _, rfl, h1, rfl⟩ := hs
  obtain ⟨bs, ci, rfl, hm, hr⟩ := say_bytes h1
  exact lawRepairs_ok bs ci hm h hr
end Go.Proofs.Ytppjagbdpmopdaa
