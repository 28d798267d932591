/- CompareStrips: the law holds for every input. -/
import Derived.Test.YtppjagbdpmopdaaCmp
import Derived.Test.YtppjagbdpmopdaaAb25
import Derived.Test.YtppjagbdpmopdaaCompareStripsF
namespace Go.Proofs.Ytppjagbdpmopdaa
set_option maxRecDepth 20000
set_option linter.unusedSimpArgs false
set_option linter.unusedVariables false
open Go Go.Ab

theorem fnExactCompareStrips_proved : Rows.FnExactCompareStripsSaid := by
  refine fnExactCompareStrips_said fun h av hs => ?_
  obtain ⟨_, _, rfl, h1, _, _, rfl, h2, rfl⟩ := hs
  obtain ⟨a, rfl, ba⟩ := say_str h1
  obtain ⟨b, rfl, bb⟩ := say_str h2
  exact lawCmp_ok a b ba bb h

end Go.Proofs.Ytppjagbdpmopdaa
