/- NearestBetween: the law holds for every input. -/
import Derived.Test.YtppjagbdpmopdaaMidLaw
import Derived.Test.YtppjagbdpmopdaaAb25
import Derived.Test.YtppjagbdpmopdaaNearestBetweenF
namespace Go.Proofs.Ytppjagbdpmopdaa
set_option maxRecDepth 20000
set_option linter.unusedSimpArgs false
set_option linter.unusedVariables false
open Go Go.Ab

theorem fnExactNearestBetween_proved : Rows.FnExactNearestBetweenSaid := by
  refine fnExactNearestBetween_said fun h av hs => ?_
  obtain ⟨_, _, rfl, h1, _, _, rfl, h2, _, _, rfl, h3, rfl⟩ := hs
  obtain ⟨a, rfl, ba⟩ := say_str h1
  obtain ⟨b, rfl, bb⟩ := say_str h2
  obtain ⟨c, rfl, bc⟩ := say_str h3
  exact lawNear_ok a b c ba bb bc h

end Go.Proofs.Ytppjagbdpmopdaa
