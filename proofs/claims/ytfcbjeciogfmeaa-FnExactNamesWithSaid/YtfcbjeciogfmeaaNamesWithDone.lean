/- FnExactNamesWith: the law holds for every input. -/
import Derived.Test.YtfcbjeciogfmeaaNamesLaw
import Derived.Test.YtfcbjeciogfmeaaNamesWithF
namespace Go.Proofs.Ytfcbjeciogfmeaa
set_option maxRecDepth 20000
set_option linter.unusedSimpArgs false
set_option linter.unusedVariables false
open Go Go.Ab

theorem fnExactNamesWith_proved : Rows.FnExactNamesWithSaid := by
  refine fnExactNamesWith_said fun h av hs => ?_
  obtain ⟨c, _, rfl, h0, d, _, rfl, h1, rfl⟩ := hs
  obtain ⟨cs, id, rfl, m0, r0, z0⟩ := say_items h0
  obtain ⟨bg, rfl, hb⟩ := say_str h1
  exact lawNamesWith_ok cs bg id m0 z0 hb h r0
end Go.Proofs.Ytfcbjeciogfmeaa
