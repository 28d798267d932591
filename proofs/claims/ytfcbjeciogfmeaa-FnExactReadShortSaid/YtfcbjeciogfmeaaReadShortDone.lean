/- FnExactReadShort: the law holds for every input. -/
import Derived.Test.YtfcbjeciogfmeaaRuns
import Derived.Test.YtfcbjeciogfmeaaAb25
import Derived.Test.YtfcbjeciogfmeaaReadShortF
namespace Go.Proofs.Ytfcbjeciogfmeaa
set_option maxRecDepth 20000
set_option linter.unusedSimpArgs false
set_option linter.unusedVariables false
open Go Go.Ab

theorem fnExactReadShort_proved : Rows.FnExactReadShortSaid := by
  refine fnExactReadShort_said fun h av hs => ?_
  obtain ⟨c, _, rfl, h0, rfl⟩ := hs
  obtain ⟨b, rfl, hb⟩ := say_str h0
  exact lawRead_ok b hb h
end Go.Proofs.Ytfcbjeciogfmeaa
