/- CatalogOk: the law holds for every input. -/
import Derived.Test.YtfcbjeciogfmeaaCatLaw
import Derived.Test.YtfcbjeciogfmeaaCatalogOkF
namespace Go.Proofs.Ytfcbjeciogfmeaa
set_option maxRecDepth 20000
set_option linter.unusedSimpArgs false
set_option linter.unusedVariables false
open Go Go.Ab

theorem fnExactCatalogOk_proved : Rows.FnExactCatalogOkSaid := by
  refine fnExactCatalogOk_said fun h av hs => ?_
  obtain ⟨c, _, rfl, h0, rfl⟩ := hs
  obtain ⟨cs, id, rfl, m0, r0, z0⟩ := say_items h0
  exact lawCatalogOk_ok cs id m0 z0 h r0
end Go.Proofs.Ytfcbjeciogfmeaa
