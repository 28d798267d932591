/- FnExactReadCard: the law holds for every input. -/
import Derived.Test.YtbpcbemnbelajaaDoorReadM
import Derived.Test.YtbpcbemnbelajaaDoorAb25
import Derived.Test.YtbpcbemnbelajaaDoorReadCardDF
namespace Go.Proofs.YtbpcbemnbelajaaDoor
set_option maxRecDepth 20000
set_option linter.unusedSimpArgs false
set_option linter.unusedVariables false
open Go Go.Ab

theorem fnExactReadCard_proved : Rows.FnExactReadCardCardSaid := by
  refine fnExactReadCard_card fun h av hs => ?_
  obtain ⟨c, _, rfl, h0, rfl⟩ := hs
  obtain ⟨b, rfl, hb⟩ := say_str h0
  exact lawReadCard_ok b hb h
end Go.Proofs.YtbpcbemnbelajaaDoor
