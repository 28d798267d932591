/- FnExactShortText: the law holds for every input. -/
import Derived.Test.YtbpcbemnbelajaaDoorShort
import Derived.Test.YtbpcbemnbelajaaDoorAb25
import Derived.Test.YtbpcbemnbelajaaDoorShortTextDF
namespace Go.Proofs.YtbpcbemnbelajaaDoor
set_option maxRecDepth 20000
set_option linter.unusedSimpArgs false
set_option linter.unusedVariables false
open Go Go.Ab

theorem fnExactShortText_proved : Rows.FnExactShortTextCardSaid := by
  refine fnExactShortText_card fun h av hs => ?_
  obtain ⟨c, _, rfl, h0, rfl⟩ := hs
  obtain ⟨b, rfl, hb⟩ := say_str h0
  exact lawShort_ok b hb h
end Go.Proofs.YtbpcbemnbelajaaDoor
