/- FnTexts: the law holds for every input. -/
import Derived.Test.YtbpcbemnbelajaaGreatDoorTextsM
import Derived.Test.YtbpcbemnbelajaaGreatDoorAb25
import Derived.Test.YtbpcbemnbelajaaGreatDoorTextsDF
namespace Go.Proofs.YtbpcbemnbelajaaGreatDoor
set_option maxRecDepth 20000
set_option linter.unusedSimpArgs false
set_option linter.unusedVariables false
open Go Go.Ab

theorem fnTexts_proved : Rows.FnTextsCardSaid := by
  refine fnTexts_card fun h av hs => ?_
  obtain ⟨_, _, rfl, h1, rfl⟩ := hs
  obtain ⟨bs, ci, rfl, hm, hr⟩ := say_bytes h1
  exact lawTexts_ok bs ci hm h hr

end Go.Proofs.YtbpcbemnbelajaaGreatDoor
