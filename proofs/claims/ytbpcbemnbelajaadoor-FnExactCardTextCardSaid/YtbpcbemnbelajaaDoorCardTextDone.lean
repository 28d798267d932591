/- FnExactCardText: the law holds for every input. -/
import Derived.Test.YtbpcbemnbelajaaDoorCTx
import Derived.Test.YtbpcbemnbelajaaDoorSayC
import Derived.Test.YtbpcbemnbelajaaDoorCardTextDF
namespace Go.Proofs.YtbpcbemnbelajaaDoor
set_option maxRecDepth 20000
set_option linter.unusedSimpArgs false
set_option linter.unusedVariables false
open Go Go.Ab

theorem fnExactCardText_proved : Rows.FnExactCardTextCardSaid := by
  refine fnExactCardText_card fun h av hs => ?_
  obtain ⟨a0, _, rfl, h0, rfl⟩ := hs
  obtain ⟨d0, f0, x0, i0, e0, m0, z0, r0⟩ := say_card h0
  rw [e0]
  exact lawCardT_ok d0 f0 x0 i0 m0 z0 h r0
end Go.Proofs.YtbpcbemnbelajaaDoor
