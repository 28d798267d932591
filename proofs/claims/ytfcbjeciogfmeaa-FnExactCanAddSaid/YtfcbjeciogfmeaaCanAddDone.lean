/- FnExactCanAdd: the law holds for every input. -/
import Derived.Test.YtfcbjeciogfmeaaAdd
import Derived.Test.YtfcbjeciogfmeaaCanAddF
namespace Go.Proofs.Ytfcbjeciogfmeaa
set_option maxRecDepth 20000
set_option linter.unusedSimpArgs false
set_option linter.unusedVariables false
open Go Go.Ab

theorem fnExactCanAdd_proved : Rows.FnExactCanAddSaid := by
  refine fnExactCanAdd_said fun h av hs => ?_
  obtain ⟨a, _, rfl, h0, b, _, rfl, h1, rfl⟩ := hs
  obtain ⟨d, f, xs, id, he, hm, hmx, hr⟩ := say_card h0
  obtain ⟨p, q, r, hb⟩ := say_box h1
  rw [he, hb]
  exact lawCanAdd_ok d f xs id p q r hm hmx h hr
end Go.Proofs.Ytfcbjeciogfmeaa
