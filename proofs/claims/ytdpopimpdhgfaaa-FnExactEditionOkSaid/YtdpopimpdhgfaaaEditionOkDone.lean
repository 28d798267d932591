/- EditionOk: the law holds for every input. -/
import Derived.Test.YtdpopimpdhgfaaaEd
import Derived.Test.YtdpopimpdhgfaaaEditionOkF
namespace Go.Proofs.Ytdpopimpdhgfaaa
set_option maxRecDepth 20000
set_option linter.unusedSimpArgs false
set_option linter.unusedVariables false
open Go Go.Ab

theorem fnExactEditionOk_proved : Rows.FnExactEditionOkSaid := by
  refine fnExactEditionOk_said fun h av hs => ?_
  obtain ⟨a, _, rfl, h1, rfl⟩ := hs
  obtain ⟨p, xs, id, he, hm, hr, _, hx⟩ := say_ed h1
  rw [he]
  exact lawEd_ok p xs id hm hx h hr
end Go.Proofs.Ytdpopimpdhgfaaa
