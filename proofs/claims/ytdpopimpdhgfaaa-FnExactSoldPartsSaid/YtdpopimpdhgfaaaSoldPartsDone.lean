/- FnExactSoldParts: the law holds for every input. -/
import Derived.Test.YtdpopimpdhgfaaaPartL
import Derived.Test.YtdpopimpdhgfaaaSoldPartsF
namespace Go.Proofs.Ytdpopimpdhgfaaa
set_option maxRecDepth 20000
set_option linter.unusedSimpArgs false
set_option linter.unusedVariables false
open Go Go.Ab

theorem fnExactSoldParts_proved : Rows.FnExactSoldPartsSaid := by
  refine fnExactSoldParts_said fun h av hs => ?_
  obtain ⟨a, _, rfl, h1, rfl⟩ := hs
  obtain ⟨p, xs, id, he, hm, hr, _, hx⟩ := say_ed h1
  rw [he]
  exact lawPart_ok p xs id hm hx h hr
end Go.Proofs.Ytdpopimpdhgfaaa
