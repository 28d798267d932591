/- FnExactSellNext: the law holds for every input. -/
import Derived.Test.YtdpopimpdhgfaaaSellNx
import Derived.Test.YtdpopimpdhgfaaaSellNextF
namespace Go.Proofs.Ytdpopimpdhgfaaa
set_option maxRecDepth 20000
set_option linter.unusedSimpArgs false
set_option linter.unusedVariables false
open Go Go.Ab

theorem fnExactSellNext_proved : Rows.FnExactSellNextSaid := by
  refine fnExactSellNext_said fun h av hs => ?_
  obtain ⟨a, _, rfl, h1, rfl⟩ := hs
  obtain ⟨p, xs, id, he, hm, hr, _, hx⟩ := say_ed h1
  rw [he]
  exact lawNextS_ok p xs id hm hx h hr
end Go.Proofs.Ytdpopimpdhgfaaa
