/- FnExactReturnNumber: the law holds for every input. -/
import Derived.Test.YtdpopimpdhgfaaaRet
import Derived.Test.YtdpopimpdhgfaaaReturnNumberF
namespace Go.Proofs.Ytdpopimpdhgfaaa
set_option maxRecDepth 20000
set_option linter.unusedSimpArgs false
set_option linter.unusedVariables false
open Go Go.Ab

theorem fnExactReturnNumber_proved : Rows.FnExactReturnNumberSaid := by
  refine fnExactReturnNumber_said fun h av hs => ?_
  obtain ⟨a, _, rfl, h1, c, _, rfl, h2, rfl⟩ := hs
  obtain ⟨p, xs, id, he, hm, hr, _, hx⟩ := say_ed h1
  obtain ⟨n, rfl, hn⟩ := say_int h2
  rw [he]
  exact lawRet_ok p xs n id hm hx h hr
end Go.Proofs.Ytdpopimpdhgfaaa
