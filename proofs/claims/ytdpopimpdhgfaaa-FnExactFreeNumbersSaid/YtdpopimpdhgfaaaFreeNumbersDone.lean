/- FnExactFreeNumbers: the law holds for every input. -/
import Derived.Test.YtdpopimpdhgfaaaFreeN
import Derived.Test.YtdpopimpdhgfaaaFreeNumbersF
namespace Go.Proofs.Ytdpopimpdhgfaaa
set_option maxRecDepth 20000
set_option linter.unusedSimpArgs false
set_option linter.unusedVariables false
open Go Go.Ab

theorem fnExactFreeNumbers_proved : Rows.FnExactFreeNumbersSaid := by
  refine fnExactFreeNumbers_said fun h av hs => ?_
  obtain ⟨a, _, rfl, h1, rfl⟩ := hs
  obtain ⟨p, xs, id, he, hm, hr, _, hx⟩ := say_ed h1
  rw [he]
  exact lawFree_ok p xs id hm hx h hr
end Go.Proofs.Ytdpopimpdhgfaaa
