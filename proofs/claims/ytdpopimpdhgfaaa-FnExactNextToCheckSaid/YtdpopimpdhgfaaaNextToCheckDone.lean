/- NextToCheck: the law holds for every input. -/
import Derived.Test.YtdpopimpdhgfaaaLotLaw
import Derived.Test.YtdpopimpdhgfaaaNextToCheckF
namespace Go.Proofs.Ytdpopimpdhgfaaa
set_option maxRecDepth 20000
set_option linter.unusedSimpArgs false
set_option linter.unusedVariables false
open Go Go.Ab

theorem fnExactNextToCheck_proved : Rows.FnExactNextToCheckSaid := by
  refine fnExactNextToCheck_said fun h av hs => ?_
  obtain ⟨a, _, rfl, h1, _, _, rfl, h2, rfl⟩ := hs
  obtain ⟨s, cs, bs, i, j, he, hm, hm', hr, hq⟩ := say_lot h1
  obtain ⟨p, rfl, _⟩ := say_int h2
  rw [he]
  exact lawNext_ok s cs bs p i j hm hm' h hr hq

end Go.Proofs.Ytdpopimpdhgfaaa
