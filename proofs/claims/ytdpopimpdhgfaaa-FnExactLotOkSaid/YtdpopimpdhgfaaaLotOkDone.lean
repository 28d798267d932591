/- LotOk: the law holds for every input. -/
import Derived.Test.YtdpopimpdhgfaaaLotLaw
import Derived.Test.YtdpopimpdhgfaaaLotOkF
namespace Go.Proofs.Ytdpopimpdhgfaaa
set_option maxRecDepth 20000
set_option linter.unusedSimpArgs false
set_option linter.unusedVariables false
open Go Go.Ab

theorem fnExactLotOk_proved : Rows.FnExactLotOkSaid := by
  refine fnExactLotOk_said fun h av hs => ?_
  obtain ⟨a, _, rfl, h1, rfl⟩ := hs
  obtain ⟨s, cs, bs, i, j, he, hm, hm', hr, hq⟩ := say_lot h1
  rw [he]
  exact lawLotOk_ok s cs bs i j hm hm' h hr hq

end Go.Proofs.Ytdpopimpdhgfaaa
