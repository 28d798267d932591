/- FnSeries: the law holds for every input. -/
import Derived.Test.YtdpopimpdhgfaaaSeriesM
import Derived.Test.YtdpopimpdhgfaaaAb25
import Derived.Test.YtdpopimpdhgfaaaSeriesF
namespace Go.Proofs.Ytdpopimpdhgfaaa
set_option maxRecDepth 20000
set_option linter.unusedSimpArgs false
set_option linter.unusedVariables false
open Go Go.Ab

theorem fnSeries_proved : Rows.FnSeriesSaid := by
  refine fnSeries_said fun h av hs => ?_
  obtain ⟨_, _, rfl, h1, rfl⟩ := hs
  obtain ⟨bs, ci, rfl, hm, hr⟩ := say_bytes h1
  exact lawSeries_ok bs ci hm h hr

end Go.Proofs.Ytdpopimpdhgfaaa
