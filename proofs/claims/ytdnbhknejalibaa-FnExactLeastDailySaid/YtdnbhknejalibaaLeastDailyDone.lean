/- LeastDaily: the law holds for every input. -/
import Derived.Test.YtdnbhknejalibaaLate
import Derived.Test.YtdnbhknejalibaaSayW
import Derived.Test.YtdnbhknejalibaaLeastDailyF
namespace Go.Proofs.Ytdnbhknejalibaa
set_option linter.unusedSimpArgs false
set_option linter.unusedVariables false
open Go Go.Ab

theorem fnExactLeastDaily_proved : Rows.FnExactLeastDailySaid := by
  refine fnExactLeastDaily_said fun h av hs => ?_
  obtain ⟨_, _, rfl, h1, rfl⟩ := hs
  obtain ⟨ws, id, rfl, hm, hr⟩ := say_wishes h1
  exact lawLeastDaily_ok ws id hm h hr

end Go.Proofs.Ytdnbhknejalibaa
