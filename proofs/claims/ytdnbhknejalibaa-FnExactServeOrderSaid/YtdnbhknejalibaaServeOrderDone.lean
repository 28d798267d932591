/- ServeOrder: the law holds for every input. -/
import Derived.Test.YtdnbhknejalibaaServe
import Derived.Test.YtdnbhknejalibaaSayW
import Derived.Test.YtdnbhknejalibaaServeOrderF
namespace Go.Proofs.Ytdnbhknejalibaa
set_option linter.unusedSimpArgs false
set_option linter.unusedVariables false
open Go Go.Ab

theorem fnExactServeOrder_proved : Rows.FnExactServeOrderSaid := by
  refine fnExactServeOrder_said fun h av hs => ?_
  obtain ⟨_, _, rfl, h1, rfl⟩ := hs
  obtain ⟨ws, id, rfl, hm, hr⟩ := say_wishes h1
  exact lawServe_ok ws id hm h hr

end Go.Proofs.Ytdnbhknejalibaa
