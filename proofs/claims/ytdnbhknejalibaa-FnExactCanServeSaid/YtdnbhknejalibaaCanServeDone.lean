/- CanServe: the law holds for every input. -/
import Derived.Test.YtdnbhknejalibaaLate
import Derived.Test.YtdnbhknejalibaaSayW
import Derived.Test.YtdnbhknejalibaaCanServeF
namespace Go.Proofs.Ytdnbhknejalibaa
set_option linter.unusedSimpArgs false
set_option linter.unusedVariables false
open Go Go.Ab

theorem fnExactCanServe_proved : Rows.FnExactCanServeSaid := by
  refine fnExactCanServe_said fun h av hs => ?_
  obtain ⟨_, _, rfl, h1, _, _, rfl, h2, rfl⟩ := hs
  obtain ⟨ws, id, rfl, hm, hr⟩ := say_wishes h1
  obtain ⟨d, rfl, hd⟩ := say_int h2
  exact lawCanServe_ok ws id d hm hd h hr

end Go.Proofs.Ytdnbhknejalibaa
