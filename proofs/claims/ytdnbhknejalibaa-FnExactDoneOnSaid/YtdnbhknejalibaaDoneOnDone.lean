/- DoneOn: the law holds for every input. -/
import Derived.Test.YtdnbhknejalibaaDoneOn
import Derived.Test.YtdnbhknejalibaaSayW
import Derived.Test.YtdnbhknejalibaaDoneOnF
namespace Go.Proofs.Ytdnbhknejalibaa
set_option linter.unusedSimpArgs false
set_option linter.unusedVariables false
open Go Go.Ab

theorem fnExactDoneOn_proved : Rows.FnExactDoneOnSaid := by
  refine fnExactDoneOn_said fun h av hs => ?_
  obtain ⟨_, _, rfl, h1, _, _, rfl, h2, rfl⟩ := hs
  obtain ⟨ws, id, rfl, hm, hr⟩ := say_wishes h1
  obtain ⟨d, rfl, hd⟩ := say_int h2
  exact lawDoneOn_ok ws id d hm hd h hr

end Go.Proofs.Ytdnbhknejalibaa
