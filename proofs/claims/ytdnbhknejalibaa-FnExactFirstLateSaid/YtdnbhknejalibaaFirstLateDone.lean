/- FirstLate: the law holds for every input. -/
import Derived.Test.YtdnbhknejalibaaLate
import Derived.Test.YtdnbhknejalibaaSayW
import Derived.Test.YtdnbhknejalibaaFirstLateF
namespace Go.Proofs.Ytdnbhknejalibaa
set_option linter.unusedSimpArgs false
set_option linter.unusedVariables false
open Go Go.Ab

theorem fnExactFirstLate_proved : Rows.FnExactFirstLateSaid := by
  refine fnExactFirstLate_said fun h av hs => ?_
  obtain ⟨_, _, rfl, h1, _, _, rfl, h2, rfl⟩ := hs
  obtain ⟨ws, id, rfl, hm, hr⟩ := say_wishes h1
  obtain ⟨d, rfl, hd⟩ := say_int h2
  exact lawFirstLate_ok ws id d hm hd h hr

end Go.Proofs.Ytdnbhknejalibaa
