/- FnWishes: the law holds for every input. -/
import Derived.Test.YtdnbhknejalibaaWishes
import Derived.Test.YtdnbhknejalibaaAb25
import Derived.Test.YtdnbhknejalibaaWishesF
namespace Go.Proofs.Ytdnbhknejalibaa
set_option maxRecDepth 20000
set_option linter.unusedSimpArgs false
set_option linter.unusedVariables false
open Go Go.Ab

theorem fnWishes_proved : Rows.FnWishesSaid := by
  refine fnWishes_said fun h av hs => ?_
  obtain ⟨_, _, rfl, h1, rfl⟩ := hs
  obtain ⟨bs, ci, rfl, hm, hr⟩ := say_bytes h1
  exact lawWishes_ok bs ci hm h hr

end Go.Proofs.Ytdnbhknejalibaa
