/- NameOk: the law holds for every input. -/
import Derived.Test.YtdnbhknejalibaaName
import Derived.Test.YtdnbhknejalibaaNameF
namespace Go.Proofs.Ytdnbhknejalibaa
set_option linter.unusedSimpArgs false
set_option linter.unusedVariables false
open Go Go.Ab

theorem fnExactNameOk_proved : Rows.FnExactNameOkSaid := by
  refine fnExactNameOk_said fun h av hs => ?_
  obtain ⟨_, _, rfl, ⟨a, ha, hm⟩, rfl⟩ := hs
  obtain rfl := List.head_eq_of_cons_eq ha
  exact lawName_ok a (by simpa [maxLen] using hm) h

end Go.Proofs.Ytdnbhknejalibaa
