/- RatesOk: the law holds for every input. -/
import Derived.Test.YtdnbhknejalibaaRates
import Derived.Test.YtdnbhknejalibaaRatesF
namespace Go.Proofs.Ytdnbhknejalibaa
set_option linter.unusedSimpArgs false
set_option linter.unusedVariables false
open Go Go.Ab

theorem fnExactRatesOk_proved : Rows.FnExactRatesOkSaid := by
  refine fnExactRatesOk_said fun h av hs => ?_
  obtain ⟨_, _, rfl, ⟨_, _, rfl, _, ⟨a, rfl, _⟩, _, _, rfl, _, ⟨b, rfl, _⟩, _, _, rfl, _, ⟨c, rfl, _⟩, _, _, rfl, _, ⟨d, rfl, _⟩, rfl⟩, rfl⟩ := hs
  exact lawRates_ok a b c d h

end Go.Proofs.Ytdnbhknejalibaa
