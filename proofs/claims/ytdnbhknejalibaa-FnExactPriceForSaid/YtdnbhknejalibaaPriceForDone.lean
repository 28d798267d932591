/- PriceFor: the law holds for every input. -/
import Derived.Test.YtdnbhknejalibaaPrice
import Derived.Test.YtdnbhknejalibaaPriceForF
namespace Go.Proofs.Ytdnbhknejalibaa
set_option linter.unusedSimpArgs false
set_option linter.unusedVariables false
open Go Go.Ab

theorem fnExactPriceFor_proved : Rows.FnExactPriceForSaid := by
  refine fnExactPriceFor_said fun h av hs => ?_
  obtain ⟨_, _, rfl, ⟨a, ha, _⟩, _, _, rfl, ⟨b, hb, _⟩, _, _, rfl, ⟨c, hc, _⟩, rfl⟩ := hs
  obtain rfl := List.head_eq_of_cons_eq ha
  obtain rfl := List.head_eq_of_cons_eq hb
  obtain rfl := List.head_eq_of_cons_eq hc
  exact lawPrice_ok a b c h

end Go.Proofs.Ytdnbhknejalibaa
