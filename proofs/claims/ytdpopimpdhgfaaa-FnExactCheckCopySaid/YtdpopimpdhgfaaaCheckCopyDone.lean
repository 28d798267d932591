/- CheckCopy: the law holds for every input. -/
import Derived.Test.YtdpopimpdhgfaaaChkL
import Derived.Test.YtdpopimpdhgfaaaAb25
import Derived.Test.YtdpopimpdhgfaaaCheckCopyF
namespace Go.Proofs.Ytdpopimpdhgfaaa
set_option maxRecDepth 20000
set_option linter.unusedSimpArgs false
set_option linter.unusedVariables false
open Go Go.Ab

theorem fnExactCheckCopy_proved : Rows.FnExactCheckCopySaid := by
  refine fnExactCheckCopy_said fun h av hs => ?_
  obtain ⟨a, _, rfl, h1, _, _, rfl, h2, _, _, rfl, h3, rfl⟩ := hs
  obtain ⟨s, cs, bs, i, j, he, hm, hm', hr, hq⟩ := say_lot h1
  obtain ⟨p, rfl, _⟩ := say_int h2
  obtain ⟨q, rfl⟩ := say_bool h3
  rw [he]
  exact lawCheck_ok s cs bs p q i j hm hm' h hr hq

end Go.Proofs.Ytdpopimpdhgfaaa
