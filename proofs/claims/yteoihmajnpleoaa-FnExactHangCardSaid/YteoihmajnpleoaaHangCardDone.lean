/- HangCard: the law holds for every input. -/
import Derived.Test.YteoihmajnpleoaaHangLaw
import Derived.Test.YteoihmajnpleoaaSayR
import Derived.Test.YteoihmajnpleoaaHangCardF
namespace Go.Proofs.Yteoihmajnpleoaa
set_option linter.unusedSimpArgs false
set_option linter.unusedVariables false
open Go Go.Ab

theorem fnExactHangCard_proved : Rows.FnExactHangCardSaid := by
  refine fnExactHangCard_said fun h av hs => ?_
  obtain ⟨a, _, rfl, h1, _, _, rfl, h2, rfl⟩ := hs
  obtain ⟨p, xs, id, he, hm, hr, _, _⟩ := say_rack h1
  obtain ⟨n, rfl, hd⟩ := say_int h2
  rw [he]
  exact lawHang_ok p xs n id hm h hr

end Go.Proofs.Yteoihmajnpleoaa
