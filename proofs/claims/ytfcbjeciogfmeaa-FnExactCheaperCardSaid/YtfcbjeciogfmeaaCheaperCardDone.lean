/- CheaperCard: the law holds for every input. -/
import Derived.Test.YtfcbjeciogfmeaaCheap
import Derived.Test.YtfcbjeciogfmeaaSayC
import Derived.Test.YtfcbjeciogfmeaaCheaperCardF
namespace Go.Proofs.Ytfcbjeciogfmeaa
set_option maxRecDepth 20000
set_option linter.unusedSimpArgs false
set_option linter.unusedVariables false
open Go Go.Ab

theorem fnExactCheaperCard_proved : Rows.FnExactCheaperCardSaid := by
  refine fnExactCheaperCard_said fun h av hs => ?_
  obtain ⟨a0, _, rfl, h0, a1, _, rfl, h1, _, _, rfl, ⟨_, _, rfl, _, ⟨a, rfl, _⟩, _, _, rfl, _, ⟨b, rfl, _⟩, _, _, rfl, _, ⟨c, rfl, _⟩, _, _, rfl, _, ⟨e, rfl, _⟩, rfl⟩, rfl⟩ := hs
  obtain ⟨d0, f0, x0, i0, e0, m0, z0, r0⟩ := say_card h0
  obtain ⟨d1, f1, x1, i1, e1, m1, z1, r1⟩ := say_card h1
  rw [e0, e1]
  exact lawCheaperCard_ok d0 f0 x0 d1 f1 x1 a b c e i0 i1 m0 z0 m1 z1 h r0 r1
end Go.Proofs.Ytfcbjeciogfmeaa
