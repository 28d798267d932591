/- CostOf: the law holds for every input. -/
import Derived.Test.YtppjagbdpmopdaaCostLaw
import Derived.Test.YtppjagbdpmopdaaSayC
import Derived.Test.YtppjagbdpmopdaaCostOfF
namespace Go.Proofs.Ytppjagbdpmopdaa
set_option maxRecDepth 20000
set_option linter.unusedSimpArgs false
set_option linter.unusedVariables false
open Go Go.Ab

theorem fnExactCostOf_proved : Rows.FnExactCostOfSaid := by
  refine fnExactCostOf_said fun h av hs => ?_
  obtain ⟨a0, _, rfl, h0, _, _, rfl, ⟨_, _, rfl, _, ⟨a, rfl, _⟩, _, _, rfl, _, ⟨b, rfl, _⟩, _, _, rfl, _, ⟨c, rfl, _⟩, _, _, rfl, _, ⟨e, rfl, _⟩, rfl⟩, _, _, rfl, hp, rfl⟩ := hs
  obtain ⟨d0, f0, x0, i0, e0, m0, z0, r0⟩ := say_card h0
  obtain ⟨p, rfl, _⟩ := say_int hp
  rw [e0]
  exact lawCostOf_ok d0 f0 x0 a b c e p i0 m0 z0 h r0
end Go.Proofs.Ytppjagbdpmopdaa
