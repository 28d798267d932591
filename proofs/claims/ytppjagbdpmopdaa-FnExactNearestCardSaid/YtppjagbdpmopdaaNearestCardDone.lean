/- NearestCard: the law holds for every input. -/
import Derived.Test.YtppjagbdpmopdaaNearLaw
import Derived.Test.YtppjagbdpmopdaaSayCs
import Derived.Test.YtppjagbdpmopdaaNearestCardF
namespace Go.Proofs.Ytppjagbdpmopdaa
set_option maxRecDepth 20000
set_option linter.unusedSimpArgs false
set_option linter.unusedVariables false
open Go Go.Ab

theorem fnExactNearestCard_proved : Rows.FnExactNearestCardSaid := by
  refine fnExactNearestCard_said fun h av hs => ?_
  obtain ⟨c, _, rfl, h0, a1, _, rfl, h1, rfl⟩ := hs
  obtain ⟨cs, id, rfl, m0, r0, z0⟩ := say_cards h0
  obtain ⟨d1, f1, x1, i1, e1, m1, z1, r1⟩ := say_card h1
  rw [e1]
  exact lawNearC_ok cs id d1 f1 x1 i1 m0 z0 m1 z1 h r0 r1
end Go.Proofs.Ytppjagbdpmopdaa
