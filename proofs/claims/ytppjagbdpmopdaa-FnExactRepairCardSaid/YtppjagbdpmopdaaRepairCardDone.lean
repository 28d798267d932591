/- RepairCard: the law holds for every input. -/
import Derived.Test.YtppjagbdpmopdaaRepCL
import Derived.Test.YtppjagbdpmopdaaSayC
import Derived.Test.YtppjagbdpmopdaaRepairCardF
namespace Go.Proofs.Ytppjagbdpmopdaa
set_option maxRecDepth 20000
set_option linter.unusedSimpArgs false
set_option linter.unusedVariables false
open Go Go.Ab

theorem fnExactRepairCard_proved : Rows.FnExactRepairCardSaid := by
  refine fnExactRepairCard_said fun h av hs => ?_
  obtain ⟨a0, _, rfl, h0, a1, _, rfl, h1, a2, _, rfl, h2, rfl⟩ := hs
  obtain ⟨d0, f0, x0, i0, e0, m0, z0, r0⟩ := say_card h0
  obtain ⟨d1, f1, x1, i1, e1, m1, z1, r1⟩ := say_card h1
  obtain ⟨d2, f2, x2, i2, e2, m2, z2, r2⟩ := say_card h2
  rw [e0, e1, e2]
  exact lawRepairCard_ok d0 f0 x0 d1 f1 x1 d2 f2 x2 i0 i1 i2 m0 z0 m1 z1 m2 z2 h r0 r1 r2
end Go.Proofs.Ytppjagbdpmopdaa
