/- ShiftDistance: the law holds for every input. -/
import Derived.Test.YtppjagbdpmopdaaShift
import Derived.Test.YtppjagbdpmopdaaSayC
import Derived.Test.YtppjagbdpmopdaaShiftDistanceF
namespace Go.Proofs.Ytppjagbdpmopdaa
set_option maxRecDepth 20000
set_option linter.unusedSimpArgs false
set_option linter.unusedVariables false
open Go Go.Ab

theorem fnExactShiftDistance_proved : Rows.FnExactShiftDistanceSaid := by
  refine fnExactShiftDistance_said fun h av hs => ?_
  obtain ⟨a0, _, rfl, h0, a1, _, rfl, h1, rfl⟩ := hs
  obtain ⟨d0, f0, x0, i0, e0, m0, z0, r0⟩ := say_card h0
  obtain ⟨d1, f1, x1, i1, e1, m1, z1, r1⟩ := say_card h1
  rw [e0, e1]
  exact lawShiftDistance_ok d0 f0 x0 d1 f1 x1 i0 i1 m0 z0 m1 z1 h r0 r1
end Go.Proofs.Ytppjagbdpmopdaa
