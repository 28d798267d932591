/- IsSymmetric: the law holds for every input. -/
import Derived.Test.YtppjagbdpmopdaaSym
import Derived.Test.YtppjagbdpmopdaaSayC
import Derived.Test.YtppjagbdpmopdaaIsSymmetricF
namespace Go.Proofs.Ytppjagbdpmopdaa
set_option maxRecDepth 20000
set_option linter.unusedSimpArgs false
set_option linter.unusedVariables false
open Go Go.Ab

theorem fnExactIsSymmetric_proved : Rows.FnExactIsSymmetricSaid := by
  refine fnExactIsSymmetric_said fun h av hs => ?_
  obtain ⟨a0, _, rfl, h0, rfl⟩ := hs
  obtain ⟨d0, f0, x0, i0, e0, m0, z0, r0⟩ := say_card h0
  rw [e0]
  exact lawSym_ok d0 f0 x0 i0 m0 z0 h r0
end Go.Proofs.Ytppjagbdpmopdaa
