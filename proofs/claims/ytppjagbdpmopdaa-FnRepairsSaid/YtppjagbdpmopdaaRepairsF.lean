/- The frame of FnRepairs: from the contract to the statement. -/
import Derived.Test.YtppjagbdpmopdaaL
import Derived.Test.YtppjagbdpmopdaaAb19
import Derived.WalkKit
import Derived.ProofKit
import Derived.OpenShut
import Derived.ShutString
import Derived.ChangeOld
import Derived.Below
import Derived.Carry
namespace Go.Proofs.Ytppjagbdpmopdaa
set_option maxRecDepth 20000
set_option linter.unusedSimpArgs false
set_option linter.unusedVariables false
open Go Go.Ab Go.ChangeShapes Go.WideShapes Go.ChangeAt Go.RowKit

/-- what the law's arguments are -/
def SayFnRepairs : Say := fun h av => ∃ c rest, av = c :: rest ∧ (SaySl 1 fun _ => (SayI .u8)) h [c] ∧ (fun h av => av = []) h rest
theorem ownFnRepairs : ownKnob Try.prog.godebug = none := by kernel_rfl
theorem laidOutFnRepairs : laidOutB Try.prog = true := by kernel_rfl
set_option maxRecDepth 100000 in
theorem fnRepairs_lifted (hac : ∀ h av, SayFnRepairs h av → AC Try.prog 3 av h fun r _ => r = .raw (.bool true)) (os : Os) (started : os.Started) (H : Type) (enc : TypeId × Value → H) :
    ReturnsInHanded {} Try.checked os 3 .any (Rows.fnRepairsSpec.pre6 enc Try.prog Try.f3 Rows.fnRepairsRow.domain false) (Rows.fnRepairsSpec.post enc Try.prog Try.f3 false true false false) := by
  refine returnsInHanded_of_change (C := Try.checked) ownFnRepairs started (by kernel_rfl) Try.func3
    (ChangeSpec.witness6 (enc := enc) (C := Try.checked) false ⟨#[], #[.slice none 0 0], []⟩ 8 (by kernel_rfl) (by kernel_rfl) (by kernel_rfl) (by kernel_rfl)) ?_
  intro W base args ds gs before hval0 hW hcnd _
  have hval : ∀ (j : Nat) t v, Try.f3.params[j]? = some t → args[j]? = some v → Value.okWide Try.prog W .any base t v := hval0
  have hW' := hW
  obtain ⟨p, q, hA0, hV, rfl, hfz, hnd⟩ := hW
  have hA : DataW.TrodAll enc Try.prog W 0 (fun _ => true) true Try.f3.params.toList args.toList ds p := hA0
  rw [Try.params3] at hA hval
  obtain ⟨v0, vs0, d0, ds0, p0, q0, hargs, rfl, rfl, k0, r0⟩ := trodAll_cons hA
  obtain ⟨rfl, rfl, rfl⟩ := trodAll_nil r0
  obtain rfl : args = #[v0] := by cases args; simp_all
  obtain ⟨rfl, rfl⟩ := trodVars_none hV
  have lt0 : ∀ x ∈ p0, x.block < W.heap.size := by obtain ⟨m, hm⟩ := k0; exact DataW.trod_lt m _ _ _ hm
  have c0 : v0.cells.toList = [v0] := by obtain ⟨_, _, _, hc⟩ := okWide_slice Try.underlying22 (hval 0 22 v0 rfl rfl); rw [hc]; rfl
  clear hA0 hval0
  refine (calls_true ok3 (OpnA.arg (enc := enc) (opens_slice (es := 1) Try.underlying22 (by kernel_rfl) (by decide) (opens_int Try.underlying5) SayI.mono) (SaySl.mono fun _ => SayI.mono) (c0) k0 OpnA.nil) hac).mono fun e W' ⟨he, bel⟩ => ?_
  subst he
  exact ⟨_, rfl, _, _, _, [], _, [], hW', trodAll_mk1 (shut_bool Try.underlying4 _), (trodAll_cons_mk (Below.trod laidOutFnRepairs (by kernel_rfl) (of_decide_eq_true (by kernel_rfl)) k0 bel lt0) trodAll_mk0), rfl, bel.frame _, fun h => by cases h⟩

theorem fnRepairs_said (hac : ∀ h av, SayFnRepairs h av → AC Try.prog 3 av h fun r _ => r = .raw (.bool true)) : Rows.FnRepairsSaid :=
  OpenClaim.holds_of_wide 3 Try.f3 rfl rfl rfl rfl rfl rfl rfl ⟨rfl, rfl, rfl, rfl, rfl⟩ rfl rfl rfl rfl rfl (by kernel_rfl) Try.func3 (by kernel_rfl)
    (of_decide_eq_true (by kernel_rfl)) (by unfold Func.isWrapper; first | (rw [if_pos (by decide +kernel)]; kernel_rfl) | (rw [if_neg (by decide +kernel)]; exact ⟨rfl, rfl⟩))
    (fun os started H enc _ => fnRepairs_lifted hac os started H enc)

end Go.Proofs.Ytppjagbdpmopdaa
