/- The frame of FnBench: from the contract to the statement. -/
import Derived.Test.YtmkognfiemgmgaaL
import Derived.Test.YtmkognfiemgmgaaAb19
import Derived.WalkKit
import Derived.ProofKit
import Derived.OpenShut
import Derived.ShutString
import Derived.ChangeOld
import Derived.Below
import Derived.Carry
namespace Go.Proofs.Ytmkognfiemgmgaa
set_option maxRecDepth 20000
set_option linter.unusedSimpArgs false
set_option linter.unusedVariables false
open Go Go.Ab Go.ChangeShapes Go.WideShapes Go.ChangeAt Go.RowKit

/-- what the law's arguments are -/
def SayFnBench : Say := fun h av => ∃ c rest, av = c :: rest ∧ (SaySl 1 fun _ => (SayI .u8)) h [c] ∧ (fun h av => av = []) h rest
theorem ownFnBench : ownKnob Try.prog.godebug = none := by kernel_rfl
theorem laidOutFnBench : laidOutB Try.prog = true := by kernel_rfl
set_option maxRecDepth 100000 in
theorem fnBench_lifted (hac : ∀ h av, SayFnBench h av → AC Try.prog 10 av h fun r _ => r = .raw (.bool true)) (os : Os) (started : os.Started) (H : Type) (enc : TypeId × Value → H) :
    ReturnsInHanded {} Try.checked os 10 .any (Rows.fnBenchSpec.pre6 enc Try.prog Try.f10 Rows.fnBenchRow.domain false) (Rows.fnBenchSpec.post enc Try.prog Try.f10 false true false false) := by
  refine returnsInHanded_of_change (C := Try.checked) ownFnBench started (by kernel_rfl) Try.func10
    (ChangeSpec.witness6 (enc := enc) (C := Try.checked) false ⟨#[], #[.slice none 0 0], []⟩ 8 (by kernel_rfl) (by kernel_rfl) (by kernel_rfl) (by kernel_rfl)) ?_
  intro W base args ds gs before hval0 hW hcnd _
  have hval : ∀ (j : Nat) t v, Try.f10.params[j]? = some t → args[j]? = some v → Value.okWide Try.prog W .any base t v := hval0
  have hW' := hW
  obtain ⟨p, q, hA0, hV, rfl, hfz, hnd⟩ := hW
  have hA : DataW.TrodAll enc Try.prog W 0 (fun _ => true) true Try.f10.params.toList args.toList ds p := hA0
  rw [Try.params10] at hA hval
  obtain ⟨v0, vs0, d0, ds0, p0, q0, hargs, rfl, rfl, k0, r0⟩ := trodAll_cons hA
  obtain ⟨rfl, rfl, rfl⟩ := trodAll_nil r0
  obtain rfl : args = #[v0] := by cases args; simp_all
  obtain ⟨rfl, rfl⟩ := trodVars_none hV
  have lt0 : ∀ x ∈ p0, x.block < W.heap.size := by obtain ⟨m, hm⟩ := k0; exact DataW.trod_lt m _ _ _ hm
  have c0 : v0.cells.toList = [v0] := by obtain ⟨_, _, _, hc⟩ := okWide_slice Try.underlying36 (hval 0 36 v0 rfl rfl); rw [hc]; rfl
  clear hA0 hval0
  refine (calls_true ok10 (OpnA.arg (enc := enc) (opens_slice (es := 1) Try.underlying36 (by kernel_rfl) (by decide) (opens_int Try.underlying5) SayI.mono) (SaySl.mono fun _ => SayI.mono) (c0) k0 OpnA.nil) hac).mono fun e W' ⟨he, bel⟩ => ?_
  subst he
  exact ⟨_, rfl, _, _, _, [], _, [], hW', trodAll_mk1 (shut_bool Try.underlying4 _), (trodAll_cons_mk (Below.trod laidOutFnBench (by kernel_rfl) (of_decide_eq_true (by kernel_rfl)) k0 bel lt0) trodAll_mk0), rfl, bel.frame _, fun h => by cases h⟩

theorem fnBench_said (hac : ∀ h av, SayFnBench h av → AC Try.prog 10 av h fun r _ => r = .raw (.bool true)) : Rows.FnBenchSaid :=
  OpenClaim.holds_of_wide 10 Try.f10 rfl rfl rfl rfl rfl rfl rfl ⟨rfl, rfl, rfl, rfl, rfl⟩ rfl rfl rfl rfl rfl (by kernel_rfl) Try.func10 (by kernel_rfl)
    (of_decide_eq_true (by kernel_rfl)) (by unfold Func.isWrapper; first | (rw [if_pos (by decide +kernel)]; kernel_rfl) | (rw [if_neg (by decide +kernel)]; exact ⟨rfl, rfl⟩))
    (fun os started H enc _ => fnBench_lifted hac os started H enc)

end Go.Proofs.Ytmkognfiemgmgaa
