/- The frame of FnExactSoldParts: from the contract to the statement. -/
import Derived.Test.YtdpopimpdhgfaaaL
import Derived.Test.YtdpopimpdhgfaaaAb19
import Derived.WalkKit
import Derived.ProofKit
import Derived.OpenShut
import Derived.ShutString
import Derived.ChangeOld
import Derived.Below
import Derived.Carry
namespace Go.Proofs.Ytdpopimpdhgfaaa
set_option maxRecDepth 20000
set_option linter.unusedSimpArgs false
set_option linter.unusedVariables false
open Go Go.Ab Go.ChangeShapes Go.WideShapes Go.ChangeAt Go.RowKit

/-- what the law's arguments are -/
def SayFnExactSoldParts : Say := fun h av => ∃ a rest, av = .agg a :: rest ∧ (SayF [(1, (SayI .i64)), (1, (SaySl 1 fun _ => (SayI .i64)))]) h a ∧ (fun h av => av = []) h rest
theorem ownFnExactSoldParts : ownKnob Try.prog.godebug = none := by kernel_rfl
theorem laidOutFnExactSoldParts : laidOutB Try.prog = true := by kernel_rfl
set_option maxRecDepth 100000 in
theorem fnExactSoldParts_lifted (hac : ∀ h av, SayFnExactSoldParts h av → AC Try.prog 8 av h fun r _ => r = .raw (.bool true)) (os : Os) (started : os.Started) (H : Type) (enc : TypeId × Value → H) :
    ReturnsInHanded {} Try.checked os 8 .any (Rows.fnExactSoldPartsSpec.pre6 enc Try.prog Try.f8 Rows.fnExactSoldPartsRow.domain false) (Rows.fnExactSoldPartsSpec.post enc Try.prog Try.f8 false true false false) := by
  refine returnsInHanded_of_change (C := Try.checked) ownFnExactSoldParts started (by kernel_rfl) Try.func8
    (ChangeSpec.witness6 (enc := enc) (C := Try.checked) false ⟨#[], #[.agg #[.int .i64 0, .slice none 0 0]], []⟩ 8 (by kernel_rfl) (by kernel_rfl) (by kernel_rfl) (by kernel_rfl)) ?_
  intro W base args ds gs before hval0 hW hcnd _
  have hval : ∀ (j : Nat) t v, Try.f8.params[j]? = some t → args[j]? = some v → Value.okWide Try.prog W .any base t v := hval0
  have hW' := hW
  obtain ⟨p, q, hA0, hV, rfl, hfz, hnd⟩ := hW
  have hA : DataW.TrodAll enc Try.prog W 0 (fun _ => true) true Try.f8.params.toList args.toList ds p := hA0
  rw [Try.params8] at hA hval
  obtain ⟨v0, vs0, d0, ds0, p0, q0, hargs, rfl, rfl, k0, r0⟩ := trodAll_cons hA
  obtain ⟨rfl, rfl, rfl⟩ := trodAll_nil r0
  obtain rfl : args = #[v0] := by cases args; simp_all
  obtain ⟨rfl, rfl⟩ := trodVars_none hV
  have lt0 : ∀ x ∈ p0, x.block < W.heap.size := by obtain ⟨m, hm⟩ := k0; exact DataW.trod_lt m _ _ _ hm
  have c0 : ∃ cs, v0 = .agg cs := by obtain ⟨cs, hcs, _⟩ := okWide_struct Try.underlying24 (hval 0 24 v0 rfl rfl); exact ⟨cs, hcs⟩
  clear hA0 hval0
  refine (calls_true ok8 (OpnA.argS (enc := enc) (opens_struct (rs := [(1, (SayI .i64)), (1, (SaySl 1 fun _ => (SayI .i64)))]) Try.underlying24 (by kernel_rfl) ⟨rfl, by kernel_rfl, (opens_int Try.underlying3), SayI.mono, ⟨rfl, by kernel_rfl, (opens_slice (es := 1) Try.underlying22 (by kernel_rfl) (by decide) (opens_int Try.underlying3) SayI.mono), (SaySl.mono fun _ => SayI.mono), trivial⟩⟩) (SayF.mono (fun r hr => by simp only [List.mem_cons, List.not_mem_nil, or_false] at hr; rcases hr with rfl | rfl <;> first | exact (SaySl.mono fun _ => SayI.mono) | exact SayI.mono)) (c0) k0 OpnA.nil) hac).mono fun e W' ⟨he, bel⟩ => ?_
  subst he
  exact ⟨_, rfl, _, _, _, [], _, [], hW', trodAll_mk1 (shut_bool Try.underlying4 _), (trodAll_cons_mk (Below.trod laidOutFnExactSoldParts (by kernel_rfl) (of_decide_eq_true (by kernel_rfl)) k0 bel lt0) trodAll_mk0), rfl, bel.frame _, fun h => by cases h⟩

theorem fnExactSoldParts_said (hac : ∀ h av, SayFnExactSoldParts h av → AC Try.prog 8 av h fun r _ => r = .raw (.bool true)) : Rows.FnExactSoldPartsSaid :=
  OpenClaim.holds_of_wide 8 Try.f8 rfl rfl rfl rfl rfl rfl rfl ⟨rfl, rfl, rfl, rfl, rfl⟩ rfl rfl rfl rfl rfl (by kernel_rfl) Try.func8 (by kernel_rfl)
    (of_decide_eq_true (by kernel_rfl)) (by unfold Func.isWrapper; first | (rw [if_pos (by decide +kernel)]; kernel_rfl) | (rw [if_neg (by decide +kernel)]; exact ⟨rfl, rfl⟩))
    (fun os started H enc _ => fnExactSoldParts_lifted hac os started H enc)

end Go.Proofs.Ytdpopimpdhgfaaa
