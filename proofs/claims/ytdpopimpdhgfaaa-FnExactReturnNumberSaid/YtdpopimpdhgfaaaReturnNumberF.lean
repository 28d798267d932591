/- The frame of FnExactReturnNumber: from the contract to the statement. -/
import Derived.Test.YtdpopimpdhgfaaaL
import Derived.Test.YtdpopimpdhgfaaaAb19
import Derived.WalkKit
import Derived.ProofKit
import Derived.OpenShut
import Derived.ShutString
import Derived.ChangeOld
import Derived.Below
import Derived.Carry
namespace Go.Proofs.Ytdpopimpdhgfaaa
set_option maxRecDepth 20000
set_option linter.unusedSimpArgs false
set_option linter.unusedVariables false
open Go Go.Ab Go.ChangeShapes Go.WideShapes Go.ChangeAt Go.RowKit

/-- what the law's arguments are -/
def SayFnExactReturnNumber : Say := fun h av => ∃ a rest, av = .agg a :: rest ∧ (SayF [(1, (SayI .i64)), (1, (SaySl 1 fun _ => (SayI .i64)))]) h a ∧ (fun h av => ∃ c rest, av = c :: rest ∧ (SayI .i64) h [c] ∧ (fun h av => av = []) h rest) h rest
theorem ownFnExactReturnNumber : ownKnob Try.prog.godebug = none := by kernel_rfl
theorem laidOutFnExactReturnNumber : laidOutB Try.prog = true := by kernel_rfl
set_option maxRecDepth 100000 in
theorem fnExactReturnNumber_lifted (hac : ∀ h av, SayFnExactReturnNumber h av → AC Try.prog 6 av h fun r _ => r = .raw (.bool true)) (os : Os) (started : os.Started) (H : Type) (enc : TypeId × Value → H) :
    ReturnsInHanded {} Try.checked os 6 .any (Rows.fnExactReturnNumberSpec.pre6 enc Try.prog Try.f6 Rows.fnExactReturnNumberRow.domain false) (Rows.fnExactReturnNumberSpec.post enc Try.prog Try.f6 false true false false) := by
  refine returnsInHanded_of_change (C := Try.checked) ownFnExactReturnNumber started (by kernel_rfl) Try.func6
    (ChangeSpec.witness6 (enc := enc) (C := Try.checked) false ⟨#[], #[.agg #[.int .i64 0, .slice none 0 0], .int .i64 0], []⟩ 8 (by kernel_rfl) (by kernel_rfl) (by kernel_rfl) (by kernel_rfl)) ?_
  intro W base args ds gs before hval0 hW hcnd _
  have hval : ∀ (j : Nat) t v, Try.f6.params[j]? = some t → args[j]? = some v → Value.okWide Try.prog W .any base t v := hval0
  have hW' := hW
  obtain ⟨p, q, hA0, hV, rfl, hfz, hnd⟩ := hW
  have hA : DataW.TrodAll enc Try.prog W 0 (fun _ => true) true Try.f6.params.toList args.toList ds p := hA0
  rw [Try.params6] at hA hval
  obtain ⟨v0, vs0, d0, ds0, p0, q0, hargs, rfl, rfl, k0, r0⟩ := trodAll_cons hA
  obtain ⟨v1, vs1, d1, ds1, p1, q1, rfl, rfl, rfl, k1, r1⟩ := trodAll_cons r0
  obtain ⟨rfl, rfl, rfl⟩ := trodAll_nil r1
  obtain rfl : args = #[v0, v1] := by cases args; simp_all
  obtain ⟨rfl, rfl⟩ := trodVars_none hV
  have lt0 : ∀ x ∈ p0, x.block < W.heap.size := by obtain ⟨m, hm⟩ := k0; exact DataW.trod_lt m _ _ _ hm
  have c0 : ∃ cs, v0 = .agg cs := by obtain ⟨cs, hcs, _⟩ := okWide_struct Try.underlying24 (hval 0 24 v0 rfl rfl); exact ⟨cs, hcs⟩
  have lt1 : ∀ x ∈ p1, x.block < W.heap.size := by obtain ⟨m, hm⟩ := k1; exact DataW.trod_lt m _ _ _ hm
  have c1 : v1.cells.toList = [v1] := by obtain ⟨_, hc⟩ := okWide_int Try.underlying3 (hval 1 3 v1 rfl rfl); rw [hc]; rfl
  clear hA0 hval0
  refine (calls_true ok6 (OpnA.argS (enc := enc) (opens_struct (rs := [(1, (SayI .i64)), (1, (SaySl 1 fun _ => (SayI .i64)))]) Try.underlying24 (by kernel_rfl) ⟨rfl, by kernel_rfl, (opens_int Try.underlying3), SayI.mono, ⟨rfl, by kernel_rfl, (opens_slice (es := 1) Try.underlying22 (by kernel_rfl) (by decide) (opens_int Try.underlying3) SayI.mono), (SaySl.mono fun _ => SayI.mono), trivial⟩⟩) (SayF.mono (fun r hr => by simp only [List.mem_cons, List.not_mem_nil, or_false] at hr; rcases hr with rfl | rfl <;> first | exact (SaySl.mono fun _ => SayI.mono) | exact SayI.mono)) (c0) k0 (OpnA.arg (enc := enc) (opens_int Try.underlying3) SayI.mono (c1) k1 OpnA.nil)) hac).mono fun e W' ⟨he, bel⟩ => ?_
  subst he
  exact ⟨_, rfl, _, _, _, [], _, [], hW', trodAll_mk1 (shut_bool Try.underlying4 _), (trodAll_cons_mk (Below.trod laidOutFnExactReturnNumber (by kernel_rfl) (of_decide_eq_true (by kernel_rfl)) k0 bel lt0) (trodAll_cons_mk (Below.trod laidOutFnExactReturnNumber (by kernel_rfl) (of_decide_eq_true (by kernel_rfl)) k1 bel lt1) trodAll_mk0)), rfl, bel.frame _, fun h => by cases h⟩

theorem fnExactReturnNumber_said (hac : ∀ h av, SayFnExactReturnNumber h av → AC Try.prog 6 av h fun r _ => r = .raw (.bool true)) : Rows.FnExactReturnNumberSaid :=
  OpenClaim.holds_of_wide 6 Try.f6 rfl rfl rfl rfl rfl rfl rfl ⟨rfl, rfl, rfl, rfl, rfl⟩ rfl rfl rfl rfl rfl (by kernel_rfl) Try.func6 (by kernel_rfl)
    (of_decide_eq_true (by kernel_rfl)) (by unfold Func.isWrapper; first | (rw [if_pos (by decide +kernel)]; kernel_rfl) | (rw [if_neg (by decide +kernel)]; exact ⟨rfl, rfl⟩))
    (fun os started H enc _ => fnExactReturnNumber_lifted hac os started H enc)

end Go.Proofs.Ytdpopimpdhgfaaa
