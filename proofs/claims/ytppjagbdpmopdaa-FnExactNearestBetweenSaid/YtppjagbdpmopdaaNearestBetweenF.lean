/- The frame of FnExactNearestBetween: from the contract to the statement. -/
import Derived.Test.YtppjagbdpmopdaaL
import Derived.Test.YtppjagbdpmopdaaAb19
import Derived.WalkKit
import Derived.ProofKit
import Derived.OpenShut
import Derived.ShutString
import Derived.ChangeOld
import Derived.Below
import Derived.Carry
namespace Go.Proofs.Ytppjagbdpmopdaa
set_option maxRecDepth 20000
set_option linter.unusedSimpArgs false
set_option linter.unusedVariables false
open Go Go.Ab Go.ChangeShapes Go.WideShapes Go.ChangeAt Go.RowKit

/-- what the law's arguments are -/
def SayFnExactNearestBetween : Say := fun h av => ∃ c rest, av = c :: rest ∧ SayS h [c] ∧ (fun h av => ∃ c rest, av = c :: rest ∧ SayS h [c] ∧ (fun h av => ∃ c rest, av = c :: rest ∧ SayS h [c] ∧ (fun h av => av = []) h rest) h rest) h rest
theorem ownFnExactNearestBetween : ownKnob Try.prog.godebug = none := by kernel_rfl
theorem laidOutFnExactNearestBetween : laidOutB Try.prog = true := by kernel_rfl
set_option maxRecDepth 100000 in
theorem fnExactNearestBetween_lifted (hac : ∀ h av, SayFnExactNearestBetween h av → AC Try.prog 6 av h fun r _ => r = .raw (.bool true)) (os : Os) (started : os.Started) (H : Type) (enc : TypeId × Value → H) :
    ReturnsInHanded {} Try.checked os 6 .any (Rows.fnExactNearestBetweenSpec.pre6 enc Try.prog Try.f6 Rows.fnExactNearestBetweenRow.domain false) (Rows.fnExactNearestBetweenSpec.post enc Try.prog Try.f6 false true false false) := by
  refine returnsInHanded_of_change (C := Try.checked) ownFnExactNearestBetween started (by kernel_rfl) Try.func6
    (ChangeSpec.witness6 (enc := enc) (C := Try.checked) false ⟨#[], #[.string ⟨#[]⟩, .string ⟨#[]⟩, .string ⟨#[]⟩], []⟩ 8 (by kernel_rfl) (by kernel_rfl) (by kernel_rfl) (by kernel_rfl)) ?_
  intro W base args ds gs before hval0 hW hcnd _
  have hval : ∀ (j : Nat) t v, Try.f6.params[j]? = some t → args[j]? = some v → Value.okWide Try.prog W .any base t v := hval0
  have hW' := hW
  obtain ⟨p, q, hA0, hV, rfl, hfz, hnd⟩ := hW
  have hA : DataW.TrodAll enc Try.prog W 0 (fun _ => true) true Try.f6.params.toList args.toList ds p := hA0
  rw [Try.params6] at hA hval
  obtain ⟨v0, vs0, d0, ds0, p0, q0, hargs, rfl, rfl, k0, r0⟩ := trodAll_cons hA
  obtain ⟨v1, vs1, d1, ds1, p1, q1, rfl, rfl, rfl, k1, r1⟩ := trodAll_cons r0
  obtain ⟨v2, vs2, d2, ds2, p2, q2, rfl, rfl, rfl, k2, r2⟩ := trodAll_cons r1
  obtain ⟨rfl, rfl, rfl⟩ := trodAll_nil r2
  obtain rfl : args = #[v0, v1, v2] := by cases args; simp_all
  obtain ⟨rfl, rfl⟩ := trodVars_none hV
  have lt0 : ∀ x ∈ p0, x.block < W.heap.size := by obtain ⟨m, hm⟩ := k0; exact DataW.trod_lt m _ _ _ hm
  have c0 : v0.cells.toList = [v0] := by obtain ⟨_, hc⟩ := okWide_string Try.underlying9 (hval 0 9 v0 rfl rfl); rw [hc]; rfl
  have lt1 : ∀ x ∈ p1, x.block < W.heap.size := by obtain ⟨m, hm⟩ := k1; exact DataW.trod_lt m _ _ _ hm
  have c1 : v1.cells.toList = [v1] := by obtain ⟨_, hc⟩ := okWide_string Try.underlying9 (hval 1 9 v1 rfl rfl); rw [hc]; rfl
  have lt2 : ∀ x ∈ p2, x.block < W.heap.size := by obtain ⟨m, hm⟩ := k2; exact DataW.trod_lt m _ _ _ hm
  have c2 : v2.cells.toList = [v2] := by obtain ⟨_, hc⟩ := okWide_string Try.underlying9 (hval 2 9 v2 rfl rfl); rw [hc]; rfl
  clear hA0 hval0
  refine (calls_true ok6 (OpnA.arg (enc := enc) (opens_string Try.underlying9) SayS.mono (c0) k0 (OpnA.arg (enc := enc) (opens_string Try.underlying9) SayS.mono (c1) k1 (OpnA.arg (enc := enc) (opens_string Try.underlying9) SayS.mono (c2) k2 OpnA.nil))) hac).mono fun e W' ⟨he, bel⟩ => ?_
  subst he
  exact ⟨_, rfl, _, _, _, [], _, [], hW', trodAll_mk1 (shut_bool Try.underlying4 _), (trodAll_cons_mk (Below.trod laidOutFnExactNearestBetween (by kernel_rfl) (of_decide_eq_true (by kernel_rfl)) k0 bel lt0) (trodAll_cons_mk (Below.trod laidOutFnExactNearestBetween (by kernel_rfl) (of_decide_eq_true (by kernel_rfl)) k1 bel lt1) (trodAll_cons_mk (Below.trod laidOutFnExactNearestBetween (by kernel_rfl) (of_decide_eq_true (by kernel_rfl)) k2 bel lt2) trodAll_mk0))), rfl, bel.frame _, fun h => by cases h⟩

theorem fnExactNearestBetween_said (hac : ∀ h av, SayFnExactNearestBetween h av → AC Try.prog 6 av h fun r _ => r = .raw (.bool true)) : Rows.FnExactNearestBetweenSaid :=
  OpenClaim.holds_of_wide 6 Try.f6 rfl rfl rfl rfl rfl rfl rfl ⟨rfl, rfl, rfl, rfl, rfl⟩ rfl rfl rfl rfl rfl (by kernel_rfl) Try.func6 (by kernel_rfl)
    (of_decide_eq_true (by kernel_rfl)) (by unfold Func.isWrapper; first | (rw [if_pos (by decide +kernel)]; kernel_rfl) | (rw [if_neg (by decide +kernel)]; exact ⟨rfl, rfl⟩))
    (fun os started H enc _ => fnExactNearestBetween_lifted hac os started H enc)

end Go.Proofs.Ytppjagbdpmopdaa
