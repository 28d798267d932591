/- The frame of FnExactCardText: from the contract to the tied card. -/
import Derived.Test.YtbpcbemnbelajaaDoorL
import Derived.Test.YtbpcbemnbelajaaDoorAb19
import Derived.WalkKit
import Derived.ProofKit
import Derived.OpenShut
import Derived.ShutString
import Derived.ChangeOld
import Derived.Below
import Derived.Carry
import Derived.LaidMore
import Derived.SevenTiedAt
import Derived.Test.YtbpcbemnbelajaaDoorCards
import Derived.Test.YtbpcbemnbelajaaDoorTie
namespace Go.Proofs.YtbpcbemnbelajaaDoor
set_option maxRecDepth 20000
set_option linter.unusedSimpArgs false
set_option linter.unusedVariables false
open Go Go.Ab Go.ChangeShapes Go.WideShapes Go.ChangeAt Go.RowKit

/-- what the law's arguments are -/
def SayFnExactCardText : Say := fun h av => ∃ a rest, av = .agg a :: rest ∧ (SayF [(1, (SayI .i64)), (1, (SayI .i64)), (1, (SaySl 1 fun _ => SayS))]) h a ∧ (fun h av => av = []) h rest
theorem ownFnExactCardText : ownKnob Tryd.prog.godebug = none := by kernel_rfl
theorem laidOutFnExactCardText : laidOutB Tryd.prog = true := by kernel_rfl
set_option maxRecDepth 100000 in
/-- the door's own heap meets the condition -/
theorem doorFnExactCardText_met (os : Os) (args : Array Value) : laidMetH Tryd.prog Rows.fnExactCardTextRow.laid ((World.doorLaid Tryd.prog 72 os).forCall (fun _ _ => 0) ⟨#[], args, []⟩).memory :=
  laidMetH_of_parts3 (fuel := 8) (laidMet_of_run' 8 (by kernel_rfl) (by kernel_rfl)) (by kernel_rfl) (by kernel_rfl)
set_option maxRecDepth 100000 in
theorem fnExactCardText_lifted (hac : ∀ h av, SayFnExactCardText h av → AC Tryd.prog 4 av h fun r _ => r = .raw (.bool true)) (os : Os) (started : os.Started) (H : Type) (enc : TypeId × Value → H) :
    ReturnsInHanded {} Tryd.checked os 4 .any (fun w args => (Rows.fnExactCardTextSpec.pre enc Tryd.prog Tryd.f4 [] false w args ∧ laidMetH Tryd.prog Rows.fnExactCardTextRow.laid w) ∧ sizedMet enc Tryd.prog Tryd.f4 (OpenSpec.ofChange Rows.fnExactCardTextSpec) false w args) (Rows.fnExactCardTextSpec.post enc Tryd.prog Tryd.f4 false true false false) := by
  refine returnsInHanded_of_change_and (C := Tryd.checked) (X := fun w _ => laidMetH Tryd.prog Rows.fnExactCardTextRow.laid w) (fun _ _ _ hh h => h.of_heap hh) ownFnExactCardText started (by kernel_rfl) Tryd.func4
    (ChangeSpec.witness_shaped (enc := enc) (C := Tryd.checked) (os := os) (X := fun w _ => laidMetH Tryd.prog Rows.fnExactCardTextRow.laid w) false (World.doorLaid Tryd.prog 72 os) #[.agg #[.int .i64 0, .int .i64 0, .slice none 0 0]] 8 rfl (World.shaped_of_RefB (by kernel_rfl) (by kernel_rfl)) (by kernel_rfl) (by kernel_rfl) (by kernel_rfl) (doorFnExactCardText_met os _)) ?_
  intro W base args ds gs before hval0 hW _ _ hL _
  have hval : ∀ (j : Nat) t v, Tryd.f4.params[j]? = some t → args[j]? = some v → Value.okWide Tryd.prog W .any base t v := hval0
  have hW' := hW
  obtain ⟨p, q, hA0, hV, rfl, hfz, hnd⟩ := hW
  have hA : DataW.TrodAll enc Tryd.prog W 0 (fun _ => true) true Tryd.f4.params.toList args.toList ds p := hA0
  rw [Tryd.params4] at hA hval
  obtain ⟨v0, vs0, d0, ds0, p0, q0, hargs, rfl, rfl, k0, r0⟩ := trodAll_cons hA
  obtain ⟨rfl, rfl, rfl⟩ := trodAll_nil r0
  obtain rfl : args = #[v0] := by cases args; simp_all
  obtain ⟨rfl, rfl⟩ := trodVars_none hV
  have lt0 : ∀ x ∈ p0, x.block < W.heap.size := by obtain ⟨m, hm⟩ := k0; exact DataW.trod_lt m _ _ _ hm
  have c0 : ∃ cs, v0 = .agg cs := by obtain ⟨cs, hcs, _⟩ := okWide_struct Tryd.underlying26 (hval 0 26 v0 rfl rfl); exact ⟨cs, hcs⟩
  clear hA0 hval0
  refine (calls_trueG trivial ok4 (OpnA.argS (enc := enc) (opens_struct (rs := [(1, (SayI .i64)), (1, (SayI .i64)), (1, (SaySl 1 fun _ => SayS))]) Tryd.underlying26 (by kernel_rfl) ⟨rfl, by kernel_rfl, (opens_int Tryd.underlying3), SayI.mono, ⟨rfl, by kernel_rfl, (opens_int Tryd.underlying3), SayI.mono, ⟨rfl, by kernel_rfl, (opens_slice (es := 1) Tryd.underlying24 (by kernel_rfl) (by decide) (opens_string Tryd.underlying9) SayS.mono), (SaySl.mono fun _ => SayS.mono), trivial⟩⟩⟩) (SayF.mono (fun r hr => by simp only [List.mem_cons, List.not_mem_nil, or_false] at hr; rcases hr with rfl | rfl | rfl <;> first | exact (SaySl.mono fun _ => SayS.mono) | exact SayI.mono)) (c0) k0 OpnA.nil) hac).mono fun e W' ⟨he, bel⟩ => ?_
  subst he
  exact ⟨_, rfl, _, _, _, [], _, [], hW', trodAll_mk1 (shut_bool Tryd.underlying4 _), (trodAll_cons_mk (Below.trod laidOutFnExactCardText (by kernel_rfl) (of_decide_eq_true (by kernel_rfl)) k0 bel lt0) trodAll_mk0), rfl, bel.frame _, fun h => by cases h⟩

theorem fnExactCardText_said (hac : ∀ h av, SayFnExactCardText h av → AC Tryd.prog 4 av h fun r _ => r = .raw (.bool true)) : Rows.FnExactCardTextSaid :=
  OpenClaim.holds_of_wide 4 Tryd.f4 rfl rfl rfl rfl rfl rfl rfl ⟨rfl, rfl, rfl, rfl, rfl⟩ rfl rfl rfl rfl rfl (by kernel_rfl) Tryd.func4 (by kernel_rfl)
    (of_decide_eq_true (by kernel_rfl)) (by unfold Func.isWrapper; first | (rw [if_pos (by decide +kernel)]; kernel_rfl) | (rw [if_neg (by decide +kernel)]; exact ⟨rfl, rfl⟩))
    (fun os started H enc _ => fnExactCardText_lifted hac os started H enc)

theorem fnExactCardText_card (hac : ∀ h av, SayFnExactCardText h av → AC Tryd.prog 4 av h fun r _ => r = .raw (.bool true)) : Rows.FnExactCardTextCardSaid :=
  Claim7.holds_tied_plain_at .later [] [.data, .data, .data] true (true, "acfa8662e6fe1f3aa50488020a62d5cdd74cbc93c144acc5800918bc69f552b5") true
    (fnExactCardText_said hac) (fun _ h => by cases h) (by kernel_rfl) (fun _ h => by cases h) fnExactCardText_row_tie rfl ⟨rfl, rfl⟩ (by kernel_rfl) rfl
    (fun f fn hf hfn => by
      obtain rfl : f = 4 := Option.some.inj ((show Tryd.prog.funcNamed Rows.fnExactCardTextRow.func = some 4 by kernel_rfl).symm.trans hf) |>.symm
      obtain rfl : fn = Tryd.f4 := (Option.some.inj (Tryd.func4.symm.trans hfn)).symm
      exact ⟨by kernel_rfl, fun j t ht => by
        rw [Tryd.params4] at ht
        have hm : t ∈ [26] := by simpa using Array.mem_of_getElem? ht
        have hall : ([26].all fun u => !Tryd.prog.wantsStandIn u) = true := by kernel_rfl
        exact (show Tryd.prog.wantsStandIn t = false by simpa using List.all_eq_true.1 hall t hm)⟩)
    (by kernel_rfl)
end Go.Proofs.YtbpcbemnbelajaaDoor
