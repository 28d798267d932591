/- A law's argument that is a list of jobs. -/
import Derived.Test.YtmkognfiemgmgaaJobs
import Derived.Test.YtmkognfiemgmgaaAb25
namespace Go.Proofs.Ytmkognfiemgmgaa
set_option linter.unusedSimpArgs false
set_option linter.unusedVariables false
open Go Go.Ab

theorem say_jobs {h : Heap} {c : AV} (hs : (SaySl 2 fun _ => SayF [(1, SayI .i64), (1, SaySl 1 fun _ => SayI .i64)]) h [c]) :
    ∃ (js : List Jb) (id : Nat), c = .sub id (js.length * 2) 2 0 js.length ∧ js.length ≤ maxLen ∧ NSub gJ inJ 2 h id js := by
  obtain ⟨js, id, h1, h2, h3⟩ := say_nest (g := gJ) (inn := inJ) (by decide) gJ_len (fun cs hcs => by
    obtain ⟨_, _, rfl, l1, ⟨p, rfl, hp⟩, _, _, rfl, l2, h2, rfl⟩ := hcs
    rename_i c
    obtain ⟨d, rfl⟩ : ∃ d, c = [d] := by
      match c, l2 with
      | [d], _ => exact ⟨d, rfl⟩
    obtain ⟨xs, id, rfl, hl, hr, hx⟩ := say_ints h2
    exact ⟨(p, xs), id, rfl, by rw [rowI_len]; exact hr, by rw [rowI_len]; exact hl⟩) hs
  exact ⟨js, id, List.head_eq_of_cons_eq h1, h2, h3⟩
end Go.Proofs.Ytmkognfiemgmgaa
