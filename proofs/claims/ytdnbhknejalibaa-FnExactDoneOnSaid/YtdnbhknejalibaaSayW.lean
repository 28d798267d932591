/- A law's argument that is a list of wishes. -/
import Derived.Test.YtdnbhknejalibaaWish
import Derived.Test.YtdnbhknejalibaaAb25
namespace Go.Proofs.Ytdnbhknejalibaa
set_option linter.unusedSimpArgs false
set_option linter.unusedVariables false
open Go Go.Ab

theorem say_wishes {h : Heap} {c : AV} (hs : (SaySl 3 fun _ => SayF [(1, SayI .i64), (1, SayI .i64), (1, SayI .i64)]) h [c]) :
    ∃ (ws : List W3) (id : Nat), c = .sub id (ws.length * 3) 3 0 ws.length ∧ ws.length ≤ maxLen ∧ rd h id (ws.length * 3) = some (rowOf fW ws) := by
  obtain ⟨ws, id, h1, h2, h3⟩ := say_rows (f := fW) (by decide) fW_len (fun cs hc => by
    obtain ⟨_, _, rfl, l1, ⟨a, rfl, _⟩, _, _, rfl, l2, ⟨b, rfl, _⟩, _, _, rfl, l3, ⟨c, rfl, _⟩, rfl⟩ := hc
    exact ⟨(a, b, c), rfl⟩) hs
  exact ⟨ws, id, List.head_eq_of_cons_eq h1, h2, h3⟩
end Go.Proofs.Ytdnbhknejalibaa
