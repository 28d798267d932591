/- slices.Clone of a slice of ints. -/
import Derived.Test.YtdpopimpdhgfaaaW1
import Derived.Test.YtdpopimpdhgfaaaAb24
import Derived.Shelf.SlGeneric
import Derived.Ground.SlgnProg
import Derived.Shelf.SlicesE.Clone
namespace Go.Proofs.Ytdpopimpdhgfaaa
set_option maxRecDepth 20000
set_option linter.unusedSimpArgs false
set_option linter.unusedVariables false
open Go Go.Ab Go.Shelf

def clRen : Go.Shelf.Ren := ⟨fun | 41 => 60 | n => n, fun | 22 => 22 | 23 => 3 | 4 => 4 | n => n, fun | n => n⟩
theorem clLay : Go.Proofs.SlLaysE0.n41 Try.prog clRen where
  mixed := by kernel_rfl
  f41 := ⟨Try.f60.name, by decide, Try.func60.trans (congrArg some (by kernel_rfl))⟩
  t4 := Try.underlying4
  a4 := Try.isAgg4
  z4 := Try.sizeOf4
  v4 := Try.zeroValue4
  t22 := Try.underlying22
  a22 := Try.isAgg22
  z22 := Try.sizeOf22
  v22 := Try.zeroValue22

theorem clone_ok (id n : Nat) (cells : List AV) (hn : n ≤ 1048576) (h : Heap) (hr : rd h id n = some cells) :
    AC Try.prog 60 [.own id 1 n] h fun c h' => c = .own h.length 1 n ∧ h' = h ++ [⟨.row 3 1, cells⟩] := by
  refine AC_clone (bytes := 8) (entered_of Try.func60 (by decide) (by kernel_rfl)) (by decide)
    (fun b off n c news w hl hm hb hc h1 => AnyE.slices_Clone clLay _ _ 1 8 rfl rfl rfl rfl rfl (by decide) (fun w => Try.sizeOf3 w) b off n c news w hl hm hb hc h1)
    (fun n c w => AnyE.slices_Clone_nil clLay n c w) (by rw [Nat.mul_one]; exact hr) (by omega) (by unfold maxLen; omega)
end Go.Proofs.Ytdpopimpdhgfaaa
