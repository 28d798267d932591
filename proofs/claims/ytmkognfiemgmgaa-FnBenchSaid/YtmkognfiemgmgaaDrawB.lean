/- Drawing: the cursor's row while other rows come. -/
import Derived.Test.YtmkognfiemgmgaaDraw
import Derived.Test.YtmkognfiemgmgaaAb31
namespace Go.Proofs.Ytmkognfiemgmgaa
set_option maxRecDepth 20000
set_option linter.unusedSimpArgs false
set_option linter.unusedVariables false
open Go Go.Ab

/-- the cursor stands behind g, other rows behind it -/
theorem below_at {bs : List UInt8} {ci : Nat} {c : List AV} (k : Int) (hn : bs.length ≤ 1048576) (hk : k ≤ 1000000000000) (hc0 : CurC ci bs.length c) (g l : Heap) (hr : rd g ci bs.length = some (rowU bs)) :
    AC Try.prog 47 [.ptr g.length 3 0, VI k] (g ++ (curB c :: l)) fun r h' => ∃ (x : Int) (c' : List AV), 0 ≤ x ∧ (0 < k → x < k) ∧ CurC ci bs.length c' ∧ r = VI x ∧ h' = g ++ (curB c' :: l) :=
  (l01Below_ok bs ci g.length c k (by omega) hk hc0 _ (rd_old hr _) (by rw [wr_new0, wr_row, if_pos hc0.len])).mono fun r h' ⟨x, c', h1, h2, h3, h4, h5⟩ =>
    ⟨x, c', h1, h2, h3, h4, by rw [h5, set_new0, set_cons_zero]⟩
theorem keepL_cur {g l : Heap} {c c' : List AV} {s : S} {F : List Operand} (ha : ApartL g.length (F.map (ev s))) : KeepL s F (g ++ (curB c :: l)) (g ++ (curB c' :: l)) := by
  have := keepL_set (h := g ++ (curB c :: l)) (b := curB c') ha
  rwa [set_new0, set_cons_zero] at this

/-- a new cursor -/
theorem new_at {bs : List UInt8} {ci : Nat} (hn : bs.length ≤ 1048576) (h : Heap) (hr : rd h ci bs.length = some (rowU bs)) :
    AC Try.prog 44 [.sub ci bs.length 1 0 bs.length] h fun r h' => ∃ c, CurC ci bs.length c ∧ r = .ptr h.length 3 0 ∧ h' = h ++ [curB c] :=
  l01New_ok bs ci (by omega) h hr
end Go.Proofs.Ytmkognfiemgmgaa
