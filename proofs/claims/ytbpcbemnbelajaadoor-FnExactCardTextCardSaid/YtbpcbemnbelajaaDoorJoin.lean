/- strings.Join of a row of the call's own, with a blank. -/
import Derived.Test.YtbpcbemnbelajaaDoorTxtP
import Derived.Test.YtbpcbemnbelajaaDoorAb24
import Derived.Shelf.Strings.OnBuilder
namespace Go.Proofs.YtbpcbemnbelajaaDoor
set_option maxRecDepth 20000
set_option linter.unusedSimpArgs false
set_option linter.unusedVariables false
open Go Go.Ab Go.Shelf Go.RowKit

def jnRen : Go.Shelf.Ren := ⟨fun | 156 => 27 | 165 => 47 | 166 => 48 | 169 => 49 | 240 => 60 | 241 => 61 | 276 => 67 | 277 => 68 | n => n, fun | 0 => 0 | 3 => 3 | 4 => 4 | 5 => 5 | 9 => 9 | 20 => 20 | 31 => 24 | 37 => 51 | 70 => 56 | 72 => 58 | 75 => 61 | 76 => 62 | 80 => 64 | 127 => 68 | 164 => 72 | n => n, fun  | n => n⟩
theorem jn156 : Lays.n156 Tryd.prog jnRen where
  mixed := by kernel_rfl
  f156 := Tryd.func27.trans (congrArg some (by kernel_rfl))
  f165 := Tryd.func47.trans (congrArg some (by kernel_rfl))
  f166 := Tryd.func48.trans (congrArg some (by kernel_rfl))
  f169 := Tryd.func49.trans (congrArg some (by kernel_rfl))
  f240 := Tryd.func60.trans (congrArg some (by kernel_rfl))
  f241 := Tryd.func61.trans (congrArg some (by kernel_rfl))
  f276 := Tryd.func67.trans (congrArg some (by kernel_rfl))
  f277 := Tryd.func68.trans (congrArg some (by kernel_rfl))
  t0 := Tryd.underlying0
  a0 := Tryd.isAgg0
  z0 := Tryd.sizeOf0
  v0 := Tryd.zeroValue0
  t3 := Tryd.underlying3
  a3 := Tryd.isAgg3
  z3 := Tryd.sizeOf3
  v3 := Tryd.zeroValue3
  t4 := Tryd.underlying4
  a4 := Tryd.isAgg4
  z4 := Tryd.sizeOf4
  v4 := Tryd.zeroValue4
  t9 := Tryd.underlying9
  a9 := Tryd.isAgg9
  z9 := Tryd.sizeOf9
  v9 := Tryd.zeroValue9
  t20 := Tryd.underlying20
  a20 := Tryd.isAgg20
  z20 := Tryd.sizeOf20
  v20 := Tryd.zeroValue20
  t31 := Tryd.underlying24
  a31 := Tryd.isAgg24
  z31 := Tryd.sizeOf24
  v31 := Tryd.zeroValue24
  t37 := Tryd.underlying51
  a37 := Tryd.isAgg51
  z37 := Tryd.sizeOf51
  v37 := Tryd.zeroValue51
  t70 := Tryd.underlying56
  a70 := Tryd.isAgg56
  z70 := Tryd.sizeOf56
  v70 := Tryd.zeroValue56
  t72 := Tryd.underlying58
  a72 := Tryd.isAgg58
  z72 := Tryd.sizeOf58
  v72 := Tryd.zeroValue58
  t75 := Tryd.underlying61
  a75 := Tryd.isAgg61
  z75 := Tryd.sizeOf61
  v75 := Tryd.zeroValue61
  t76 := Tryd.underlying62
  a76 := Tryd.isAgg62
  z76 := Tryd.sizeOf62
  v76 := Tryd.zeroValue62
  t127 := Tryd.underlying68
  a127 := Tryd.isAgg68
  z127 := Tryd.sizeOf68
  v127 := Tryd.zeroValue68
  t164 := Tryd.underlying72
  a164 := Tryd.isAgg72
  z164 := Tryd.sizeOf72
  v164 := Tryd.zeroValue72
theorem jnX : Builder.Extra Tryd.prog jnRen where
  sizeBuilder := by kernel_rfl
  liesBuilder := by kernel_rfl
  t5 := Tryd.underlying5
  a5 := Tryd.isAgg5
  z5 := Tryd.sizeOf5
  v5 := Tryd.zeroValue5
  infoByte := by kernel_rfl
  cellsByte := by kernel_rfl
  sizeByte := by kernel_rfl
  neB5 := by decide

theorem join_ok (xs : List ByteArray) (id : Nat) (h1 : 1 ≤ xs.length) (hn : xs.length ≤ 1048576) (hz : (Lib.join (xs.map bsL) [32]).length ≤ 140737488355328) (h : Heap) (hw : wr h id xs.length = some (9, 1, rowS xs)) :
    AC Tryd.prog 27 [.own id 1 xs.length, VS ⟨#[32]⟩] h fun r h' => r = VS (joinB xs) ∧ h' = h := by
  intro w0 μ w args H hv hk
  obtain ⟨hl, hb, hsz⟩ := wr_spec hw
  obtain ⟨x, y, rfl⟩ : ∃ x y, args = #[x, y] := by
    have hl := hv.1
    simp at hl
    obtain ⟨l⟩ := args
    match l, hl with
    | [x, y], _ => exact ⟨x, y, rfl⟩
  have hx := hv.2 0 _ x rfl rfl
  have hy := raw_val (hv.2 1 _ y rfl rfl)
  subst hy
  have hxe := hx.own_get (by rw [Nat.mul_one]; exact hsz)
  obtain ⟨g, n, cap, cur, hmu, hg, hh, hnc, hcm, hcs, hcl, hcr⟩ := H.row_at hb (by rw [rowS_len]; omega)
  rw [hmu] at hxe
  subst hxe
  rw [rowS_len, Nat.mul_one] at hcl
  subst hcl
  have hgl : g < w.heap.size := by
    rcases Nat.lt_or_ge g w.heap.size with h' | h'
    · exact h'
    · rw [Array.getElem?_eq_none h'] at hh; cases hh
  unfold CallOK
  rw [entered_of Tryd.func27 (by decide) (by kernel_rfl)]
  refine ⟨rfl, (Any.strings_Join jn156 jnX g 0 cap xs ⟨#[32]⟩ w (fun j x hj => ?_) hgl (by omega) hnc hz).mono fun e w' ⟨he, hbel⟩ => ⟨_, he, μ, VS (joinB xs), h, ⟨rfl, rfl⟩, .raw _, rfl, H.world hbel, Ext.refl _ _, Heap.le_refl _⟩⟩
  have hjl := some_lt hj
  have hc1 : (rowS xs)[j]? = some (VS x) := by rw [rowS_at, hj]; rfl
  have hjc : j < cur.size := by omega
  have hc2 : (cur.toList.take (xs.length * 1))[j]? = some cur[j] := by
    rw [Nat.mul_one, List.getElem?_take_of_lt hjl, Array.getElem?_toList, Array.getElem?_eq_getElem hjc]
  have := raw_val (hcr.2 j _ _ hc1 hc2).1
  simp [World.cell?, hh, Array.getElem?_eq_getElem hjc, this]
end Go.Proofs.YtbpcbemnbelajaaDoor
