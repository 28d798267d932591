/- slices.Sort of a slice of ints, from the guide's contract. -/
import Derived.Test.YtdpopimpdhgfaaaPartP
import Derived.Test.YtdpopimpdhgfaaaAb33
import Derived.Shelf.Sort.Plain
import Derived.Shelf.Slices.In.SortNone
namespace Go.Proofs.Ytdpopimpdhgfaaa
set_option maxRecDepth 20000
set_option linter.unusedSimpArgs false
set_option linter.unusedVariables false
open Go Go.Ab Go.Shelf Go.Sort Go.RowKit

def soRen : Go.Shelf.Ren := ⟨fun | 125 => 74 | 128 => 88 | 129 => 89 | 189 => 65 | 215 => 99 | 216 => 85 | 257 => 73 | 294 => 79 | 295 => 80 | 296 => 81 | 297 => 82 | 298 => 83 | 299 => 84 | 300 => 86 | 301 => 87 | 328 => 94 | 329 => 95 | 330 => 96 | 331 => 97 | 332 => 98 | 343 => 101 | n => n, fun | 0 => 0 | 3 => 3 | 4 => 4 | 5 => 5 | 9 => 9 | 28 => 22 | 46 => 78 | 51 => 95 | 53 => 97 | 131 => 83 | 182 => 87 | 183 => 88 | 218 => 101 | 222 => 105 | 228 => 107 | 229 => 108 | n => n, fun  | n => n⟩
theorem soLay : Lays.n189 Try.prog soRen where
  mixed := by kernel_rfl
  f125 := Try.func74.trans (congrArg some (by kernel_rfl))
  f128 := Try.func88.trans (congrArg some (by kernel_rfl))
  f129 := Try.func89.trans (congrArg some (by kernel_rfl))
  f189 := Try.func65.trans (congrArg some (by kernel_rfl))
  f215 := Try.func99.trans (congrArg some (by kernel_rfl))
  f216 := Try.func85.trans (congrArg some (by kernel_rfl))
  f257 := Try.func73.trans (congrArg some (by kernel_rfl))
  f294 := Try.func79.trans (congrArg some (by kernel_rfl))
  f295 := Try.func80.trans (congrArg some (by kernel_rfl))
  f296 := Try.func81.trans (congrArg some (by kernel_rfl))
  f297 := Try.func82.trans (congrArg some (by kernel_rfl))
  f298 := Try.func83.trans (congrArg some (by kernel_rfl))
  f299 := Try.func84.trans (congrArg some (by kernel_rfl))
  f300 := Try.func86.trans (congrArg some (by kernel_rfl))
  f301 := Try.func87.trans (congrArg some (by kernel_rfl))
  f328 := Try.func94.trans (congrArg some (by kernel_rfl))
  f329 := Try.func95.trans (congrArg some (by kernel_rfl))
  f330 := Try.func96.trans (congrArg some (by kernel_rfl))
  f331 := Try.func97.trans (congrArg some (by kernel_rfl))
  f332 := Try.func98.trans (congrArg some (by kernel_rfl))
  f343 := Try.func101.trans (congrArg some (by kernel_rfl))
  t0 := Try.underlying0
  a0 := Try.isAgg0
  z0 := Try.sizeOf0
  v0 := Try.zeroValue0
  t3 := Try.underlying3
  a3 := Try.isAgg3
  z3 := Try.sizeOf3
  v3 := Try.zeroValue3
  t4 := Try.underlying4
  a4 := Try.isAgg4
  z4 := Try.sizeOf4
  v4 := Try.zeroValue4
  t5 := Try.underlying5
  a5 := Try.isAgg5
  z5 := Try.sizeOf5
  v5 := Try.zeroValue5
  t9 := Try.underlying9
  a9 := Try.isAgg9
  z9 := Try.sizeOf9
  v9 := Try.zeroValue9
  t28 := Try.underlying22
  a28 := Try.isAgg22
  z28 := Try.sizeOf22
  v28 := Try.zeroValue22
  t46 := Try.underlying78
  a46 := Try.isAgg78
  z46 := Try.sizeOf78
  v46 := Try.zeroValue78
  t51 := Try.underlying95
  a51 := Try.isAgg95
  z51 := Try.sizeOf95
  v51 := Try.zeroValue95
  t53 := Try.underlying97
  a53 := Try.isAgg97
  z53 := Try.sizeOf97
  v53 := Try.zeroValue97
  t131 := Try.underlying83
  a131 := Try.isAgg83
  z131 := Try.sizeOf83
  v131 := Try.zeroValue83
  t182 := Try.underlying87
  a182 := Try.isAgg87
  z182 := Try.sizeOf87
  v182 := Try.zeroValue87
  t183 := Try.underlying88
  a183 := Try.isAgg88
  z183 := Try.sizeOf88
  v183 := Try.zeroValue88
  t218 := Try.underlying101
  a218 := Try.isAgg101
  z218 := Try.sizeOf101
  v218 := Try.zeroValue101
  t222 := Try.underlying105
  a222 := Try.isAgg105
  z222 := Try.sizeOf105
  v222 := Try.zeroValue105
  t228 := Try.underlying107
  a228 := Try.isAgg107
  z228 := Try.sizeOf107
  v228 := Try.zeroValue107
  t229 := Try.underlying108
  a229 := Try.isAgg108
  z229 := Try.sizeOf108
  v229 := Try.zeroValue108

theorem sort_ok (xs : List Int) (id : Nat) (hn : xs.length ≤ 1048576) (h : Heap) (hb : h[id]? = some (rowW xs)) :
    AC Try.prog 65 [.own id 1 xs.length] h fun c h' => c = .tup [] ∧ h' = List.set h id (rowW (sortI xs)) := by
  intro w0 μ w vs H hv hk'
  obtain ⟨x, rfl⟩ : ∃ x, vs = #[x] := by
    have hl := hv.1
    simp at hl
    obtain ⟨l⟩ := vs
    match l, hl with
    | [x], _ => exact ⟨x, rfl⟩
  have hx := hv.2 0 _ x rfl rfl
  have hsz : sz h id = some (xs.length * 1) := by rw [sz_row hb, rowI_len, Nat.mul_one]
  have hxe := hx.own_get hsz
  have hid := lt_len hb
  unfold CallOK
  rw [entered_of Try.func65 (by decide) (by kernel_rfl)]
  refine ⟨rfl, ?_⟩
  have hvr : ∀ (μ : Mu) (h : Heap), VR μ h (.tup []) (.tuple #[]) := fun μ h => .tup rfl fun i c x hi _ => by simp at hi
  have hsl := sortI_len xs
  have hLe : h.le (List.set h id (rowW (sortI xs))) := Heap.le_set hb (by simp [rowI]; omega)
  have hE : Ext μ h μ (List.set h id (rowW (sortI xs))) := Ext.set hb (by simp [rowI]; omega)
  rcases Nat.eq_zero_or_pos xs.length with h0 | hpos
  · have hnil : xs = [] := List.length_eq_zero_iff.1 h0
    subst hnil
    rw [hxe]
    refine (Go.Proofs.Any.slices_Sort_int_none soLay _ _ w).mono fun e w' ⟨he, hw⟩ => ?_
    subst hw
    have hself : List.set h id (rowW (sortI [])) = h := by
      rw [show sortI [] = [] by simp [sortI]]
      apply List.ext_getElem?
      intro m
      by_cases hm : id = m
      · subst hm; rw [List.getElem?_set_self hid, hb]
      · rw [List.getElem?_set_ne hm]
    rw [hself]
    exact ⟨_, he, μ, _, _, ⟨rfl, rfl⟩, hvr _ _, rfl, H, Ext.refl _ _, Heap.le_refl _⟩
  · obtain ⟨g, cap, hmu, hH, hg, hc1, hc2, hset⟩ := H.ints hb hpos
    rw [hmu] at hxe
    have hxe : x = .slice (some ⟨g, 0, none⟩) xs.length cap := by simpa [Loc.at] using hxe
    subst hxe
    refine (Go.Proofs.Any.slices_Sort_int soLay g 0 cap xs w hH hg (by omega)).mono fun e w' ⟨he, q, os, hw⟩ => ?_
    have H' := hset (sortI xs) q os hsl
    rw [show w' = _ from hw]
    exact ⟨_, he, μ, _, _, ⟨rfl, rfl⟩, hvr _ _, rfl, H', hE, hLe⟩
end Go.Proofs.Ytdpopimpdhgfaaa
