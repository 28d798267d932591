/- slices.Delete of one element of a slice of ints, from the guide's contract. -/
import Derived.Test.YtdpopimpdhgfaaaSell
import Derived.Test.YtdpopimpdhgfaaaAb33
import Derived.Shelf.SlicesE.Delete
namespace Go.Proofs.Ytdpopimpdhgfaaa
set_option maxRecDepth 20000
set_option linter.unusedSimpArgs false
set_option linter.unusedVariables false
open Go Go.Ab Go.Shelf Go.Sort Go.RowKit

def dlRen : Go.Shelf.Ren := ⟨fun | 45 => 64 | n => n, fun | 0 => 0 | 3 => 3 | 22 => 22 | 23 => 3 | 4 => 4 | n => n, fun | n => n⟩
theorem dlLay : Go.Proofs.SlLaysE.n45 Try.prog dlRen where
  mixed := by kernel_rfl
  f45 := ⟨Try.f64.name, by decide, Try.func64.trans (congrArg some (by kernel_rfl))⟩
  t0 := Try.underlying0
  a0 := Try.isAgg0
  z0 := Try.sizeOf0
  v0 := Try.zeroValue0
  t3 := Try.underlying3
  a3 := Try.isAgg3
  z3 := Try.sizeOf3
  v3 := Try.zeroValue3
  t4 := Try.underlying4
  a4 := Try.isAgg4
  z4 := Try.sizeOf4
  v4 := Try.zeroValue4
  t22 := Try.underlying22
  a22 := Try.isAgg22
  z22 := Try.sizeOf22
  v22 := Try.zeroValue22
  a23 := Try.isAgg3
  z23 := Try.sizeOf3

theorem delete_ok (xs : List Int) (k id : Nat) (hk : k < xs.length) (h : Heap) (hb : h[id]? = some (rowW xs)) :
    AC Try.prog 64 [.own id 1 xs.length, VI (k : Int), VI ((k : Int) + 1)] h fun c h' => c = .own h.length 1 (xs.length - 1) ∧ h' = List.set h id ⟨.gone, rowI (xs.take k ++ xs.drop (k + 1) ++ [0])⟩ ++ [rowW (xs.take k ++ xs.drop (k + 1))] := by
  intro w0 μ w vs H hv hk'
  obtain ⟨x, y, z, rfl⟩ : ∃ x y z, vs = #[x, y, z] := by
    have hl := hv.1
    simp at hl
    obtain ⟨l⟩ := vs
    match l, hl with
    | [x, y, z], _ => exact ⟨x, y, z, rfl⟩
  have hx := hv.2 0 _ x rfl rfl
  have hy := raw_val (hv.2 1 _ y rfl rfl)
  have hz := raw_val (hv.2 2 _ z rfl rfl)
  subst hy; subst hz
  obtain ⟨g, cap, hmu, hH, hg, hc1, hc2, hset⟩ := H.ints hb (by omega)
  have hsz : sz h id = some (xs.length * 1) := by rw [sz_row hb, rowI_len, Nat.mul_one]
  have hxe := hx.own_get hsz
  rw [hmu] at hxe
  have hxe : x = .slice (some ⟨g, 0, none⟩) xs.length cap := by simpa [Loc.at] using hxe
  subst hxe
  unfold CallOK
  rw [entered_of Try.func64 (by decide) (by kernel_rfl)]
  refine ⟨rfl, ?_⟩
  have hd := AnyE.slices_Delete dlLay (Value.int .i64) (fun _ => rfl) (0 : Int) (fun w => Try.zeroValue3 w) _ rfl rfl g 0 cap k (k + 1) xs.toArray w hH (by simpa using hc1) (by unfold maxLen at hc2; omega) (by omega) (by simp; omega)
  simp only [List.size_toArray, Int.natCast_add, Int.cast_ofNat_Int, Nat.add_sub_cancel_left] at hd
  refine hd.mono fun e w' ⟨he, q, hw⟩ => ?_
  have hl : (xs.take k ++ xs.drop (k + 1) ++ [0]).length = xs.length := by simp; omega
  have H' := hset (xs.take k ++ xs.drop (k + 1) ++ [0]) q #[] hl
  have hw' : w' = putRow (Value.int .i64) (Sort.ahead w q) g 0 (xs.take k ++ xs.drop (k + 1) ++ [0]).toArray := by simpa using hw
  rw [grow_empty, ← hw'] at H'
  have hid := lt_len hb
  have hLe : h.le (List.set h id ⟨.row 3 1, rowI (xs.take k ++ xs.drop (k + 1) ++ [0])⟩) := Heap.le_set hb (by simp [rowI]; omega)
  have hE : Ext μ h μ (List.set h id ⟨.row 3 1, rowI (xs.take k ++ xs.drop (k + 1) ++ [0])⟩) := Ext.set hb (by simp [rowI]; omega)
  obtain ⟨μ', H2, E2, L2, V2⟩ := H'.cut (List.getElem?_set_self hid) (by decide) (m := xs.length - 1) (by simp [rowI]; omega)
  have ht : (rowI (xs.take k ++ xs.drop (k + 1) ++ [0])).take ((xs.length - 1) * 1) = rowI (xs.take k ++ xs.drop (k + 1)) := by
    rw [rowI, ← List.map_take, Nat.mul_one, List.take_left' (by simp; omega)]; rfl
  rw [ht, List.set_set] at H2 E2 L2 V2
  rw [List.length_set, hmu] at V2
  exact ⟨_, he, μ', _, _, ⟨rfl, rfl⟩, by simpa [Loc.at] using V2, by simp [AV.ok, refOk, csz, rowI]; omega, H2, hE.trans hLe E2, Heap.le_trans hLe L2⟩
end Go.Proofs.Ytdpopimpdhgfaaa
