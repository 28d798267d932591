/- One cell of one element set anew; counting lists. Plain library text, no statement. -/
import Derived.Test.YtbpcbemnbelajaaDoorAb26
namespace Go.Ab
open Go Go.RowKit

theorem rowOf_cell {α : Type} {f : α → List AV} {es : Nat} (hf : ∀ a, (f a).length = es) {xs : List α} {j i : Nat} {a b : α} {c : AV} (ha : xs[j]? = some a) (hi : i < es) (hb : f b = (f a).set i c) :
    (rowOf f xs).take (j * es + i) ++ [c] ++ (rowOf f xs).drop (j * es + i + 1) = rowOf f (xs.set j b) := by
  have hj := some_lt ha
  have hae : xs[j] = a := by rw [List.getElem?_eq_getElem hj] at ha; injection ha
  have hl := rowOf_len hf xs
  have h1 : (j + 1) * es ≤ xs.length * es := Nat.mul_le_mul_right _ hj
  rw [Nat.add_mul, Nat.one_mul] at h1
  rw [set_splice _ _ _ (by omega), ← rowOf_set hf hj b, hb]
  have hself : rowOf f xs = (rowOf f xs).take (j * es) ++ f a ++ (rowOf f xs).drop (j * es + es) := by
    rw [rowOf_set hf hj a, ← hae, List.set_getElem_self]
  have hr : ((rowOf f xs).take (j * es)).length = j * es := by simp; omega
  conv => lhs; rw [hself]
  rw [List.append_assoc, List.set_append_right _ _ (by rw [hr]; omega), hr, Nat.add_sub_cancel_left, List.set_append_left _ _ (by rw [hf]; exact hi), List.append_assoc]

theorem rowI_put (xs : List Int) (k : Nat) (v : Int) (hk : k < xs.length) : List.take k (rowI xs) ++ [VI v] ++ List.drop (k + 1) (rowI xs) = rowI (xs.set k v) := rowI_set xs k v hk
theorem rowB_put (xs : List Bool) (k : Nat) (v : Bool) (hk : k < xs.length) : List.take k (rowB xs) ++ [VB v] ++ List.drop (k + 1) (rowB xs) = rowB (xs.set k v) := rowB_set xs k v hk

/-- k, k + 1, .. -/
def iotaI (k : Int) (n : Nat) : List Int := (List.range n).map fun j : Nat => k + j
theorem iotaI_len (k : Int) (n : Nat) : (iotaI k n).length = n := by simp [iotaI]
theorem iotaI_at {k : Int} {n j : Nat} (h : j < n) : (iotaI k n)[j]? = some (k + j) := by simp [iotaI, h]
theorem iotaI_take {k : Int} {n j : Nat} (h : j ≤ n) : (iotaI k n).take j = iotaI k j := by
  apply List.ext_getElem?
  intro i
  rw [List.getElem?_take]
  split
  · rename_i hi; rw [iotaI_at (by omega), iotaI_at hi]
  · rename_i hi; rw [List.getElem?_eq_none (by rw [iotaI_len]; omega)]
theorem iotaI_succ {k : Int} {n : Nat} : iotaI k (n + 1) = iotaI k n ++ [k + n] := by simp [iotaI, List.range_succ]
/-- the first j are k, k + 1, ..; the others as they were -/
theorem iota_step {k : Int} {xs : List Int} {j : Nat} (h : j < xs.length) : (iotaI k j ++ xs.drop j).set j (k + j) = iotaI k (j + 1) ++ xs.drop (j + 1) := by
  rw [List.set_append_right _ _ (by rw [iotaI_len]; omega), iotaI_len, Nat.sub_self, List.drop_eq_getElem_cons h, List.set_cons_zero, iotaI_succ]
  simp
end Go.Ab
