/- Reading rows by place; lists looked at from the left. Plain library text, no statement. -/
import Derived.Test.YtbpcbemnbelajaaGreatDoorAb22
namespace Go.Ab
open Go Go.RowKit

theorem rowI_at {xs : List Int} {k : Nat} : (rowI xs)[k]? = xs[k]?.map fun n => .raw (.int .i64 n) := by simp [rowI]
theorem rowB_at {xs : List Bool} {k : Nat} : (rowB xs)[k]? = xs[k]?.map fun n => .raw (.bool n) := by simp [rowB]
theorem rowS_at {xs : List ByteArray} {k : Nat} : (rowS xs)[k]? = xs[k]?.map fun n => .raw (.string n) := by simp [rowS]
theorem rowU_at {xs : List UInt8} {k : Nat} : (rowU xs)[k]? = xs[k]?.map fun n => .raw (.int .u8 n.toNat) := by simp [rowU]

section
variable {α : Type} {f : α → List AV} {es : Nat}
theorem rowOf_seg2 (hf : ∀ a, (f a).length = es) {xs : List α} {k : Nat} : ((rowOf f xs).drop (k * es)).take es = (xs[k]?.map f).getD [] := by
  rcases Nat.lt_or_ge k xs.length with hk | hk
  · rw [rowOf_seg hf hk, List.getElem?_eq_getElem hk]; rfl
  · rw [List.getElem?_eq_none hk, rowOf_drop hf, List.drop_of_length_le hk]; simp [rowOf]
theorem rowOf_at (hf : ∀ a, (f a).length = es) {xs : List α} {k j : Nat} (hj : j < es) : (rowOf f xs)[k * es + j]? = xs[k]?.bind fun a => (f a)[j]? := by
  rcases Nat.lt_or_ge k xs.length with hk | hk
  · rw [rowOf_get hf hk hj, List.getElem?_eq_getElem hk]; rfl
  · rw [List.getElem?_eq_none hk, List.getElem?_eq_none]
    · rfl
    · rw [rowOf_len hf]
      have := Nat.mul_le_mul_right es hk
      omega
theorem rowOf_at0 (hf : ∀ a, (f a).length = es) (hp : 0 < es) {xs : List α} {k : Nat} : (rowOf f xs)[k * es]? = xs[k]?.bind fun a => (f a)[0]? := rowOf_at hf (j := 0) hp
end

theorem some_at {α : Type} {l : List α} {k : Nat} (h : k < l.length) : ∃ a, l[k]? = some a := ⟨_, List.getElem?_eq_getElem h⟩
theorem some_lt {α : Type} {l : List α} {k : Nat} {a : α} (h : l[k]? = some a) : k < l.length := lt_len h
theorem take_snoc {α : Type} {l : List α} {k : Nat} {a : α} (h : l[k]? = some a) : l.take (k + 1) = l.take k ++ [a] := by
  rw [List.take_add_one, h]; rfl
theorem take_all {α : Type} {l : List α} {k : Nat} (h : l.length ≤ k) : l.take k = l := List.take_of_length_le h
theorem drop_at {α : Type} {l : List α} {k : Nat} {a : α} (h : l[k]? = some a) : l.drop k = a :: l.drop (k + 1) := by
  have hk := some_lt h
  rw [List.drop_eq_getElem_cons hk]
  rw [List.getElem?_eq_getElem hk] at h
  injection h with h; rw [h]
theorem all_bad {α : Type} {p : α → Bool} {l : List α} {k : Nat} {a : α} (h : l[k]? = some a) (hb : p a = false) : l.all p = false := by
  rw [Bool.eq_false_iff]; intro ha
  rw [List.all_eq_true] at ha
  rw [ha a (List.mem_of_getElem? h)] at hb; cases hb
theorem all_more {α : Type} {p : α → Bool} {l : List α} {k : Nat} {a : α} (h : l[k]? = some a) (ht : (l.take k).all p = true) (hb : p a = true) : (l.take (k + 1)).all p = true := by
  rw [take_snoc h, List.all_append, ht]; simp [hb]
theorem all_end {α : Type} {p : α → Bool} {l : List α} {k : Nat} (h : l.length ≤ k) (ht : (l.take k).all p = true) : l.all p = true := by
  rwa [take_all h] at ht
theorem set_snoc {α : Type} {l : List α} {k : Nat} {a : α} (h : k < l.length) : (l.set k a).take (k + 1) = l.take k ++ [a] := by
  rw [List.take_add_one, List.take_set_of_le (Nat.le_refl _), List.getElem?_set_self h]; rfl
theorem eq_of_len_take {α : Type} {xs ys : List α} {k : Nat} (h1 : xs.length ≤ k) (h2 : ys.length ≤ k) (h : xs.take k = ys.take k) : xs = ys := by
  rwa [take_all h1, take_all h2] at h
theorem differ_at {α : Type} {xs ys : List α} {k : Nat} {a b : α} (h1 : xs[k]? = some a) (h2 : ys[k]? = some b) (h : a ≠ b) : xs ≠ ys := by
  intro e; subst e; rw [h1] at h2; injection h2 with h2; exact h h2
theorem take_more {α : Type} {xs ys : List α} {k : Nat} {a b : α} (h1 : xs[k]? = some a) (h2 : ys[k]? = some b) (ht : xs.take k = ys.take k) (h : a = b) : xs.take (k + 1) = ys.take (k + 1) := by
  rw [take_snoc h1, take_snoc h2, ht, h]

end Go.Ab
