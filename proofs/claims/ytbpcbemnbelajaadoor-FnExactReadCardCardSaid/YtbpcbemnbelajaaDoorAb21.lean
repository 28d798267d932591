/- Rows of elements of several cells. Plain library text, no statement. -/
import Derived.Test.YtbpcbemnbelajaaDoorAb20
namespace Go.Ab
open Go Go.RowKit

/-- the cells of a list of elements -/
def rowOf {α : Type} (f : α → List AV) (xs : List α) : List AV := xs.flatMap f

section
variable {α : Type} {f : α → List AV} {es : Nat}

theorem rowOf_len (hf : ∀ a, (f a).length = es) (xs : List α) : (rowOf f xs).length = xs.length * es := by
  induction xs with
  | nil => simp [rowOf]
  | cons a xs ih => simp only [rowOf, List.flatMap_cons, List.length_append, List.length_cons] at *; rw [ih, hf, Nat.add_mul]; omega
theorem rowOf_nil : rowOf f [] = [] := rfl
theorem rowOf_cons {a : α} {xs : List α} : rowOf f (a :: xs) = f a ++ rowOf f xs := rfl
theorem rowOf_append {xs ys : List α} : rowOf f (xs ++ ys) = rowOf f xs ++ rowOf f ys := by simp [rowOf]
theorem rowOf_snoc {xs : List α} {a : α} : rowOf f xs ++ f a = rowOf f (xs ++ [a]) := by simp [rowOf]
theorem rowOf_drop (hf : ∀ a, (f a).length = es) : ∀ (xs : List α) (k : Nat), (rowOf f xs).drop (k * es) = rowOf f (xs.drop k)
  | xs, 0 => by simp
  | [], k + 1 => by simp [rowOf]
  | a :: xs, k + 1 => by
    rw [rowOf_cons, List.drop_succ_cons, ← rowOf_drop hf xs k, Nat.add_mul, Nat.one_mul, Nat.add_comm, ← List.drop_drop, ← hf a, List.drop_left]
theorem rowOf_take (hf : ∀ a, (f a).length = es) : ∀ (xs : List α) (k : Nat), (rowOf f xs).take (k * es) = rowOf f (xs.take k)
  | xs, 0 => by simp [rowOf]
  | [], k + 1 => by simp [rowOf]
  | a :: xs, k + 1 => by
    rw [rowOf_cons, List.take_succ_cons, rowOf_cons, ← rowOf_take hf xs k, Nat.add_mul, Nat.one_mul, Nat.add_comm, List.take_add, ← hf a, List.take_left, List.drop_left]
theorem rowOf_seg (hf : ∀ a, (f a).length = es) {xs : List α} {k : Nat} (hk : k < xs.length) : ((rowOf f xs).drop (k * es)).take es = f xs[k] := by
  rw [rowOf_drop hf, List.drop_eq_getElem_cons hk, rowOf_cons, ← hf xs[k], List.take_left]
theorem rowOf_get (hf : ∀ a, (f a).length = es) {xs : List α} {k j : Nat} (hk : k < xs.length) (hj : j < es) : (rowOf f xs)[k * es + j]? = (f xs[k])[j]? := by
  rw [← rowOf_seg hf hk, List.getElem?_take_of_lt hj, List.getElem?_drop]
theorem rowOf_set (hf : ∀ a, (f a).length = es) {xs : List α} {k : Nat} (hk : k < xs.length) (a : α) :
    (rowOf f xs).take (k * es) ++ f a ++ (rowOf f xs).drop (k * es + es) = rowOf f (xs.set k a) := by
  rw [show k * es + es = (k + 1) * es by rw [Nat.add_mul, Nat.one_mul], rowOf_take hf, rowOf_drop hf, List.set_eq_take_append_cons_drop, if_pos hk, rowOf_append, rowOf_cons, List.append_assoc]
theorem rowOf_zeros (n : Nat) (d : α) : (List.replicate n (f d)).flatten = rowOf f (List.replicate n d) := by
  induction n with
  | zero => rfl
  | succ n ih => rw [List.replicate_succ, List.flatten_cons, ih, List.replicate_succ, rowOf_cons]
theorem rowOf_ok {h : Heap} (hf : ∀ a, okAll h (f a) = true) (xs : List α) : okAll h (rowOf f xs) = true := by
  induction xs with
  | nil => rfl
  | cons a xs ih => exact okAll_append (hf a) ih

/-- one more element copied -/
theorem take_set_succ {acc ws : List α} {i : Nat} (hl : acc.length = ws.length) (hi : i < ws.length) (ht : acc.take i = ws.take i) : (acc.set i ws[i]).take (i + 1) = ws.take (i + 1) := by
  rw [List.take_add_one, List.take_add_one, List.take_set_of_le (Nat.le_refl _), ht, List.getElem?_set_self (by omega), List.getElem?_eq_getElem hi]
theorem take_succ_eq {xs ys : List α} {i : Nat} (h1 : i < xs.length) (h2 : i < ys.length) (ht : xs.take i = ys.take i) (he : xs[i] = ys[i]) : xs.take (i + 1) = ys.take (i + 1) := by
  rw [List.take_add_one, List.take_add_one, ht, List.getElem?_eq_getElem h1, List.getElem?_eq_getElem h2, he]
theorem eq_of_takes {xs ys : List α} {i : Nat} (h1 : xs.length ≤ i) (h2 : ys.length ≤ i) (ht : xs.take i = ys.take i) : xs = ys := by
  rwa [List.take_of_length_le h1, List.take_of_length_le h2] at ht
theorem dec_ne_at [DecidableEq α] {xs ys : List α} {i : Nat} (h1 : i < xs.length) (h2 : i < ys.length) (he : ¬ xs[i] = ys[i]) : decide (xs = ys) = false := by
  rw [decide_eq_false_iff_not]; intro h; subst h; exact he rfl
theorem dec_ne_len [DecidableEq α] {xs ys : List α} (he : ¬ xs.length = ys.length) : decide (xs = ys) = false := by
  rw [decide_eq_false_iff_not]; intro h; subst h; exact he rfl
end
end Go.Ab
