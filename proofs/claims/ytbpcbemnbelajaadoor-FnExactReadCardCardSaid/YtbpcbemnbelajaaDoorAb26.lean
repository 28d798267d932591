/- Rows of counters, one row set anew, insertion from the right. Plain library text, no statement. -/
import Derived.Test.YtbpcbemnbelajaaDoorAb25
namespace Go.Ab
open Go Go.RowKit

def rowN (l : List Nat) : List AV := l.map fun n : Nat => VI (n : Int)
theorem rowN_at {xs : List Nat} {k : Nat} : (rowN xs)[k]? = xs[k]?.map fun n : Nat => VI (n : Int) := by simp [rowN]
theorem rowN_len (xs : List Nat) : (rowN xs).length = xs.length := by simp [rowN]
theorem rowN_ok (h : Heap) (xs : List Nat) : okAll h (rowN xs) = true := by
  rw [okAll_iff]; intro c hc; simp [rowN] at hc; obtain ⟨n, _, rfl⟩ := hc; rfl
theorem rowN_set (xs : List Nat) (k : Nat) (v : Nat) (hk : k < xs.length) : List.take k (rowN xs) ++ VI (v : Int) :: List.drop (k + 1) (rowN xs) = rowN (xs.set k v) := by
  have := set_splice (rowN xs) k (VI (v : Int)) (by rw [rowN_len]; exact hk)
  simp only [List.append_assoc, List.singleton_append] at this
  rw [this]; simp [rowN, List.map_set]
theorem rowN_snoc (xs : List Nat) (n : Nat) : rowN xs ++ [VI (n : Int)] = rowN (xs ++ [n]) := by simp [rowN]
theorem rowN_rowI (xs : List Nat) : rowN xs = rowI (xs.map Int.ofNat) := by simp [rowN, rowI]

/-! ### one row of the heap set anew -/
section
variable {h : Heap} {id st es : Nat} {e : TypeId} {cells : List AV}
theorem rd_set (hid : id < h.length) : rd (List.set h id ⟨.row e es, cells⟩) id st = if cells.length = st then some cells else none := by
  simp [rd, List.getElem?_set_self hid]
theorem wr_set (hid : id < h.length) : wr (List.set h id ⟨.row e es, cells⟩) id st = if cells.length = st then some (e, es, cells) else none := by
  simp [wr, List.getElem?_set_self hid]
theorem sz_set (hid : id < h.length) : sz (List.set h id ⟨.row e es, cells⟩) id = some cells.length := by
  simp [sz, List.getElem?_set_self hid, Blk.sz]
theorem rd_set_ne {i : Nat} {b : Blk} (hne : i ≠ id) : rd (List.set h id b) i st = rd h i st := by
  simp [rd, List.getElem?_set_ne (Ne.symm hne)]
theorem wr_set_ne {i : Nat} {b : Blk} (hne : i ≠ id) : wr (List.set h id b) i st = wr h i st := by
  simp [wr, List.getElem?_set_ne (Ne.symm hne)]
theorem sz_set_ne {i : Nat} {b : Blk} (hne : i ≠ id) : sz (List.set h id b) i = sz h i := by
  simp [sz, List.getElem?_set_ne (Ne.symm hne)]
theorem set_set {b c : Blk} : List.set (List.set h id b) id c = List.set h id c := List.set_set ..
theorem set_same (hw : wr h id st = some (e, es, cells)) : List.set h id ⟨.row e es, cells⟩ = h := by
  obtain ⟨_, hb, _⟩ := wr_spec hw
  apply List.ext_getElem?
  intro j
  by_cases hj : id = j
  · subst hj; rw [List.getElem?_set_self (lt_len hb), hb]
  · rw [List.getElem?_set_ne hj]
theorem wr_lt {r : TypeId × Nat × List AV} (hw : wr h id st = some r) : id < h.length := lt_len (wr_spec (e := r.1) (es := r.2.1) (cells := r.2.2) hw).2.1
theorem rd_lt (hr : rd h id st = some cells) : id < h.length := by
  obtain ⟨_, hb | ⟨e, es, hb⟩, _⟩ := rd_spec hr <;> exact lt_len hb
theorem sz_lt (hs : sz h id = some st) : id < h.length := by
  obtain ⟨b, hb, _⟩ := sz_some hs; exact lt_len hb

theorem Side.set {V : List (Nat × AV)} {e' : TypeId} {es' : Nat} {cells' : List AV} (hc : closedH h) (hw : wr h id st = some (e, es, cells)) (hl : st ≤ cells'.length) (hp : ∀ h, okAll h cells' = true) (hv : ∀ p ∈ V, p.2.ok (List.set h id ⟨.row e' es', cells'⟩) = true) :
    Side h V (List.set h id ⟨.row e' es', cells'⟩) := by
  obtain ⟨hlen, hb, _⟩ := wr_spec hw
  have hLe := Heap.le_set hb (k' := .row e' es') (cells' := cells') (by omega)
  refine ⟨fun i b hi => ?_, hLe, hv⟩
  rcases getElem?_set_cases hi with ⟨rfl, rfl⟩ | ⟨_, hi⟩
  · exact hp _
  · exact okAll_mono hLe _ (hc i b hi)
end

theorem retP_zero {P : Program} {s : S} {h : Heap} {K : AV → Prop} : retP P [] s h K = K (.tup []) := rfl

/-! ### insertion from the right -/

/-- how many stay ahead -/
def posR (g : Nat → Bool) (l : List Nat) : Nat := l.length - (l.reverse.takeWhile g).length
def hole (l : List Nat) (at_ : Nat) (c : Nat) : List Nat := l.take at_ ++ c :: l.drop at_
def insR (g : Nat → Bool) (x : Nat) (l : List Nat) : List Nat := hole l (posR g l) x

theorem takeWhile_snoc {α : Type} {g : α → Bool} (xs : List α) (a : α) : (xs ++ [a]).takeWhile g = if xs.all g then (if g a then xs ++ [a] else xs) else xs.takeWhile g := by
  induction xs with
  | nil => simp [List.takeWhile]; split <;> simp_all
  | cons x xs ih =>
    simp only [List.cons_append, List.takeWhile_cons, List.all_cons, ih]
    cases hx : g x <;> simp
    split <;> (try split) <;> simp_all

theorem posR_uniq {g : Nat → Bool} {l : List Nat} {k : Nat} (hk : k ≤ l.length) (h1 : ∀ (j : Nat) y, k ≤ j → l[j]? = some y → g y = true) (h2 : k = 0 ∨ ∃ y, l[k - 1]? = some y ∧ g y = false) : posR g l = k := by
  unfold posR
  suffices h : (l.reverse.takeWhile g).length = l.length - k by omega
  have hsplit : l.reverse = (l.drop k).reverse ++ (l.take k).reverse := by
    rw [← List.reverse_append, List.take_append_drop]
  have hall : ∀ y ∈ (l.drop k).reverse, g y = true := by
    intro y hy
    rw [List.mem_reverse] at hy
    obtain ⟨j, hj⟩ := List.getElem?_of_mem hy
    rw [List.getElem?_drop] at hj
    exact h1 _ y (by omega) hj
  rw [hsplit, List.takeWhile_append_of_pos hall]
  have hrest : (l.take k).reverse.takeWhile g = [] := by
    rcases h2 with rfl | ⟨y, hy, hg⟩
    · simp
    · cases k with
      | zero => simp
      | succ k =>
        simp only [Nat.add_sub_cancel] at hy
        rw [take_snoc hy, List.reverse_append]
        simp [List.takeWhile_cons, hg]
  rw [hrest]
  simp

theorem posR_le {g : Nat → Bool} {l : List Nat} : posR g l ≤ l.length := Nat.sub_le _ _
theorem hole_len {l : List Nat} {k c : Nat} (hk : k ≤ l.length) : (hole l k c).length = l.length + 1 := by
  simp [hole]; omega
theorem insR_len {g : Nat → Bool} {x : Nat} {l : List Nat} : (insR g x l).length = l.length + 1 := hole_len posR_le
theorem hole_perm {l : List Nat} {k c : Nat} : (hole l k c).Perm (c :: l) := by
  unfold hole
  exact List.perm_middle.trans (by rw [List.take_append_drop])
theorem insR_perm {g : Nat → Bool} {x : Nat} {l : List Nat} : (insR g x l).Perm (x :: l) := hole_perm
theorem hole_end {l : List Nat} {c : Nat} : hole l l.length c = l ++ [c] := by simp [hole]
theorem hole_at {l : List Nat} {k j c : Nat} (hk : k ≤ l.length) (hj : j < k) : (hole l k c)[j]? = l[j]? := by
  unfold hole
  rw [List.getElem?_append_left (by simp; omega), List.getElem?_take_of_lt hj]
theorem hole_here {l : List Nat} {k c : Nat} (hk : k ≤ l.length) : (hole l k c)[k]? = some c := by
  unfold hole
  rw [List.getElem?_append_right (by simp; omega)]
  simp [Nat.min_eq_left hk]
theorem hole_set {l : List Nat} {k c d : Nat} (hk : k ≤ l.length) : (hole l k c).set k d = hole l k d := by
  unfold hole
  rw [List.set_append_right _ _ (by simp; omega)]
  simp [Nat.min_eq_left hk]
theorem hole_move {l : List Nat} {m c y : Nat} (hy : l[m]? = some y) : (hole l (m + 1) c).set (m + 1) y = hole l m y := by
  have hm := some_lt hy
  rw [hole_set (by omega)]
  unfold hole
  rw [take_snoc hy, drop_at hy]
  simp

/-- one after the other put in its place; g k y: y is to stand behind k -/
def ordG (g : Nat → Nat → Bool) : Nat → List Nat
  | 0 => []
  | k + 1 => insR (g k) k (ordG g k)
theorem ordG_len (g : Nat → Nat → Bool) : ∀ k, (ordG g k).length = k
  | 0 => rfl
  | k + 1 => by rw [ordG, insR_len, ordG_len g k]
theorem ordG_perm (g : Nat → Nat → Bool) : ∀ k, (ordG g k).Perm (List.range k)
  | 0 => by simp [ordG]
  | k + 1 => by
    rw [ordG, List.range_succ]
    exact insR_perm.trans (((ordG_perm g k).cons k).trans (List.perm_append_singleton k (List.range k)).symm)
theorem ordG_lt {g : Nat → Nat → Bool} {k y : Nat} (h : y ∈ ordG g k) : y < k := by
  have := (ordG_perm g k).mem_iff.1 h
  simpa using this
theorem ordG_at_lt {g : Nat → Nat → Bool} {k j y : Nat} (h : (ordG g k)[j]? = some y) : y < k := ordG_lt (List.mem_of_getElem? h)

end Go.Ab
