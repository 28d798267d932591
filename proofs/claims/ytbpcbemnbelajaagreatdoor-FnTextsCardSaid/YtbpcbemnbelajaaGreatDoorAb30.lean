/- Rows whose elements hold a slice each. Plain library text, no statement. -/
import Derived.Test.YtbpcbemnbelajaaGreatDoorAb29
namespace Go.Ab
open Go Go.RowKit

/-- a row of elements; each holds, in its last cell, a slice of its own -/
structure NAt {α : Type} (f : α × Nat → List AV) (inn : α → List AV) (es : Nat) (h : Heap) (id : Nat) (xs : List α) (ids : List Nat) : Prop where
  len : ids.length = xs.length
  row : rd h id (xs.length * es) = some (rowOf f (xs.zip ids))
  get : ∀ (k : Nat) a i, xs[k]? = some a → ids[k]? = some i → rd h i (inn a).length = some (inn a)

section
variable {α : Type} {f : α × Nat → List AV} {inn : α → List AV} {es : Nat} {h : Heap} {id : Nat} {xs : List α} {ids : List Nat}
theorem NAt.sub {h' : Heap} (n : NAt f inn es h id xs ids) (hs : h.sub h') : NAt f inn es h' id xs ids :=
  ⟨n.len, rd_sub hs n.row, fun k a i h1 h2 => rd_sub hs (n.get k a i h1 h2)⟩
theorem NAt.old (n : NAt f inn es h id xs ids) (l : Heap) : NAt f inn es (h ++ l) id xs ids := n.sub (Heap.sub_append _ _)
theorem NAt.elt (n : NAt f inn es h id xs ids) {k : Nat} {a : α} (hk : xs[k]? = some a) : ∃ i, ids[k]? = some i ∧ (xs.zip ids)[k]? = some (a, i) ∧ rd h i (inn a).length = some (inn a) := by
  obtain ⟨i, hi⟩ := some_at (show k < ids.length by rw [n.len]; exact some_lt hk)
  exact ⟨i, hi, List.getElem?_zip_eq_some (z := (a, i)).2 ⟨hk, hi⟩, n.get k a i hk hi⟩
theorem NAt.sz (n : NAt f inn es h id xs ids) : Go.Ab.sz h id = some (xs.length * es) := sz_of n.row
theorem zip_none {k : Nat} (n : NAt f inn es h id xs ids) (hk : xs.length ≤ k) : (xs.zip ids)[k]? = none := by
  rw [List.getElem?_eq_none]; simp [n.len]; omega
theorem NAt.cells_len (n : NAt f inn es h id xs ids) (hf : ∀ p, (f p).length = es) : (rowOf f (xs.zip ids)).length = xs.length * es := by
  rw [rowOf_len hf]; simp [n.len]
end

/-- the same, which ids is not said -/
def NOk {α : Type} (f : α × Nat → List AV) (inn : α → List AV) (es : Nat) (h : Heap) (id : Nat) (xs : List α) : Prop := ∃ ids, NAt f inn es h id xs ids
theorem NOk.sub {α : Type} {f : α × Nat → List AV} {inn : α → List AV} {es : Nat} {h h' : Heap} {id : Nat} {xs : List α} (n : NOk f inn es h id xs) (hs : h.sub h') : NOk f inn es h' id xs :=
  let ⟨ids, n⟩ := n; ⟨ids, n.sub hs⟩

/-- a row at its place: the element's row, and the rows of the slices, one behind the other -/
def blksN {α : Type} (f : α × Nat → List AV) (inn : α → List AV) (e es ei : Nat) (b : Nat) (xs : List α) : Heap :=
  ⟨.row e es, rowOf f (xs.zip (List.range' (b + 1) xs.length))⟩ :: xs.map fun a => ⟨.row ei 1, inn a⟩

section
variable {α : Type} {f : α × Nat → List AV} {inn : α → List AV} {e es ei b : Nat} {xs : List α}
theorem blksN_len : (blksN f inn e es ei b xs).length = xs.length + 1 := by simp [blksN]
theorem blksN_row : (blksN f inn e es ei b xs)[0]? = some ⟨.row e es, rowOf f (xs.zip (List.range' (b + 1) xs.length))⟩ := rfl
theorem blksN_get {k : Nat} {a : α} (hk : xs[k]? = some a) : (blksN f inn e es ei b xs)[k + 1]? = some ⟨.row ei 1, inn a⟩ := by
  simp [blksN, hk]
theorem zip_len {m : Nat} : (xs.zip (List.range' m xs.length)).length = xs.length := by simp
theorem blksN_at (hf : ∀ p, (f p).length = es) {h : Heap} (hb : h.length = b) (l : Heap) : NAt f inn es (h ++ (blksN f inn e es ei b xs ++ l)) b xs (List.range' (b + 1) xs.length) := by
  subst hb
  refine ⟨by simp, ?_, fun k a i hk hi => ?_⟩
  · rw [rd_new0]
    unfold blksN
    rw [List.cons_append, rd_row, if_pos (by rw [rowOf_len hf, zip_len])]
  · have hkl := some_lt hk
    rw [List.getElem?_range' (by simpa using hkl)] at hi
    simp at hi
    subst hi
    rw [show h.length + 1 + k = h.length + (k + 1) by omega, rd_newk]
    unfold rd
    rw [List.getElem?_append_left (by rw [blksN_len]; omega), blksN_get hk]
    simp
theorem blksN_wr (hf : ∀ p, (f p).length = es) {h : Heap} (hb : h.length = b) (l : Heap) : wr (h ++ (blksN f inn e es ei b xs ++ l)) b (xs.length * es) = some (e, es, rowOf f (xs.zip (List.range' (b + 1) xs.length))) := by
  subst hb
  rw [wr_new0]
  unfold blksN
  rw [List.cons_append, wr_row, if_pos (by rw [rowOf_len hf, zip_len])]
theorem blksN_ok (hf : ∀ (a : α) (i : Nat) (h : Heap), refOk h i (inn a).length = true → okAll h (f (a, i)) = true) (hi : ∀ (h : Heap) a, okAll h (inn a) = true) {h : Heap} (hb : h.length = b) : ∀ c ∈ blksN f inn e es ei b xs, okAll (h ++ blksN f inn e es ei b xs) c.cells = true := by
  subst hb
  intro c hc
  have hc' := hc
  unfold blksN at hc'
  rcases List.mem_cons.1 hc' with rfl | hc'
  · rw [okAll_iff]
    intro d hd
    simp only [rowOf, List.mem_flatMap] at hd
    obtain ⟨⟨a, i⟩, hp, hd⟩ := hd
    obtain ⟨k, hk⟩ := List.getElem?_of_mem hp
    rw [List.getElem?_zip_eq_some] at hk
    obtain ⟨h1, h2⟩ := hk
    refine okAll_iff.1 (hf a i _ ?_) d hd
    have hkl := some_lt h1
    rw [List.getElem?_range' (by simpa using hkl)] at h2
    simp at h2
    subst h2
    unfold refOk csz
    rw [show h.length + 1 + k = h.length + (k + 1) by omega, get_new, blksN_get h1]
    simp
  · simp only [List.mem_map] at hc'
    obtain ⟨a, _, rfl⟩ := hc'
    exact hi _ a
end

/-! ### a row of which the front is set -/
def optF {β : Type} (f : β → List AV) (z : List AV) : Option β → List AV
  | some p => f p
  | none => z
theorem optF_len {β : Type} {f : β → List AV} {z : List AV} {es : Nat} (hf : ∀ p, (f p).length = es) (hz : z.length = es) : ∀ p, (optF f z p).length = es
  | some p => hf p
  | none => hz
theorem optF_row {β : Type} {f : β → List AV} {z : List AV} (l : List β) : rowOf (optF f z) (l.map some) = rowOf f l := by
  induction l with
  | nil => rfl
  | cons a l ih => rw [List.map_cons, rowOf_cons, rowOf_cons, ih]; rfl
theorem optF_zeros {β : Type} {f : β → List AV} {z : List AV} (n : Nat) : (List.replicate n z).flatten = rowOf (optF f z) (List.replicate n none) := rowOf_zeros (f := optF f z) n none
def front {β : Type} (l : List β) (i : Nat) : List (Option β) := (l.take i).map some ++ List.replicate (l.length - i) none
theorem front_len {β : Type} {l : List β} {i : Nat} (hi : i ≤ l.length) : (front l i).length = l.length := by simp [front]; omega
theorem front_zero {β : Type} (l : List β) : front l 0 = List.replicate l.length none := by simp [front]
theorem front_all {β : Type} (l : List β) : front l l.length = l.map some := by simp [front]
theorem front_set {β : Type} {l : List β} {i : Nat} {a : β} (h : l[i]? = some a) : (front l i).set i (some a) = front l (i + 1) := by
  have hi := some_lt h
  unfold front
  rw [take_snoc h, List.map_append, List.set_append_right _ _ (by simp; omega)]
  have : ((l.take i).map some).length = i := by simp; omega
  rw [this, Nat.sub_self]
  obtain ⟨m, hm⟩ : ∃ m, l.length - i = m + 1 := ⟨l.length - i - 1, by omega⟩
  rw [hm, List.replicate_succ, List.set_cons_zero, show l.length - (i + 1) = m by omega]
  simp

/-! ### arguments of a law -/
/-- as they lie with the caller: read-only, the slices not in order, none too long -/
def NSub {α : Type} (g : α × Nat → List AV) (inn : α → List AV) (es : Nat) (h : Heap) (id : Nat) (xs : List α) : Prop :=
  NOk g inn es h id xs ∧ ∀ a ∈ xs, (inn a).length ≤ maxLen
theorem NSub.old {α : Type} {g : α × Nat → List AV} {inn : α → List AV} {es : Nat} {h : Heap} {id : Nat} {xs : List α} (n : NSub g inn es h id xs) (l : Heap) : NSub g inn es (h ++ l) id xs :=
  ⟨n.1.sub (Heap.sub_append _ _), n.2⟩

theorem say_nest {α : Type} {g : α × Nat → List AV} {inn : α → List AV} {es : Nat} (hpos : 0 < es) (hg : ∀ p, (g p).length = es) {R : Say} {h : Heap}
    (hR : ∀ cs, R h cs → ∃ a i, cs = g (a, i) ∧ rd h i (inn a).length = some (inn a) ∧ (inn a).length ≤ maxLen) {av : List AV} (hs : (SaySl es fun _ => R) h av) :
    ∃ (xs : List α) (id : Nat), av = [.sub id (xs.length * es) es 0 xs.length] ∧ xs.length ≤ maxLen ∧ NSub g inn es h id xs := by
  obtain ⟨id, cells, len, h1, h2, h3, h4⟩ := hs
  have key : ∃ ps : List { p : α × Nat // rd h p.2 (inn p.1).length = some (inn p.1) ∧ (inn p.1).length ≤ maxLen }, ps.length = len ∧ cells = rowOf (fun p => g p.1) ps :=
    rows_of_each (f := fun p : { p : α × Nat // rd h p.2 (inn p.1).length = some (inn p.1) ∧ (inn p.1).length ≤ maxLen } => g p.1) hpos (fun p => hg p.1) (fun cs hcs => by
      obtain ⟨a, i, rfl, hr, hm⟩ := hR cs hcs
      exact ⟨⟨(a, i), hr, hm⟩, rfl⟩) len cells (rd_spec h2).1 h4
  obtain ⟨ps, rfl, rfl⟩ := key
  refine ⟨ps.map (·.1.1), id, by simpa using h1, by simpa using h3, ⟨ps.map (·.1.2), by simp, ?_, fun k a i hk hi => ?_⟩, fun a ha => ?_⟩
  · rw [List.length_map, h2]
    congr 1
    clear h1 h2 h3 h4
    induction ps with
    | nil => rfl
    | cons p ps ih => rw [rowOf_cons, List.map_cons, List.map_cons, List.zip_cons_cons, rowOf_cons, ih]
  · simp only [List.getElem?_map, Option.map_eq_some_iff] at hk hi
    obtain ⟨p, hp, rfl⟩ := hk
    obtain ⟨q, hq, rfl⟩ := hi
    rw [hp] at hq; injection hq with hq; subst hq
    exact p.2.1
  · simp only [List.mem_map] at ha
    obtain ⟨p, _, rfl⟩ := ha
    exact p.2.2

/-! ### places far behind -/
section
variable {b c : Blk} {l : Heap} {x y z k st : Nat}
theorem rd_cons1 : rd (b :: l) (x + (k + 1)) st = rd l (x + k) st := rd_cons
theorem rd_cons2 : rd (b :: l) (x + (y + (k + 1))) st = rd l (x + (y + k)) st := rd_cons
theorem rd_cons3 : rd (b :: l) (x + (y + (z + (k + 1)))) st = rd l (x + (y + (z + k))) st := rd_cons
theorem sz_cons1 : sz (b :: l) (x + (k + 1)) = sz l (x + k) := sz_cons
theorem sz_cons2 : sz (b :: l) (x + (y + (k + 1))) = sz l (x + (y + k)) := sz_cons
theorem sz_cons3 : sz (b :: l) (x + (y + (z + (k + 1)))) = sz l (x + (y + (z + k))) := sz_cons
theorem wr_cons1 : wr (b :: l) (x + (k + 1)) st = wr l (x + k) st := wr_cons
theorem wr_cons2 : wr (b :: l) (x + (y + (k + 1))) st = wr l (x + (y + k)) st := wr_cons
theorem wr_cons3 : wr (b :: l) (x + (y + (z + (k + 1)))) st = wr l (x + (y + (z + k))) st := wr_cons
theorem set_cons1 : List.set (b :: l) (x + (k + 1)) c = b :: List.set l (x + k) c := rfl
theorem set_cons2 : List.set (b :: l) (x + (y + (k + 1))) c = b :: List.set l (x + (y + k)) c := rfl
theorem set_cons3 : List.set (b :: l) (x + (y + (z + (k + 1)))) c = b :: List.set l (x + (y + (z + k))) c := rfl
end

/-- rows of the same size, closed in the old heap -/
theorem same_shape {h h' : Heap} (hc : closedH h) (hl : h'.length = h.length) (hr : ∀ (id : Nat) b', h'[id]? = some b' → ∃ b, h[id]? = some b ∧ b.cells.length = b'.cells.length ∧ okAll h b'.cells = true) : closedH h' ∧ h.le h' := by
  have hle : h.le h' := by
    intro id n hn
    have hid := csz_lt hn
    obtain ⟨b', hb'⟩ := some_at (show id < h'.length by omega)
    obtain ⟨b, hb, hlen, _⟩ := hr id b' hb'
    refine ⟨n, ?_, Nat.le_refl _⟩
    unfold csz at *
    rw [hb] at hn
    rw [hb']
    simpa [hlen] using hn
  exact ⟨fun id b' hb' => by
    obtain ⟨b, _, _, hok⟩ := hr id b' hb'
    exact okAll_mono hle _ hok, hle⟩

/-- an append's parts, looked at by place -/
theorem three_at {a e e' l : Heap} (he : e'.length = e.length) {id : Nat} {c : Blk} (h : (a ++ (e' ++ l))[id]? = some c) : (a ++ (e ++ l))[id]? = some c ∨ ∃ k, id = a.length + k ∧ k < e.length ∧ e'[k]? = some c := by
  rcases Nat.lt_or_ge id a.length with h1 | h1
  · left
    rw [List.getElem?_append_left h1] at h ⊢
    exact h
  · obtain ⟨k, rfl⟩ : ∃ k, id = a.length + k := ⟨id - a.length, by omega⟩
    rw [get_new] at h ⊢
    rcases Nat.lt_or_ge k e.length with h2 | h2
    · right
      rw [List.getElem?_append_left (by omega)] at h
      exact ⟨k, rfl, h2, h⟩
    · left
      rw [List.getElem?_append_right (by omega)] at h ⊢
      rw [← he]; exact h
end Go.Ab
