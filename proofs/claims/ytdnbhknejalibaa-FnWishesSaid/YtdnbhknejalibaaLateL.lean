/- The first late day: plain lists. -/
import Derived.Test.YtdnbhknejalibaaServe
namespace Go.Proofs.Ytdnbhknejalibaa
set_option maxRecDepth 20000
set_option linter.unusedSimpArgs false
set_option linter.unusedVariables false
open Go Go.Ab

/-- the sum of the counts up to a day -/
def untilW (ws : List W3) (d : Int) : Int := ((ws.filter fun w => decide (w.2.2 ≤ d)).map fun w => w.2.1).sum
def lateW (ws : List W3) (daily d : Int) : Bool := decide (untilW ws d > daily * (d + 1))
/-- one step of the search for the first late day -/
def stepL (ws : List W3) (daily : Int) (b : Int) (w : W3) : Int := if lateW ws daily w.2.2 = true ∧ (b < 0 ∨ w.2.2 < b) then w.2.2 else b
def okD (ws : List W3) (daily : Int) : Bool := wishesOk ws && (decide (1 ≤ daily) && decide (daily ≤ 500))
def firstLate (ws : List W3) (daily : Int) : Int := if okD ws daily = true then ws.foldl (stepL ws daily) (-1) else -1
theorem okD_spec {ws : List W3} {daily : Int} (h : okD ws daily = true) : wishesOk ws = true ∧ 1 ≤ daily ∧ daily ≤ 500 := by
  unfold okD at h; simp at h; exact h

theorem stepL_yes {ws : List W3} {daily b : Int} {w : W3} (h : untilW ws w.2.2 > daily * (w.2.2 + 1) ∧ (b < 0 ∨ w.2.2 < b)) : stepL ws daily b w = w.2.2 := by
  rw [stepL, if_pos ⟨by unfold lateW; exact decide_eq_true h.1, h.2⟩]
theorem stepL_no {ws : List W3} {daily b : Int} {w : W3} (h : ¬ (untilW ws w.2.2 > daily * (w.2.2 + 1) ∧ (b < 0 ∨ w.2.2 < b))) : stepL ws daily b w = b := by
  rw [stepL, if_neg fun hh => h ⟨by have := hh.1; unfold lateW at this; exact of_decide_eq_true this, hh.2⟩]

theorem untilW_snoc (ws : List W3) (w : W3) (d : Int) : untilW (ws ++ [w]) d = untilW ws d + (if w.2.2 ≤ d then w.2.1 else 0) := by
  unfold untilW
  rw [List.filter_append, List.map_append, List.sum_append]
  by_cases h : w.2.2 ≤ d <;> simp [List.filter_cons, h]
theorem untilW_bound {ws : List W3} (hv : ∀ w ∈ ws, 1 ≤ w.2.1 ∧ w.2.1 ≤ 500) (d : Int) : 0 ≤ untilW ws d ∧ untilW ws d ≤ 500 * ws.length := by
  induction ws with
  | nil => simp [untilW]
  | cons w ws ih =>
    have h1 := hv w List.mem_cons_self
    have h2 := ih fun x hx => hv x (List.mem_cons_of_mem _ hx)
    unfold untilW at h2 ⊢
    by_cases h : w.2.2 ≤ d
    · simp only [List.filter_cons, h, decide_true, if_true, List.map_cons, List.sum_cons, List.length_cons]
      omega
    · simp only [List.filter_cons, h, decide_false, Bool.false_eq_true, if_false, List.length_cons]
      omega
theorem wOk_mem {ws : List W3} (hv : wishesOk ws = true) : ∀ w ∈ ws, (1 ≤ w.2.1 ∧ w.2.1 ≤ 500) ∧ 0 ≤ w.2.2 ∧ w.2.2 ≤ 365 := by
  intro w hw
  obtain ⟨k, hk⟩ := List.getElem?_of_mem hw
  exact wOk_at hv hk

/-! ### the order is by days -/

def Asc (ws : List W3) (l : List Nat) : Prop := l.Pairwise fun a b => dayAt ws a ≤ dayAt ws b

theorem takeWhile_stop {α : Type} {g : α → Bool} : ∀ {l : List α} {y : α}, l[(l.takeWhile g).length]? = some y → g y = false
  | [], y, h => by simp at h
  | x :: l, y, h => by
    cases hx : g x with
    | false => simp [List.takeWhile_cons, hx] at h; subst h; exact hx
    | true => simp [List.takeWhile_cons, hx] at h; exact takeWhile_stop h
theorem takeWhile_in {α : Type} {g : α → Bool} : ∀ {l : List α} {y : α} {j : Nat}, j < (l.takeWhile g).length → l[j]? = some y → g y = true
  | [], y, j, hj, h => by simp at h
  | x :: l, y, j, hj, h => by
    cases hx : g x with
    | false => simp [List.takeWhile_cons, hx] at hj
    | true =>
      cases j with
      | zero => simp at h; subst h; exact hx
      | succ j => exact takeWhile_in (by simpa [List.takeWhile_cons, hx] using hj) (by simpa using h)

theorem posR_drop {g : Nat → Bool} {l : List Nat} {j y : Nat} (hj : posR g l ≤ j) (hy : l[j]? = some y) : g y = true := by
  have hjl := some_lt hy
  have hle : (l.reverse.takeWhile g).length ≤ l.length := by
    have := (List.takeWhile_prefix g (l := l.reverse)).length_le; simpa using this
  refine takeWhile_in (l := l.reverse) (j := l.length - 1 - j) (by unfold posR at hj; omega) ?_
  rw [List.getElem?_reverse (by omega), show l.length - 1 - (l.length - 1 - j) = j by omega]
  exact hy
theorem posR_stop {g : Nat → Bool} {l : List Nat} {y : Nat} (hp : 0 < posR g l) (hy : l[posR g l - 1]? = some y) : g y = false := by
  have hle : (l.reverse.takeWhile g).length ≤ l.length := by
    have := (List.takeWhile_prefix g (l := l.reverse)).length_le; simpa using this
  refine takeWhile_stop (l := l.reverse) ?_
  have hlt : (l.reverse.takeWhile g).length < l.length := by unfold posR at hp; omega
  rw [List.getElem?_reverse hlt]
  unfold posR at hy
  rw [show l.length - 1 - (l.reverse.takeWhile g).length = l.length - (l.reverse.takeWhile g).length - 1 by omega]
  exact hy

theorem asc_ord (ws : List W3) : ∀ k, Asc ws (ordG (gW ws) k)
  | 0 => List.Pairwise.nil
  | k + 1 => by
    have ih := asc_ord ws k
    unfold Asc at *
    rw [ordG, insR, hole]
    generalize hl : ordG (gW ws) k = l at *
    have hd : ∀ y ∈ l.drop (posR (gW ws k) l), dayAt ws k < dayAt ws y := by
      intro y hy
      obtain ⟨j, hj⟩ := List.getElem?_of_mem hy
      rw [List.getElem?_drop] at hj
      have := posR_drop (Nat.le_add_right _ _) hj
      unfold gW at this; simpa using this
    have ht : ∀ y ∈ l.take (posR (gW ws k) l), dayAt ws y ≤ dayAt ws k := by
      intro y hy
      obtain ⟨j, hj⟩ := List.getElem?_of_mem hy
      have hjl0 := some_lt hj
      rw [List.length_take] at hjl0
      have hjl : j < posR (gW ws k) l ∧ j < l.length := by omega
      rw [List.getElem?_take_of_lt hjl.1] at hj
      obtain ⟨z, hz⟩ := some_at (show posR (gW ws k) l - 1 < l.length by have := posR_le (g := gW ws k) (l := l); omega)
      have hs := posR_stop (by omega) hz
      unfold gW at hs
      simp at hs
      rcases Nat.lt_or_ge j (posR (gW ws k) l - 1) with h | h
      · have := List.pairwise_iff_getElem.1 ih j (posR (gW ws k) l - 1) hjl.2 (some_lt hz) h
        rw [List.getElem?_eq_getElem hjl.2] at hj
        rw [List.getElem?_eq_getElem (some_lt hz)] at hz
        injection hj with hj; injection hz with hz
        rw [hj, hz] at this
        omega
      · obtain rfl : j = posR (gW ws k) l - 1 := by omega
        rw [hz] at hj; injection hj with hj; subst hj; exact hs
    rw [List.pairwise_append]
    refine ⟨ih.sublist (List.take_sublist _ _), ?_, ?_⟩
    · rw [List.pairwise_cons]
      exact ⟨fun y hy => Int.le_of_lt (hd y hy), ih.sublist (List.drop_sublist _ _)⟩
    · intro a ha b hb
      have h1 := ht a ha
      rcases List.mem_cons.1 hb with rfl | hb
      · exact h1
      · exact Int.le_trans h1 (Int.le_of_lt (hd b hb))

def cntAt (ws : List W3) (k : Nat) : Int := (ws.getD k (0, 0, 0)).2.1
theorem cntAt_of {ws : List W3} {k : Nat} {w : W3} (h : ws[k]? = some w) : cntAt ws k = w.2.1 := by simp [cntAt, List.getD, h]
/-- the counts of these, together -/
def sumO (ws : List W3) (l : List Nat) : Int := (l.map (cntAt ws)).sum

theorem until_range (ws : List W3) (d : Int) : untilW ws d = sumO ws ((List.range ws.length).filter fun k => decide (dayAt ws k ≤ d)) := by
  have hw : ws = (List.range ws.length).map fun k => ws.getD k (0, 0, 0) := by
    apply List.ext_getElem?
    intro i
    rcases Nat.lt_or_ge i ws.length with h | h
    · simp [h, List.getD]
    · simp [h]
  unfold untilW sumO
  conv => lhs; rw [hw]
  rw [List.filter_map, List.map_map]
  rfl

theorem sum_perm {l m : List Int} (h : l.Perm m) : l.sum = m.sum := by
  induction h with
  | nil => rfl
  | cons x _ ih => simp [ih]
  | swap x y l => simp only [List.sum_cons]; omega
  | trans _ _ h1 h2 => exact h1.trans h2

theorem until_ord (ws : List W3) (d : Int) : untilW ws d = sumO ws ((ordG (gW ws) ws.length).filter fun k => decide (dayAt ws k ≤ d)) := by
  rw [until_range]
  unfold sumO
  exact sum_perm (((ordG_perm (gW ws) ws.length).symm.filter _).map _)

theorem asc_at {ws : List W3} {l : List Nat} (h : Asc ws l) {i j a b : Nat} (hi : l[i]? = some a) (hj : l[j]? = some b) (hij : i ≤ j) : dayAt ws a ≤ dayAt ws b := by
  rcases Nat.lt_or_ge i j with h1 | h1
  · have := List.pairwise_iff_getElem.1 h i j (some_lt hi) (some_lt hj) h1
    rw [List.getElem?_eq_getElem (some_lt hi)] at hi
    rw [List.getElem?_eq_getElem (some_lt hj)] at hj
    injection hi with hi; injection hj with hj
    rwa [hi, hj] at this
  · obtain rfl : i = j := by omega
    rw [hi] at hj; injection hj with hj; subst hj; exact Int.le_refl _

/-- the place i is the last one of its day -/
def lastAt (ws : List W3) (l : List Nat) (i : Nat) : Prop := ∀ (j : Nat) a b, i < j → l[i]? = some a → l[j]? = some b → dayAt ws a < dayAt ws b

theorem lastAt_end {ws : List W3} {l : List Nat} {i : Nat} (h : l.length ≤ i + 1) : lastAt ws l i := fun j a b hij _ hb => by
  have := some_lt hb; omega
theorem lastAt_next {ws : List W3} {l : List Nat} (hs : Asc ws l) {i a b : Nat} (hi : l[i]? = some a) (hb : l[i + 1]? = some b) (h : dayAt ws a < dayAt ws b) : lastAt ws l i := fun j a' b' hij ha' hb' => by
  rw [hi] at ha'; injection ha' with ha'; subst ha'
  have := asc_at hs hb hb' (by omega)
  omega
theorem not_lastAt {ws : List W3} {l : List Nat} {i a b : Nat} (hi : l[i]? = some a) (hb : l[i + 1]? = some b) (h : ¬ dayAt ws a < dayAt ws b) : ¬ lastAt ws l i := fun hl => h (hl (i + 1) a b (by omega) hi hb)

theorem sum_last {ws : List W3} {i a : Nat} (hi : (ordG (gW ws) ws.length)[i]? = some a) (hl : lastAt ws (ordG (gW ws) ws.length) i) : sumO ws ((ordG (gW ws) ws.length).take (i + 1)) = untilW ws (dayAt ws a) := by
  have hs := asc_ord ws ws.length
  rw [until_ord]
  generalize ordG (gW ws) ws.length = l at *
  congr 1
  conv => rhs; rw [← List.take_append_drop (i + 1) l]
  rw [List.filter_append]
  have h1 : (l.take (i + 1)).filter (fun k => decide (dayAt ws k ≤ dayAt ws a)) = l.take (i + 1) := by
    rw [List.filter_eq_self]
    intro b hb
    obtain ⟨j, hj⟩ := List.getElem?_of_mem hb
    have hjl0 := some_lt hj
    rw [List.length_take] at hjl0
    have hjl : j < i + 1 ∧ j < l.length := by omega
    rw [List.getElem?_take_of_lt hjl.1] at hj
    simpa using asc_at hs hj hi (by omega)
  have h2 : (l.drop (i + 1)).filter (fun k => decide (dayAt ws k ≤ dayAt ws a)) = [] := by
    rw [List.filter_eq_nil_iff]
    intro b hb
    obtain ⟨j, hj⟩ := List.getElem?_of_mem hb
    rw [List.getElem?_drop] at hj
    have := hl _ a b (by omega) hi hj
    simp; omega
  rw [h1, h2, List.append_nil]

theorem last_of {ws : List W3} {l : List Nat} (hs : Asc ws l) : ∀ (n i a : Nat), l.length - i ≤ n → l[i]? = some a → ∃ j b, i ≤ j ∧ l[j]? = some b ∧ dayAt ws b = dayAt ws a ∧ lastAt ws l j
  | 0, i, a, hn, hi => by have := some_lt hi; omega
  | n + 1, i, a, hn, hi => by
    rcases Nat.lt_or_ge (i + 1) l.length with h | h
    · obtain ⟨b, hb⟩ := some_at h
      by_cases hd : dayAt ws a < dayAt ws b
      · exact ⟨i, a, Nat.le_refl _, hi, rfl, lastAt_next hs hi hb hd⟩
      · have := asc_at hs hi hb (by omega)
        obtain ⟨j, c, h1, h2, h3, h4⟩ := last_of hs n (i + 1) b (by omega) hb
        exact ⟨j, c, by omega, h2, by omega, h4⟩
    · exact ⟨i, a, Nat.le_refl _, hi, rfl, lastAt_end h⟩

/-! ### the search finds the least late day -/

theorem foldl_least (ws : List W3) (daily : Int) : ∀ (l : List W3) (b : Int), (∀ w ∈ l, 0 ≤ w.2.2) →
    let r := l.foldl (stepL ws daily) b
    (r = b ∨ ∃ w ∈ l, w.2.2 = r ∧ lateW ws daily r = true) ∧ (0 ≤ b → r ≤ b) ∧ (b < 0 → r = b ∨ 0 ≤ r) ∧ ∀ w ∈ l, lateW ws daily w.2.2 = true → 0 ≤ r ∧ r ≤ w.2.2
  | [], b, _ => ⟨.inl rfl, fun _ => Int.le_refl _, fun _ => .inl rfl, fun w hw => by cases hw⟩
  | w :: l, b, h => by
    have h0 := h w List.mem_cons_self
    have ih := foldl_least ws daily l (stepL ws daily b w) fun x hx => h x (List.mem_cons_of_mem _ hx)
    simp only [List.foldl_cons] at ih ⊢
    obtain ⟨i1, i2, i3, i4⟩ := ih
    by_cases hs : lateW ws daily w.2.2 = true ∧ (b < 0 ∨ w.2.2 < b)
    · have e : stepL ws daily b w = w.2.2 := by rw [stepL, if_pos hs]
      rw [e] at i1 i2 i3 i4 ⊢
      refine ⟨?_, fun _ => ?_, fun _ => ?_, fun x hx hl => ?_⟩
      · rcases i1 with h1 | ⟨x, hx, h1, h2⟩
        · exact .inr ⟨w, List.mem_cons_self, h1.symm, by rw [h1]; exact hs.1⟩
        · exact .inr ⟨x, List.mem_cons_of_mem _ hx, h1, h2⟩
      · have := i2 h0; omega
      · right
        rcases i1 with h1 | ⟨x, hx, h1, h2⟩
        · omega
        · have := h x (List.mem_cons_of_mem _ hx); omega
      · rcases List.mem_cons.1 hx with rfl | hx
        · have := i2 h0
          refine ⟨?_, this⟩
          rcases i1 with h1 | ⟨y, hy, h1, h2⟩
          · omega
          · have := h y (List.mem_cons_of_mem _ hy); omega
        · exact i4 x hx hl
    · have e : stepL ws daily b w = b := by rw [stepL, if_neg hs]
      rw [e] at i1 i2 i3 i4 ⊢
      refine ⟨?_, i2, i3, fun x hx hl => ?_⟩
      · rcases i1 with h1 | ⟨x, hx, h1, h2⟩
        · exact .inl h1
        · exact .inr ⟨x, List.mem_cons_of_mem _ hx, h1, h2⟩
      · rcases List.mem_cons.1 hx with rfl | hx
        · have hb : ¬ (b < 0 ∨ x.2.2 < b) := fun hh => hs ⟨hl, hh⟩
          have := i2 (by omega)
          refine ⟨?_, by omega⟩
          rcases i1 with h1 | ⟨y, hy, h1, h2⟩
          · omega
          · have := h y (List.mem_cons_of_mem _ hy); omega
        · exact i4 x hx hl

theorem firstLate_none {ws : List W3} {daily : Int} (hv : wishesOk ws = true) (h : ∀ w ∈ ws, lateW ws daily w.2.2 = false) : firstLate ws daily = -1 := by
  unfold firstLate
  split
  · have := foldl_least ws daily ws (-1) fun w hw => (wOk_mem hv w hw).2.1
    rcases this.1 with h1 | ⟨w, hw, h1, h2⟩
    · exact h1
    · rw [← h1, h w hw] at h2; cases h2
  · rfl
theorem firstLate_some {ws : List W3} {daily : Int} (ho : okD ws daily = true) {w : W3} (hw : w ∈ ws) (hl : lateW ws daily w.2.2 = true) (hm : ∀ x ∈ ws, lateW ws daily x.2.2 = true → w.2.2 ≤ x.2.2) : firstLate ws daily = w.2.2 := by
  have hv := (okD_spec ho).1
  rw [firstLate, if_pos ho]
  have := foldl_least ws daily ws (-1) fun w hw => (wOk_mem hv w hw).2.1
  obtain ⟨h1, _, _, h4⟩ := this
  have hr := h4 w hw hl
  rcases h1 with h1 | ⟨x, hx, e1, e2⟩
  · omega
  · have := hm x hx (by rw [e1]; exact e2)
    omega
end Go.Proofs.Ytdnbhknejalibaa
