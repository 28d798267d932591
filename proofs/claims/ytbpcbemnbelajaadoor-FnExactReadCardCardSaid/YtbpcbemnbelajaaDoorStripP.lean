/- Strips: paths of steps, the lower and the upper of two, in plain Lean. -/
import Derived.Test.YtbpcbemnbelajaaDoorW1
namespace Go.Proofs.YtbpcbemnbelajaaDoor
set_option maxRecDepth 20000
set_option linter.unusedSimpArgs false
set_option linter.unusedVariables false
open Go Go.Ab

abbrev bsL (b : ByteArray) : List UInt8 := b.data.toList
theorem bsL_len (b : ByteArray) : (bsL b).length = b.size := rfl
def cK (c : UInt8) (b : ByteArray) (k : Nat) : Nat := ((bsL b).take k).count c
def cA (c : UInt8) (b : ByteArray) : Nat := (bsL b).count c
abbrev byAt (b : ByteArray) (k : Nat) : UInt8 := b.data.toList.getD k 0
theorem cK_zero (c : UInt8) (b : ByteArray) : cK c b 0 = 0 := by simp [cK]
theorem take_succ_getD {α : Type} (l : List α) (d : α) {k : Nat} (hk : k < l.length) : l.take (k + 1) = l.take k ++ [l.getD k d] := by
  rw [List.take_succ_eq_append_getElem hk]
  simp [List.getD, hk]
theorem cK_succ (c : UInt8) (b : ByteArray) {k : Nat} (hk : k < b.size) : cK c b (k + 1) = cK c b k + (if byAt b k = c then 1 else 0) := by
  unfold cK
  rw [take_succ_getD (bsL b) 0 (by rw [bsL_len]; exact hk), List.count_append, List.count_singleton]
  by_cases h : byAt b k = c
  · rw [if_pos h, show (bsL b).getD k 0 = c from h, beq_self_eq_true, if_pos rfl]
  · rw [if_neg h, show ((bsL b).getD k 0 == c) = false from beq_eq_false_iff_ne.2 h]; rfl
theorem cK_hit {c : UInt8} {b : ByteArray} {k : Nat} (hk : k < b.size) (h : byAt b k = c) : cK c b (k + 1) = cK c b k + 1 := by rw [cK_succ c b hk, if_pos h]
theorem cK_miss {c : UInt8} {b : ByteArray} {k : Nat} (hk : k < b.size) (h : byAt b k ≠ c) : cK c b (k + 1) = cK c b k := by rw [cK_succ c b hk, if_neg h]; rfl
theorem cK_all {c : UInt8} {b : ByteArray} {k : Nat} (hk : b.size ≤ k) : cK c b k = cA c b := by
  unfold cK cA
  rw [List.take_of_length_le (by rw [bsL_len]; exact hk)]
theorem cK_le (c : UInt8) (b : ByteArray) (k : Nat) : cK c b k ≤ k := by
  unfold cK
  exact Nat.le_trans List.count_le_length (by simp; omega)
theorem cA_le (c : UInt8) (b : ByteArray) : cA c b ≤ b.size := by
  rw [← cK_all (Nat.le_refl b.size)]; exact cK_le c b b.size
theorem cK_mono {c : UInt8} {b : ByteArray} {j k : Nat} (h : j ≤ k) : cK c b j ≤ cK c b k := by
  unfold cK
  exact (List.take_sublist_take_left h).count_le c
theorem u8_int {x : UInt8} {n : Nat} (hn : n < 256) : ((x.toNat : Int) = n) ↔ x = UInt8.ofNat n := by
  constructor
  · intro h
    have : x.toNat = n := by omega
    rw [← this]; exact (UInt8.ofNat_toNat).symm
  · intro h
    subst h
    rw [UInt8.toNat_ofNat_of_lt' hn]
theorem at_d {x : UInt8} (h : (x.toNat : Int) = 100) : x = 100 := (u8_int (n := 100) (by omega)).1 h
theorem at_f {x : UInt8} (h : (x.toNat : Int) = 102) : x = 102 := (u8_int (n := 102) (by omega)).1 h
theorem not_d {x : UInt8} (h : ¬ (x.toNat : Int) = 100) : x ≠ 100 := fun e => h ((u8_int (n := 100) (by omega)).2 e)
theorem not_f {x : UInt8} (h : ¬ (x.toNat : Int) = 102) : x ≠ 102 := fun e => h ((u8_int (n := 102) (by omega)).2 e)
theorem d_not_f {x : UInt8} (h : x = 100) : x ≠ 102 := by rw [h]; decide
theorem f_not_d {x : UInt8} (h : x = 102) : x ≠ 100 := by rw [h]; decide

/-! ### what a strip is -/
def inD (n : Nat) : Bool := decide ((1 : Int) ≤ n) && decide ((n : Int) ≤ 8)
def stripB (b : ByteArray) : Bool := decide (((cA 100 b : Nat) : Int) + (cA 102 b : Nat) = b.size) && inD (cA 100 b) && inD (cA 102 b)
theorem sum_le (b : ByteArray) (k : Nat) : cK 100 b k + cK 102 b k ≤ k := by
  induction k with
  | zero => simp [cK_zero]
  | succ k ih =>
    rcases Nat.lt_or_ge k b.size with h | h
    · rw [cK_succ _ _ h, cK_succ _ _ h]
      by_cases h1 : byAt b k = 100
      · rw [if_pos h1, if_neg (d_not_f h1)]; omega
      · rw [if_neg h1]; split <;> omega
    · rw [cK_all (show b.size ≤ k + 1 by omega), cK_all (show b.size ≤ k + 1 by omega), ← cK_all h, ← cK_all h]; omega
/-- a byte that is no step: no strip -/
theorem strip_bad {b : ByteArray} {i : Nat} (hi : i < b.size) (h1 : byAt b i ≠ 100) (h2 : byAt b i ≠ 102) : stripB b = false := by
  have key : ∀ k, i < k → k ≤ b.size → cK 100 b k + cK 102 b k < k := by
    intro k hk
    induction k with
    | zero => omega
    | succ k ih =>
      intro hb
      rw [cK_succ _ _ (show k < b.size by omega), cK_succ _ _ (show k < b.size by omega)]
      rcases Nat.lt_or_ge i k with h | h
      · have := ih h (by omega)
        by_cases e : byAt b k = 100
        · rw [if_pos e, if_neg (d_not_f e)]; omega
        · rw [if_neg e]; split <;> omega
      · obtain rfl : i = k := by omega
        rw [if_neg h1, if_neg h2]
        have := sum_le b i; omega
  have := key b.size hi (Nat.le_refl _)
  rw [cK_all (Nat.le_refl _), cK_all (Nat.le_refl _)] at this
  unfold stripB
  rw [decide_eq_false (by omega)]; rfl
theorem strip_sum {b : ByteArray} (h : cA 100 b + cA 102 b = b.size) : stripB b = (inD (cA 100 b) && inD (cA 102 b)) := by
  unfold stripB
  rw [decide_eq_true (by omega)]; rfl
structure Strip (b : ByteArray) : Prop where
  sum : cA 100 b + cA 102 b = b.size
  d1 : 1 ≤ cA 100 b
  d8 : cA 100 b ≤ 8
  f1 : 1 ≤ cA 102 b
  f8 : cA 102 b ≤ 8
theorem strip_iff {b : ByteArray} : stripB b = true ↔ Strip b := by
  constructor
  · intro h
    simp only [stripB, inD, Bool.and_eq_true, decide_eq_true_eq] at h
    exact ⟨by omega, by omega, by omega, by omega, by omega⟩
  · intro ⟨h1, h2, h3, h4, h5⟩
    simp only [stripB, inD, Bool.and_eq_true, decide_eq_true_eq]
    omega
theorem Strip.size {b : ByteArray} (h : Strip b) : 2 ≤ b.size ∧ b.size ≤ 16 := by
  have := h.1; have := h.2; have := h.3; have := h.4; have := h.5; omega
theorem Strip.byte {b : ByteArray} (h : Strip b) {i : Nat} (hi : i < b.size) : byAt b i = 100 ∨ byAt b i = 102 := by
  by_cases h1 : byAt b i = 100
  · exact .inl h1
  · by_cases h2 : byAt b i = 102
    · exact .inr h2
    · have := strip_bad hi h1 h2
      rw [strip_iff.2 h] at this; cases this
def downI (b : ByteArray) : Int := if stripB b = true then (cA 100 b : Nat) else 0
def forwI (b : ByteArray) : Int := if stripB b = true then (cA 102 b : Nat) else 0
def frameB (s t : ByteArray) : Bool := stripB s && stripB t && (decide (cA 100 s = cA 100 t) && decide (cA 102 s = cA 102 t))
structure Frame (s t : ByteArray) : Prop where
  s1 : Strip s
  s2 : Strip t
  d : cA 100 s = cA 100 t
  f : cA 102 s = cA 102 t
theorem frame_iff {s t : ByteArray} : frameB s t = true ↔ Frame s t := by
  constructor
  · intro h
    simp only [frameB, Bool.and_eq_true, decide_eq_true_eq] at h
    exact ⟨strip_iff.1 h.1.1, strip_iff.1 h.1.2, h.2.1, h.2.2⟩
  · intro ⟨h1, h2, h3, h4⟩
    simp only [frameB, Bool.and_eq_true, decide_eq_true_eq]
    exact ⟨⟨strip_iff.2 h1, strip_iff.2 h2⟩, h3, h4⟩
theorem frame_not {s t : ByteArray} (h : ¬ Frame s t) : frameB s t = false := by
  cases e : frameB s t with
  | false => rfl
  | true => exact absurd (frame_iff.1 e) h
theorem Frame.size {s t : ByteArray} (h : Frame s t) : s.size = t.size := by
  have := h.1.1; have := h.2.1; have := h.3; have := h.4; omega
theorem Frame.symm {s t : ByteArray} (h : Frame s t) : Frame t s := ⟨h.2, h.1, h.3.symm, h.4.symm⟩
theorem Frame.trans {s t u : ByteArray} (h : Frame s t) (g : Frame t u) : Frame s u := ⟨h.1, g.2, h.3.trans g.3, h.4.trans g.4⟩
theorem Frame.refl {s : ByteArray} (h : Strip s) : Frame s s := ⟨h, h, rfl, rfl⟩

/-! ### the lower and the upper of two strips -/
def sel (hi : Bool) (a b : Nat) : Nat := if hi = true then max a b else min a b
def mkB (l : List UInt8) : ByteArray := ⟨l.toArray⟩
theorem bsL_mkB (l : List UInt8) : bsL (mkB l) = l := by simp [bsL, mkB]
theorem mkB_size (l : List UInt8) : (mkB l).size = l.length := by simp [mkB, ByteArray.size]
theorem mkB_bsL (b : ByteArray) : mkB (bsL b) = b := by cases b; simp [mkB, bsL]
theorem mkB_snoc (l : List UInt8) (c : UInt8) : mkB l ++ ⟨#[c]⟩ = mkB (l ++ [c]) := by
  apply ByteArray.ext
  simp [mkB, ByteArray.data_append]
theorem bsL_inj {a b : ByteArray} (h : bsL a = bsL b) : a = b := by rw [← mkB_bsL a, ← mkB_bsL b, h]
def cur (hi : Bool) (s t : ByteArray) (k : Nat) : Nat := sel hi (cK 102 s k) (cK 102 t k)
def mixL (hi : Bool) (s t : ByteArray) (n : Nat) : List UInt8 := (List.range n).map fun k => if cur hi s t k < cur hi s t (k + 1) then 102 else 100
theorem mixL_len (hi : Bool) (s t : ByteArray) (n : Nat) : (mixL hi s t n).length = n := by simp [mixL]
theorem mixL_succ (hi : Bool) (s t : ByteArray) (n : Nat) : mixL hi s t (n + 1) = mixL hi s t n ++ [if cur hi s t n < cur hi s t (n + 1) then 102 else 100] := by
  simp [mixL, List.range_succ]
theorem mixL_up {hi : Bool} {s t : ByteArray} {n : Nat} (h : cur hi s t n < cur hi s t (n + 1)) : mkB (mixL hi s t n) ++ ⟨#[102]⟩ = mkB (mixL hi s t (n + 1)) := by
  rw [mkB_snoc, mixL_succ, if_pos h]
theorem mixL_dn {hi : Bool} {s t : ByteArray} {n : Nat} (h : ¬ cur hi s t n < cur hi s t (n + 1)) : mkB (mixL hi s t n) ++ ⟨#[100]⟩ = mkB (mixL hi s t (n + 1)) := by
  rw [mkB_snoc, mixL_succ, if_neg h]
def mixB (hi : Bool) (s t : ByteArray) : ByteArray := if frameB s t = true then mkB (mixL hi s t s.size) else ⟨#[]⟩
theorem mkB_nil : mkB [] = ⟨#[]⟩ := rfl
theorem cur_zero (hi : Bool) (s t : ByteArray) : cur hi s t 0 = 0 := by simp [cur, sel, cK_zero]
theorem step_1 (c : UInt8) (b : ByteArray) {k : Nat} (hk : k < b.size) : cK c b k ≤ cK c b (k + 1) ∧ cK c b (k + 1) ≤ cK c b k + 1 := by
  rw [cK_succ c b hk]; split <;> omega
theorem cur_step (hi : Bool) {s t : ByteArray} {k : Nat} (h1 : k < s.size) (h2 : k < t.size) : cur hi s t k ≤ cur hi s t (k + 1) ∧ cur hi s t (k + 1) ≤ cur hi s t k + 1 := by
  have := step_1 102 s h1
  have := step_1 102 t h2
  unfold cur sel
  cases hi <;> simp <;> omega
theorem cK_mkB (c : UInt8) (l : List UInt8) (k : Nat) : cK c (mkB l) k = (l.take k).count c := by rw [cK, bsL_mkB]
theorem mixL_take (hi : Bool) (s t : ByteArray) {n k : Nat} (h : k ≤ n) : (mixL hi s t n).take k = mixL hi s t k := by
  unfold mixL
  rw [← List.map_take, List.take_range, Nat.min_eq_left h]
theorem mixL_cnt (hi : Bool) {s t : ByteArray} : ∀ {n : Nat}, n ≤ s.size → n ≤ t.size → (mixL hi s t n).count 102 = cur hi s t n ∧ (mixL hi s t n).count 100 + cur hi s t n = n
  | 0, _, _ => by simp [mixL, cur_zero]
  | n + 1, h1, h2 => by
    have ih := mixL_cnt hi (n := n) (by omega : n ≤ s.size) (by omega : n ≤ t.size)
    have hs := cur_step hi (show n < s.size by omega) (show n < t.size by omega)
    rw [mixL_succ, List.count_append, List.count_append]
    by_cases h : cur hi s t n < cur hi s t (n + 1)
    · rw [if_pos h]
      have e1 : List.count (102 : UInt8) [102] = 1 := by decide
      have e2 : List.count (100 : UInt8) [102] = 0 := by decide
      omega
    · rw [if_neg h]
      have e1 : List.count (102 : UInt8) [100] = 0 := by decide
      have e2 : List.count (100 : UInt8) [100] = 1 := by decide
      omega
theorem mix_get {hi : Bool} {s t : ByteArray} (h : Frame s t) : mixB hi s t = mkB (mixL hi s t s.size) := by rw [mixB, if_pos (frame_iff.2 h)]
theorem mix_cK {hi : Bool} {s t : ByteArray} (h : Frame s t) {k : Nat} (hk : k ≤ s.size) : cK 102 (mixB hi s t) k = sel hi (cK 102 s k) (cK 102 t k) := by
  rw [mix_get h, cK_mkB, mixL_take hi s t hk]
  exact (mixL_cnt hi hk (by rw [← h.size]; exact hk)).1
theorem mix_size {hi : Bool} {s t : ByteArray} (h : Frame s t) : (mixB hi s t).size = s.size := by rw [mix_get h, mkB_size, mixL_len]
theorem cA_mkB (c : UInt8) (l : List UInt8) : cA c (mkB l) = l.count c := by rw [cA, bsL_mkB]
theorem mix_frame {hi : Bool} {s t : ByteArray} (h : Frame s t) : Frame (mixB hi s t) s := by
  have e := mixL_cnt hi (s := s) (t := t) (n := s.size) (Nat.le_refl _) (by rw [← h.size]; exact Nat.le_refl _)
  have e2 : cur hi s t s.size = cA 102 s := by
    unfold cur
    rw [cK_all (Nat.le_refl _), cK_all (b := t) (by rw [h.size]; exact Nat.le_refl _), ← h.4]
    unfold sel; split <;> omega
  have hd : cA 100 (mixB hi s t) = cA 100 s := by
    rw [mix_get h, cA_mkB]; have := h.1.1; omega
  have hf : cA 102 (mixB hi s t) = cA 102 s := by
    rw [mix_get h, cA_mkB]; omega
  have hz := mix_size (hi := hi) h
  have := h.1
  exact ⟨⟨by rw [hd, hf, hz]; exact this.1, by rw [hd]; exact this.2, by rw [hd]; exact this.3, by rw [hf]; exact this.4, by rw [hf]; exact this.5⟩, this, hd, hf⟩
/-- strips are their forward steps -/
theorem strip_ext {a b : ByteArray} (h : Frame a b) (hk : ∀ k, k ≤ a.size → cK 102 a k = cK 102 b k) : a = b := by
  apply bsL_inj
  apply List.ext_getElem
  · rw [bsL_len, bsL_len]; exact h.size
  · intro k h1 h2
    rw [bsL_len] at h1 h2
    have e1 := cK_succ 102 a h1
    have e2 := cK_succ 102 b h2
    have e3 := hk k (by omega)
    have e4 := hk (k + 1) (by omega)
    have g1 : (bsL a)[k]'(by rw [bsL_len]; exact h1) = byAt a k := by simp [byAt, List.getD, bsL, h1]
    have g2 : (bsL b)[k]'(by rw [bsL_len]; exact h2) = byAt b k := by simp [byAt, List.getD, bsL, h2]
    rw [g1, g2]
    rcases h.1.byte h1 with x1 | x1 <;> rcases h.2.byte h2 with x2 | x2
    · rw [x1, x2]
    · rw [x1] at e1; rw [x2] at e2; simp at e1 e2; omega
    · rw [x1] at e1; rw [x2] at e2; simp at e1 e2; omega
    · rw [x1, x2]
def lowB (s t : ByteArray) : ByteArray := mixB false s t
def uppB (s t : ByteArray) : ByteArray := mixB true s t
def emp : ByteArray := ⟨#[]⟩
def midB (r s t : ByteArray) : ByteArray := if frameB r s = true ∧ frameB s t = true then uppB (uppB (lowB r s) (lowB s t)) (lowB r t) else emp
def midI (r s t : ByteArray) : ByteArray := if frameB r s = true ∧ frameB s t = true then uppB (lowB r s) (lowB (uppB r s) t) else emp
theorem mid_eq (r s t : ByteArray) : midI r s t = midB r s t := by
  unfold midI midB
  split
  · rename_i h
    have h1 := frame_iff.1 h.1
    have h2 := frame_iff.1 h.2
    have h3 := h1.trans h2
    unfold lowB uppB
    have a1 : Frame (mixB false r s) r := mix_frame h1
    have a2 : Frame (mixB false s t) s := mix_frame h2
    have a3 : Frame (mixB false r t) r := mix_frame h3
    have a4 : Frame (mixB true r s) r := mix_frame h1
    have a5 : Frame (mixB true r s) t := a4.trans h3
    have a6 : Frame (mixB false (mixB true r s) t) (mixB true r s) := mix_frame a5
    have a7 : Frame (mixB false r s) (mixB false (mixB true r s) t) := a1.trans (a6.trans a4).symm
    have a8 : Frame (mixB true (mixB false r s) (mixB false (mixB true r s) t)) (mixB false r s) := mix_frame a7
    have b1 : Frame (mixB false r s) (mixB false s t) := a1.trans (a2.trans h1.symm).symm
    have b2 : Frame (mixB true (mixB false r s) (mixB false s t)) (mixB false r s) := mix_frame b1
    have b3 : Frame (mixB true (mixB false r s) (mixB false s t)) (mixB false r t) := (b2.trans a1).trans a3.symm
    have b4 : Frame (mixB true (mixB true (mixB false r s) (mixB false s t)) (mixB false r t)) (mixB true (mixB false r s) (mixB false s t)) := mix_frame b3
    refine strip_ext (a8.trans (b4.trans b2).symm) fun k hk => ?_
    have z0 := mix_size (hi := true) a7
    have z1 := a1.size
    have z2 := h1.size
    have z3 := a4.size
    have z4 := b2.size
    rw [mix_cK a7 (by omega), mix_cK h1 (by omega), mix_cK a5 (by omega), mix_cK h1 (by omega), mix_cK b3 (by omega), mix_cK b1 (by omega), mix_cK h1 (by omega), mix_cK h2 (by omega), mix_cK h3 (by omega)]
    simp only [sel, if_true, Bool.false_eq_true, if_false]
    omega
  · rfl

/-! ### above -/
def abv (s t : ByteArray) (n : Nat) : Bool := (List.range n).all fun k => decide (cK 102 t k ≤ cK 102 s k)
theorem abv_succ (s t : ByteArray) (n : Nat) : abv s t (n + 1) = (abv s t n && decide (cK 102 t n ≤ cK 102 s n)) := by simp [abv, List.range_succ]
theorem abv_iff {s t : ByteArray} {n : Nat} : abv s t n = true ↔ ∀ k, k < n → cK 102 t k ≤ cK 102 s k := by simp [abv]
theorem abv_bad {s t : ByteArray} {n k : Nat} (hk : k < n) (h : cK 102 s k < cK 102 t k) : abv s t n = false := by
  cases e : abv s t n with
  | false => rfl
  | true => have := abv_iff.1 e k hk; omega
def aboveB (s t : ByteArray) : Bool := frameB s t && abv s t (s.size + 1)
theorem above_frame {s t : ByteArray} (h : aboveB s t = true) : Frame s t := by
  simp only [aboveB, Bool.and_eq_true] at h
  exact frame_iff.1 h.1
theorem above_at {s t : ByteArray} (h : aboveB s t = true) {k : Nat} (hk : k ≤ s.size) : cK 102 t k ≤ cK 102 s k := by
  simp only [aboveB, Bool.and_eq_true] at h
  exact abv_iff.1 h.2 k (by omega)
theorem above_of {s t : ByteArray} (h : Frame s t) (g : ∀ k, k ≤ s.size → cK 102 t k ≤ cK 102 s k) : aboveB s t = true := by
  simp only [aboveB, Bool.and_eq_true]
  exact ⟨frame_iff.2 h, abv_iff.2 fun k hk => g k (by omega)⟩
theorem above_no {s t : ByteArray} (h : frameB s t = false) : aboveB s t = false := by rw [aboveB, h]; rfl
theorem above_fr {s t : ByteArray} (h : Frame s t) : aboveB s t = abv s t (s.size + 1) := by rw [aboveB, frame_iff.2 h]; rfl
/-- the last one says nothing new: both have taken all their steps -/
theorem above_fr' {s t : ByteArray} (h : Frame s t) : aboveB s t = abv s t s.size := by
  rw [above_fr h, abv_succ, cK_all (Nat.le_refl _), cK_all (b := t) (by rw [h.size]; exact Nat.le_refl _), h.4, decide_eq_true (Nat.le_refl _), Bool.and_true]
def nearB (l s h : ByteArray) : ByteArray := if (frameB l s = true ∧ aboveB h l = true) then lowB (uppB s l) h else emp
end Go.Proofs.YtbpcbemnbelajaaDoor
