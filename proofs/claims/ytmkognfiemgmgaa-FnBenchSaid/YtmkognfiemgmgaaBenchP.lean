/- Jobs on the bench: laws of the earliest and latest beginnings, and of work by some workers. Plain Lean; no program in sight. -/
import Derived.Test.YtmkognfiemgmgaaWorkP
namespace Go.Proofs.Ytmkognfiemgmgaa
set_option maxRecDepth 20000
set_option linter.unusedSimpArgs false
set_option linter.unusedVariables false
open Go Go.Ab

theorem rev_ind {α : Type} {p : List α → Prop} (h0 : p []) (h1 : ∀ l a, p l → p (l ++ [a])) (l : List α) : p l := by
  have key : ∀ m : List α, p m.reverse := by
    intro m
    induction m with
    | nil => exact h0
    | cons a m ih => rw [List.reverse_cons]; exact h1 _ _ ih
  have := key l.reverse
  rwa [List.reverse_reverse] at this

/-! ### the earliest beginnings -/
def eAt (js : List Jb) (k : Nat) : Int := (earl js).getD k 0
theorem earlGo_getD (js : List Jb) {k m : Nat} (hk : k < m) : (earlGo js m).getD k 0 = (aft js k).foldl (earlM js (earlGo js k)) 0 := by
  simp only [List.getD, earlGo_get js hk, Option.getD_some]
theorem eAt_eq {js : List Jb} (hv : jobsB js = true) {k : Nat} (hk : k < js.length) : eAt js k = (aft js k).foldl (earlM js (earlGo js k)) 0 := by
  rw [eAt, earl, if_pos hv, earlGo_getD js hk]
theorem earlGo_eAt {js : List Jb} (hv : jobsB js = true) {k i : Nat} (hk : k ≤ js.length) (hi : i < k) : (earlGo js k).getD i 0 = eAt js i := by
  rw [eAt_eq hv (by omega), earlGo_getD js hi]
theorem earlM_ge {js : List Jb} {out : List Int} : ∀ (l : List Int) (n : Int), n ≤ l.foldl (earlM js out) n ∧ ∀ a ∈ l, out.getD a.toNat 0 + hrs js a.toNat ≤ l.foldl (earlM js out) n
  | [], n => ⟨Int.le_refl _, fun a ha => (by cases ha)⟩
  | b :: l, n => by
    obtain ⟨h1, h2⟩ := earlM_ge (js := js) (out := out) l (earlM js out n b)
    rw [List.foldl_cons]
    have h3 : n ≤ earlM js out n b := by unfold earlM; omega
    have h4 : out.getD b.toNat 0 + hrs js b.toNat ≤ earlM js out n b := by unfold earlM; omega
    refine ⟨by omega, fun a ha => ?_⟩
    rcases List.mem_cons.1 ha with rfl | ha
    · omega
    · exact h2 a ha
theorem e_nonneg {js : List Jb} (hv : jobsB js = true) {k : Nat} (hk : k < js.length) : 0 ≤ eAt js k := by
  rw [eAt_eq hv hk]; exact (earlM_ge _ _).1
theorem e_pred {js : List Jb} (hv : jobsB js = true) {k : Nat} (hk : k < js.length) {a : Int} (ha : a ∈ aft js k) : eAt js a.toNat + hrs js a.toNat ≤ eAt js k := by
  have h1 := jobsB_mem hv hk ha
  have h2 := (earlM_ge (js := js) (out := earlGo js k) (aft js k) 0).2 a ha
  rw [earlGo_eAt hv (by omega) (by omega)] at h2
  rw [eAt_eq hv hk]; exact h2
theorem e_least {js : List Jb} (hv : jobsB js = true) {k : Nat} (hk : k < js.length) {b : Int} (hb : 0 ≤ b) (h : ∀ a ∈ aft js k, eAt js a.toNat + hrs js a.toNat ≤ b) : eAt js k ≤ b := by
  rw [eAt_eq hv hk]
  refine (earlM_bound _ 0 (Int.le_refl _) hb fun a ha => ?_).2
  have h1 := jobsB_mem hv hk ha
  rw [earlGo_eAt hv (by omega) (by omega)]
  exact h a ha
theorem needGo_ge {js : List Jb} {b : Int} : ∀ n k, k < n → eAt js k + hrs js k ≤ needGo js b n
  | 0, k, h => by omega
  | n + 1, k, h => by
    rw [needGo_succ]
    unfold needM
    rcases Nat.lt_or_ge k n with h' | h'
    · have := needGo_ge (js := js) (b := b) n k h'; omega
    · obtain rfl : k = n := by omega
      show eAt js k + hrs js k ≤ max _ (eAt js k + hrs js k)
      omega
theorem needGo_att {js : List Jb} {b : Int} : ∀ n, needGo js b n = b ∨ ∃ k, k < n ∧ needGo js b n = eAt js k + hrs js k
  | 0 => .inl rfl
  | n + 1 => by
    rw [needGo_succ]
    have hd : needM js (earl js) (needGo js b n) n = max (needGo js b n) (eAt js n + hrs js n) := rfl
    rw [hd]
    rcases Int.le_total (needGo js b n) (eAt js n + hrs js n) with h | h
    · exact .inr ⟨n, by omega, by omega⟩
    · rcases needGo_att (js := js) (b := b) n with h1 | ⟨k, h1, h2⟩
      · exact .inl (by omega)
      · exact .inr ⟨k, by omega, by omega⟩
theorem need_ge {js : List Jb} (hv : jobsB js = true) {k : Nat} (hk : k < js.length) : eAt js k + hrs js k ≤ need js := by
  rw [need_of hv]; exact needGo_ge _ _ hk
theorem need_att {js : List Jb} (hv : jobsB js = true) : ∃ k, k < js.length ∧ need js = eAt js k + hrs js k := by
  have h1 := need_bound hv
  rcases needGo_att (js := js) (b := -1) js.length with h | h
  · rw [need_of hv] at h1; omega
  · rw [need_of hv]; exact h

/-! ### the latest beginnings -/
def lAt (js : List Jb) (k : Nat) : Int := (late js).getD k 0
theorem getD_set2 {o : List Int} {i k : Nat} {v : Int} : (o.set i v).getD k 0 = if i = k ∧ k < o.length then v else o.getD k 0 := by
  simp only [List.getD, List.getElem?_set]
  by_cases h : i = k
  · subst h
    by_cases h2 : i < o.length
    · simp [h2]
    · simp [h2]
  · simp [h]
theorem lateM_spec {js : List Jb} {k : Nat} : ∀ (l : List Int) (o : List Int), (∀ a ∈ l, 0 ≤ a ∧ a < k) → o.length = js.length → k < js.length →
    (∀ i, (l.foldl (lateM js k) o).getD i 0 ≤ o.getD i 0) ∧ (∀ i, k ≤ i → (l.foldl (lateM js k) o).getD i 0 = o.getD i 0) ∧
    (∀ a ∈ l, (l.foldl (lateM js k) o).getD a.toNat 0 ≤ o.getD k 0 - hrs js a.toNat) ∧
    (∀ f : Nat → Int, (∀ i, i < js.length → f i ≤ o.getD i 0) → (∀ a ∈ l, f a.toNat + hrs js a.toNat ≤ o.getD k 0) → ∀ i, i < js.length → f i ≤ (l.foldl (lateM js k) o).getD i 0)
  | [], o, _, _, _ => ⟨fun i => Int.le_refl _, fun i _ => rfl, fun a ha => (by cases ha), fun f h _ => h⟩
  | b :: l, o, hl, ho, hk => by
    have hb := hl b List.mem_cons_self
    have hlen : (lateM js k o b).length = js.length := by simp [lateM, ho]
    have hget : ∀ i, (lateM js k o b).getD i 0 = if b.toNat = i then min (o.getD b.toNat 0) (o.getD k 0 - hrs js b.toNat) else o.getD i 0 := fun i => by
      unfold lateM
      rw [getD_set2]
      by_cases h : b.toNat = i
      · rw [if_pos ⟨h, by omega⟩, if_pos h]
      · rw [if_neg (fun hh => h hh.1), if_neg h]
    have hkk : (lateM js k o b).getD k 0 = o.getD k 0 := by rw [hget, if_neg (by omega)]
    obtain ⟨h1, h2, h3, h4⟩ := lateM_spec (js := js) l (lateM js k o b) (fun a ha => hl a (List.mem_cons_of_mem _ ha)) hlen hk
    rw [List.foldl_cons]
    refine ⟨fun i => ?_, fun i hi => ?_, fun a ha => ?_, fun f hf hfl i hi => ?_⟩
    · have := h1 i
      rw [hget] at this
      split at this
      · rename_i h; rw [h] at this; omega
      · exact this
    · rw [h2 i hi, hget, if_neg (by omega)]
    · rcases List.mem_cons.1 ha with rfl | ha
      · have := h1 a.toNat
        rw [hget, if_pos rfl] at this
        omega
      · have := h3 a ha
        rw [hkk] at this; exact this
    · refine h4 f (fun j hj => ?_) (fun a ha => ?_) i hi
      · rw [hget]
        split
        · rename_i h
          have e1 := hf j hj
          have e2 := hfl b List.mem_cons_self
          rw [h] at e2 ⊢
          omega
        · exact hf j hj
      · rw [hkk]; exact hfl a (List.mem_cons_of_mem _ ha)
theorem late0_getD (js : List Jb) {n k : Nat} (hk : k < n) : (late0 js n).getD k 0 = need js - hrs js k := by
  simp [late0, List.getD, hk]
theorem lateGo_spec {js : List Jb} (hv : jobsB js = true) : ∀ c, c ≤ js.length →
    (∀ i, i < js.length → (lateGo js c).getD i 0 ≤ need js - hrs js i) ∧ (∀ i, i < js.length → eAt js i ≤ (lateGo js c).getD i 0) ∧
    (∀ k, js.length - c ≤ k → k < js.length → ∀ a ∈ aft js k, (lateGo js c).getD a.toNat 0 + hrs js a.toNat ≤ (lateGo js c).getD k 0)
  | 0, _ => by
    refine ⟨fun i hi => ?_, fun i hi => ?_, fun k h1 h2 => by omega⟩
    · rw [lateGo, late0_getD js hi]; exact Int.le_refl _
    · rw [lateGo, late0_getD js hi]
      have := need_ge hv hi
      omega
  | c + 1, hc => by
    obtain ⟨h1, h2, h3⟩ := lateGo_spec hv c (by omega)
    have hk : js.length - (c + 1) < js.length := by omega
    generalize hK : js.length - (c + 1) = k at hk
    obtain ⟨g1, g2, g3, g4⟩ := lateM_spec (js := js) (k := k) (aft js k) (lateGo js c) (fun a ha => jobsB_mem hv hk ha) (lateGo_len js c) hk
    have hg : lateGo js (c + 1) = (aft js k).foldl (lateM js k) (lateGo js c) := by rw [lateGo, lateS, hK]
    rw [hg]
    refine ⟨fun i hi => ?_, fun i hi => ?_, fun k' e1 e2 a ha => ?_⟩
    · have := g1 i; have := h1 i hi; omega
    · refine g4 (eAt js) h2 (fun a ha => ?_) i hi
      have := e_pred hv hk ha
      have := h2 k hk
      omega
    · rcases Nat.lt_or_ge k k' with h | h
      · rw [g2 k' (by omega)]
        have := h3 k' (by omega) e2 a ha
        have := g1 a.toNat
        omega
      · obtain rfl : k' = k := by omega
        rw [g2 k' (Nat.le_refl _)]
        have := g3 a ha
        omega
theorem late_of {js : List Jb} (hv : jobsB js = true) : late js = lateGo js js.length := if_pos hv
theorem l_need {js : List Jb} (hv : jobsB js = true) {k : Nat} (hk : k < js.length) : lAt js k + hrs js k ≤ need js := by
  have := (lateGo_spec hv js.length (Nat.le_refl _)).1 k hk
  rw [lAt, late_of hv]; omega
theorem l_ge {js : List Jb} (hv : jobsB js = true) {k : Nat} (hk : k < js.length) : eAt js k ≤ lAt js k := by
  have := (lateGo_spec hv js.length (Nat.le_refl _)).2.1 k hk
  rw [lAt, late_of hv]; exact this
theorem l_pred {js : List Jb} (hv : jobsB js = true) {k : Nat} (hk : k < js.length) {a : Int} (ha : a ∈ aft js k) : lAt js a.toNat + hrs js a.toNat ≤ lAt js k := by
  have := (lateGo_spec hv js.length (Nat.le_refl _)).2.2 k (by omega) hk a ha
  rw [lAt, lAt, late_of hv]; exact this
theorem crit_some {js : List Jb} (hv : jobsB js = true) : ∃ k, k < js.length ∧ eAt js k = lAt js k := by
  obtain ⟨k, hk, hn⟩ := need_att hv
  have h1 := l_need hv hk
  have h2 := l_ge hv hk
  exact ⟨k, hk, by omega⟩

/-! ### sums -/
def sumR (f : Nat → Int) (n : Nat) : Int := ((List.range n).map f).sum
theorem sumR_zero (f : Nat → Int) : sumR f 0 = 0 := rfl
theorem sumR_succ (f : Nat → Int) (n : Nat) : sumR f (n + 1) = sumR f n + f n := by simp [sumR, List.range_succ, List.sum_append]
theorem sumR_add {f g p : Nat → Int} : ∀ n, (∀ k, k < n → p k = f k + g k) → sumR p n = sumR f n + sumR g n
  | 0, _ => rfl
  | n + 1, h => by
    rw [sumR_succ, sumR_succ, sumR_succ, sumR_add n fun k hk => h k (by omega), h n (by omega)]; omega
theorem sumR_congr {f g : Nat → Int} : ∀ n, (∀ k, k < n → f k = g k) → sumR f n = sumR g n
  | 0, _ => rfl
  | n + 1, h => by rw [sumR_succ, sumR_succ, sumR_congr n fun k hk => h k (by omega), h n (by omega)]
theorem countP_sumR (p : Int → Bool) : ∀ (l : List Int), ((l.countP p : Nat) : Int) = sumR (fun k => if p (l.getD k 0) = true then 1 else 0) l.length := by
  intro l
  induction l using rev_ind with
  | h0 => rfl
  | h1 l a ih =>
    rw [List.length_append, List.length_singleton, sumR_succ, List.countP_append]
    have h1 : sumR (fun k => if p ((l ++ [a]).getD k 0) = true then 1 else 0) l.length = sumR (fun k => if p (l.getD k 0) = true then 1 else 0) l.length :=
      sumR_congr _ fun k hk => by
        have e : (l ++ [a]).getD k 0 = l.getD k 0 := by simp [List.getD, List.getElem?_append_left hk]
        show (if p ((l ++ [a]).getD k 0) = true then (1 : Int) else 0) = _
        rw [e]
    rw [h1, ← ih]
    simp only [List.getD, List.getElem?_append_right (Nat.le_refl _), Nat.sub_self, List.getElem?_cons_zero, Option.getD_some, List.countP_singleton]
    split <;> simp

/-! ### one pass -/
structure Passed (js : List Jb) (w : Nat) (t : Int) (ends ends' : List Int) (n : Nat) (b : Nat) : Prop where
  len : ends'.length = js.length
  ahead : ∀ k, n ≤ k → ends'.getD k 0 = ends.getD k 0
  each : ∀ k, ends'.getD k 0 = ends.getD k 0 ∨ (k < n ∧ ends.getD k 0 = 0 ∧ ends'.getD k 0 = t + hrs js k ∧ ∀ a ∈ aft js k, 0 < ends.getD a.toNat 0 ∧ ends.getD a.toNat 0 ≤ t)
  busy : b = busyN ends' t
  le : b ≤ w
  all : b < w → ∀ k, k < n → readyB js ends t k = true → ends'.getD k 0 ≠ 0
theorem passed_go {js : List Jb} (hv : jobsB js = true) {w : Nat} {t : Int} (ht : 0 ≤ t) {ends : List Int} (hl : ends.length = js.length) (hb : busyN ends t ≤ w) :
    ∀ n, n ≤ js.length → Passed js w t ends (passGo js w t (ends, busyN ends t) n).1 n (passGo js w t (ends, busyN ends t) n).2
  | 0, _ => ⟨hl, fun k _ => rfl, fun k => .inl rfl, rfl, hb, fun _ k hk => by omega⟩
  | n + 1, hn => by
    have ih := passed_go hv ht hl hb n (by omega)
    rw [passGo_succ]
    generalize passGo js w t (ends, busyN ends t) n = s at ih
    have hh := jobsB_hrs hv (show n < js.length by omega)
    have old : ∀ i, 0 < s.1.getD i 0 → s.1.getD i 0 ≤ t → ends.getD i 0 = s.1.getD i 0 := fun i h1 h2 => by
      rcases ih.each i with h | ⟨hin, _, h, _⟩
      · exact h.symm
      · have := jobsB_hrs hv (show i < js.length by omega)
        omega
    by_cases hc : s.2 < w ∧ readyB js s.1 t n = true
    · rw [passS, if_pos hc]
      obtain ⟨h0, hp⟩ := ready_get hc.2
      have hg : ∀ i, (s.1.set n (t + hrs js n)).getD i 0 = if n = i then t + hrs js n else s.1.getD i 0 := fun i => by
        rw [getD_set2]
        by_cases h : n = i
        · rw [if_pos ⟨h, by rw [ih.len]; omega⟩, if_pos h]
        · rw [if_neg (fun hh => h hh.1), if_neg h]
      refine ⟨by simp [ih.len], fun k hk => ?_, fun k => ?_, ?_, hc.1, fun _ k hk hr => ?_⟩
      · show (s.1.set n (t + hrs js n)).getD k 0 = _
        rw [hg, if_neg (by omega)]; exact ih.ahead k (by omega)
      · show (s.1.set n (t + hrs js n)).getD k 0 = _ ∨ (_ ∧ _ ∧ (s.1.set n (t + hrs js n)).getD k 0 = _ ∧ _)
        rw [hg]
        by_cases h : n = k
        · subst h
          rw [if_pos rfl]
          have h00 := ih.ahead n (Nat.le_refl _)
          refine .inr ⟨by omega, by omega, rfl, fun a ha => ?_⟩
          obtain ⟨p1, p2⟩ := hp a ha
          rw [old _ p1 p2]; exact ⟨p1, p2⟩
        · rw [if_neg h]
          rcases ih.each k with h1 | ⟨h1, h2⟩
          · exact .inl h1
          · exact .inr ⟨by omega, h2⟩
      · show s.2 + 1 = busyN (s.1.set n (t + hrs js n)) t
        rw [busy_set (by rw [ih.len]; omega) h0 ht (by omega), ih.busy]
      · show (s.1.set n (t + hrs js n)).getD k 0 ≠ 0
        rw [hg]
        split
        · omega
        · exact ih.all hc.1 k (by omega) hr
    · rw [passS, if_neg hc]
      refine ⟨ih.len, fun k hk => ih.ahead k (by omega), fun k => ?_, ih.busy, ih.le, fun hlt k hk hr => ?_⟩
      · rcases ih.each k with h1 | ⟨h1, h2⟩
        · exact .inl h1
        · exact .inr ⟨by omega, h2⟩
      · rcases Nat.lt_or_ge k n with h | h
        · exact ih.all hlt k h hr
        · obtain rfl : k = n := by omega
          intro hz
          refine hc ⟨hlt, ?_⟩
          obtain ⟨r0, rp⟩ := ready_get hr
          simp only [readyB, hz, decide_true, Bool.true_and, List.all_eq_true, doneA, Bool.and_eq_true, decide_eq_true_eq]
          intro a ha
          obtain ⟨q1, q2⟩ := rp a ha
          rcases ih.each a.toNat with h1 | ⟨_, h1, _⟩
          · rw [h1]; exact ⟨q1, q2⟩
          · omega
theorem passed {js : List Jb} (hv : jobsB js = true) {w : Nat} {t : Int} (ht : 0 ≤ t) {ends : List Int} (hl : ends.length = js.length) (hb : busyN ends t ≤ w) : Passed js w t ends (pass js w t ends) js.length (busyN (pass js w t ends) t) := by
  have h := passed_go hv ht hl hb js.length (Nat.le_refl _)
  have hb' := h.busy
  unfold pass
  rw [hb'] at h
  exact h

/-! ### hour after hour -/
def st (js : List Jb) (w : Nat) : Nat → List Int
  | 0 => zeros js.length
  | t + 1 => pass js w t (st js w t)
/-- a state of the work at the hour t: what has begun -/
structure Inv (js : List Jb) (w : Nat) (t : Int) (ends : List Int) : Prop where
  len : ends.length = js.length
  each : ∀ k, k < js.length → ends.getD k 0 = 0 ∨ (hrs js k ≤ ends.getD k 0 ∧ ends.getD k 0 - hrs js k < t ∧ ∀ a ∈ aft js k, 0 < ends.getD a.toNat 0 ∧ ends.getD a.toNat 0 ≤ ends.getD k 0 - hrs js k)
  busy : busyN ends t ≤ w
theorem zeros_getD (n k : Nat) : (zeros n).getD k 0 = 0 := by
  unfold zeros
  by_cases h : k < n
  · simp [List.getD, h]
  · simp [List.getD, h]
theorem busy_mono (l : List Int) {t u : Int} (h : t ≤ u) : busyN l u ≤ busyN l t := by
  unfold busyN
  exact List.countP_mono_left fun x _ hx => by simp only [decide_eq_true_eq] at *; omega
theorem Inv.next {js : List Jb} (hv : jobsB js = true) {w : Nat} {t : Int} (ht : 0 ≤ t) {ends : List Int} (i : Inv js w t ends) : Inv js w (t + 1) (pass js w t ends) := by
  have p := passed hv ht i.len i.busy
  refine ⟨p.len, fun k hk => ?_, ?_⟩
  · have keep : ∀ j, 0 < ends.getD j 0 → (pass js w t ends).getD j 0 = ends.getD j 0 := fun j hj => by
      rcases p.each j with h | ⟨_, h, _⟩
      · exact h
      · omega
    rcases p.each k with h | ⟨_, h0, h1, h2⟩
    · rw [h]
      rcases i.each k hk with e | ⟨e1, e2, e3⟩
      · exact .inl e
      · refine .inr ⟨e1, by omega, fun a ha => ?_⟩
        obtain ⟨q1, q2⟩ := e3 a ha
        rw [keep _ q1]; exact ⟨q1, q2⟩
    · have := jobsB_hrs hv hk
      rw [h1]
      refine .inr ⟨by omega, by omega, fun a ha => ?_⟩
      obtain ⟨q1, q2⟩ := h2 a ha
      rw [keep _ q1]
      exact ⟨q1, by omega⟩
  · exact Nat.le_trans (busy_mono _ (by omega)) p.le
theorem st_inv {js : List Jb} (hv : jobsB js = true) (w : Nat) : ∀ t : Nat, Inv js w t (st js w t)
  | 0 => by
    refine ⟨by simp [st, zeros], fun k hk => .inl (zeros_getD _ _), ?_⟩
    rw [st]
    have : busyN (zeros js.length) ((0 : Nat) : Int) = 0 := by
      unfold busyN zeros
      rw [List.countP_replicate]
      simp
    omega
  | t + 1 => by
    have := (st_inv hv w t).next hv (by omega)
    rw [st]
    exact_mod_cast this
/-- how much of a job is done -/
def dn (js : List Jb) (ends : List Int) (t : Int) (k : Nat) : Int := if ends.getD k 0 = 0 then 0 else min (hrs js k) (t - (ends.getD k 0 - hrs js k))
def runs (ends : List Int) (t : Int) (k : Nat) : Int := if t < ends.getD k 0 then 1 else 0
theorem dn_bound {js : List Jb} (hv : jobsB js = true) {w : Nat} {t : Int} {ends : List Int} (i : Inv js w t ends) {k : Nat} (hk : k < js.length) : 0 ≤ dn js ends t k ∧ dn js ends t k ≤ hrs js k := by
  have := jobsB_hrs hv hk
  unfold dn
  rcases i.each k hk with e | ⟨e1, e2, e3⟩
  · rw [if_pos e]; omega
  · rw [if_neg (by omega)]; omega
theorem dn_next {js : List Jb} (hv : jobsB js = true) {w : Nat} {t : Int} (ht : 0 ≤ t) {ends : List Int} (i : Inv js w t ends) {k : Nat} (hk : k < js.length) : dn js (pass js w t ends) (t + 1) k = dn js ends t k + runs (pass js w t ends) t k := by
  have p := passed hv ht i.len i.busy
  have := jobsB_hrs hv hk
  unfold dn runs
  rcases p.each k with h | ⟨_, h0, h1, _⟩
  · rw [h]
    rcases i.each k hk with e | ⟨e1, e2, e3⟩
    · rw [if_pos e, if_pos e, if_neg (by omega)]; rfl
    · rw [if_neg (by omega), if_neg (by omega)]
      split <;> omega
  · rw [h1, if_neg (by omega), if_pos h0, if_pos (by omega)]; omega
def wk (js : List Jb) (w t : Nat) : Int := sumR (dn js (st js w t) t) js.length
theorem wk_zero (js : List Jb) (w : Nat) : wk js w 0 = 0 := by
  have : ∀ n, sumR (dn js (st js w 0) ((0 : Nat) : Int)) n = 0 := by
    intro n
    induction n with
    | zero => rfl
    | succ n ih =>
      rw [sumR_succ, ih]
      have : dn js (st js w 0) ((0 : Nat) : Int) n = 0 := by unfold dn; rw [st, zeros_getD, if_pos rfl]
      omega
  exact this _
theorem wk_succ {js : List Jb} (hv : jobsB js = true) (w t : Nat) : wk js w (t + 1) = wk js w t + busyN (st js w (t + 1)) t := by
  have i := st_inv hv w t
  have p := passed hv (show 0 ≤ (t : Int) by omega) i.len i.busy
  have h1 : sumR (dn js (st js w (t + 1)) ((t + 1 : Nat) : Int)) js.length = sumR (dn js (st js w t) t) js.length + sumR (runs (st js w (t + 1)) t) js.length :=
    sumR_add _ fun k hk => by
      have := dn_next hv (show 0 ≤ (t : Int) by omega) i hk
      rw [st]
      exact_mod_cast this
  rw [wk, h1, wk]
  congr 1
  have h2 := countP_sumR (fun e => decide ((t : Int) < e)) (st js w (t + 1))
  rw [(st_inv hv w (t + 1)).len] at h2
  unfold busyN
  rw [h2]
  exact sumR_congr _ fun k hk => by unfold runs; simp only [decide_eq_true_eq]
/-- somebody works while not all is done -/
theorem busy_pos {js : List Jb} (hv : jobsB js = true) {w : Nat} (hw : 1 ≤ w) {t : Nat} (h : ∃ k, k < js.length ∧ dn js (st js w t) t k < hrs js k) : 1 ≤ busyN (st js w (t + 1)) t := by
  have i := st_inv hv w t
  have p := passed hv (show 0 ≤ (t : Int) by omega) i.len i.busy
  rw [st]
  rcases Nat.eq_zero_or_pos (busyN (pass js w t (st js w t)) t) with hz | hp
  · exfalso
    have hle : ∀ k, k < js.length → (pass js w t (st js w t)).getD k 0 ≤ t := fun k hk => busy_zero hz (by rw [p.len]; exact hk)
    have hmin : ∀ n, n ≤ js.length → ∀ k, k < n → (st js w t).getD k 0 ≠ 0 := by
      intro n
      induction n with
      | zero => intro _ k hk; omega
      | succ n ih =>
        intro hn k hk hz0
        rcases Nat.lt_or_ge k n with h' | h'
        · exact ih (by omega) k h' hz0
        · obtain rfl : k = n := by omega
          have hr : readyB js (st js w t) t k = true := by
            simp only [readyB, hz0, decide_true, Bool.true_and, List.all_eq_true, doneA, Bool.and_eq_true, decide_eq_true_eq]
            intro a ha
            have h1 := jobsB_mem hv (show k < js.length by omega) ha
            have h2 := ih (by omega) a.toNat (by omega)
            have h3 := hle a.toNat (by omega)
            rcases i.each a.toNat (by omega) with e | ⟨e1, e2, _⟩
            · exact absurd e h2
            · have h4 := jobsB_hrs hv (show a.toNat < js.length by omega)
              rcases p.each a.toNat with e | ⟨_, e, _⟩
              · omega
              · exact absurd e h2
          have h5 := p.all (by omega) k (by omega) hr
          have h6 := hle k (by omega)
          have h7 := jobsB_hrs hv (show k < js.length by omega)
          rcases p.each k with e | ⟨_, _, e, _⟩
          · exact h5 (by rw [e]; exact hz0)
          · omega
    obtain ⟨k, hk, hd⟩ := h
    have h1 := hmin _ (Nat.le_refl _) k hk
    have h2 := hle k hk
    rcases p.each k with e | ⟨_, e, _⟩
    · unfold dn at hd
      rw [if_neg h1] at hd
      omega
    · exact h1 e
  · exact hp

/-- how many of the first t hours are of a kind -/
def cnt (g : Nat → Bool) : Nat → Nat
  | 0 => 0
  | t + 1 => cnt g t + (if g t = true then 1 else 0)
theorem cnt_low {js : List Jb} (hv : jobsB js = true) {w : Nat} {g : Nat → Bool} (hg : ∀ t, g t = true → busyN (st js w (t + 1)) t < w ∨ js.length ≤ w) :
    ∀ t k, k < js.length → dn js (st js w t) t k < hrs js k → (cnt g t : Int) ≤ lAt js k + dn js (st js w t) t k
  | 0, k, hk, _ => by
    have h1 := e_nonneg hv hk
    have h2 := l_ge hv hk
    have h3 := (dn_bound hv (st_inv hv w 0) hk).1
    show ((0 : Nat) : Int) ≤ _
    omega
  | t + 1, k, hk, hlt => by
    have i := st_inv hv w t
    have p := passed hv (show 0 ≤ (t : Int) by omega) i.len i.busy
    have hd : dn js (st js w (t + 1)) ((t + 1 : Nat) : Int) k = dn js (st js w t) t k + runs (st js w (t + 1)) t k := by
      have := dn_next hv (show 0 ≤ (t : Int) by omega) i hk
      rw [st]
      exact_mod_cast this
    have hr0 : 0 ≤ runs (st js w (t + 1)) t k := by unfold runs; split <;> omega
    rw [hd] at hlt ⊢
    have ih := cnt_low hv hg t k hk (by omega)
    rw [cnt]
    by_cases hgt : g t = true
    · rw [if_pos hgt]
      by_cases hr : (t : Int) < (st js w (t + 1)).getD k 0
      · have : runs (st js w (t + 1)) t k = 1 := if_pos hr
        omega
      · have hrz : runs (st js w (t + 1)) t k = 0 := if_neg hr
        have hh := jobsB_hrs hv hk
        -- it has not begun
        have hz : (st js w (t + 1)).getD k 0 = 0 := by
          rcases (st_inv hv w (t + 1)).each k hk with e | ⟨e1, e2, _⟩
          · exact e
          · exfalso
            have hdd : dn js (st js w (t + 1)) ((t + 1 : Nat) : Int) k = hrs js k := by
              unfold dn
              rw [if_neg (by omega)]
              omega
            omega
        have hz0 : (st js w t).getD k 0 = 0 := by
          rcases p.each k with e | ⟨_, e, _⟩
          · rw [← e]; exact hz
          · exact e
        have hfree : busyN (st js w (t + 1)) t < w := by
          rcases hg t hgt with h | h
          · exact h
          · have hl := (st_inv hv w (t + 1)).len
            have : busyN (st js w (t + 1)) t < (st js w (t + 1)).length := by
              unfold busyN
              rw [List.countP_eq_length_filter]
              refine Nat.lt_of_le_of_ne (List.length_filter_le _ _) fun he => ?_
              have hall := List.length_filter_eq_length_iff.1 he
              have hkl : k < (st js w (t + 1)).length := by omega
              have := hall _ (List.getElem_mem hkl)
              simp only [decide_eq_true_eq] at this
              have hg0 : (st js w (t + 1))[k] = 0 := by simpa [List.getD, hkl] using hz
              omega
            omega
        have hnr : readyB js (st js w t) t k = false := by
          cases hrb : readyB js (st js w t) t k with
          | false => rfl
          | true => exact absurd hz (p.all hfree k hk hrb)
        have hex : ∃ a ∈ aft js k, doneA (st js w t) t a = false := by
          simp only [readyB, hz0, decide_true, Bool.true_and, List.all_eq_false] at hnr
          obtain ⟨a, ha, hb⟩ := hnr
          exact ⟨a, ha, by simpa using hb⟩
        obtain ⟨a, ha, hda⟩ := hex
        have h1 := jobsB_mem hv hk ha
        have hal : a.toNat < js.length := by omega
        have hha := jobsB_hrs hv hal
        have hua : dn js (st js w t) t a.toNat < hrs js a.toNat := by
          simp only [doneA, Bool.and_eq_false_iff, decide_eq_false_iff_not] at hda
          unfold dn
          rcases i.each a.toNat hal with e | ⟨e1, e2, _⟩
          · rw [if_pos e]; omega
          · rw [if_neg (by omega)]
            rcases hda with h | h
            · omega
            · omega
        have iha := cnt_low hv hg t a.toNat hal hua
        have hlp := l_pred hv hk ha
        have hd0 := (dn_bound hv i hk).1
        have hcast : ((cnt g t + 1 : Nat) : Int) = (cnt g t : Int) + 1 := by omega
        omega
    · rw [if_neg hgt]
      have hcast : ((cnt g t + 0 : Nat) : Int) = (cnt g t : Int) := by omega
      omega

/-! ### the end -/
theorem st_stay {js : List Jb} (hv : jobsB js = true) {w T : Nat} (h : leftN (st js w T) = 0) : ∀ d, st js w (T + d) = st js w T
  | 0 => rfl
  | d + 1 => by
    have ih := st_stay hv h d
    rw [← Nat.add_assoc, st, ih]
    unfold pass
    rw [pass_none (.inr fun k hk => ?_) _ (Nat.le_refl _)]
    have hz := left_zero h (k := k) (by rw [(st_inv hv w T).len]; exact hk)
    unfold readyB
    rw [decide_eq_false hz, Bool.false_and]
theorem sim_st {js : List Jb} (hv : jobsB js = true) {w : Nat} (hw : 1 ≤ w) : ∀ (f t : Nat) {r : Int}, Good js t (st js w t) → sim js w f t (st js w t) = some r → ∃ T : Nat, leftN (st js w T) = 0 ∧ r = maxL (st js w T) ∧ (T : Int) ≤ r
  | 0, t, r, _, h => by simp [sim] at h
  | f + 1, t, r, g, h => by
    rw [sim] at h
    split at h
    · rename_i h0
      injection h with h
      exact ⟨t, h0, h.symm, by rw [← h]; exact g.now_le⟩
    · rename_i h0
      refine sim_st hv hw f (t + 1) ?_ (by rw [st]; exact_mod_cast h)
      have := g.next hv hw h0
      rw [st]
      exact_mod_cast this
/-- all that the law says of the work by some workers -/
structure Ended (js : List Jb) (w : Nat) (r : Int) : Prop where
  fill : oneBy js ≤ w * r
  long : r ≤ oneBy js
  nd : need js ≤ r
  idle : w * r ≤ oneBy js + (w - 1) * need js
  many : js.length ≤ w → r = need js
theorem ended {js : List Jb} (hv : jobsB js = true) {w : Nat} (hw : 1 ≤ w) {T : Nat} {r : Int} (h0 : leftN (st js w T) = 0) (hr : r = maxL (st js w T)) (hT : (T : Int) ≤ r) : Ended js w r := by
  obtain ⟨R, rfl⟩ : ∃ R : Nat, r = R := ⟨r.toNat, by omega⟩
  have hRT : T ≤ R := by omega
  have hst : st js w R = st js w T := by
    have := st_stay hv h0 (R - T)
    rw [show T + (R - T) = R by omega] at this
    exact this
  have iR := st_inv hv w R
  have fin : ∀ k, k < js.length → hrs js k ≤ (st js w R).getD k 0 ∧ (st js w R).getD k 0 ≤ R ∧ ∀ a ∈ aft js k, (st js w R).getD a.toNat 0 ≤ (st js w R).getD k 0 - hrs js k := fun k hk => by
    have hkl : k < (st js w T).length := by rw [(st_inv hv w T).len]; exact hk
    have hz := left_zero h0 hkl
    rw [← hst] at hz
    rcases iR.each k hk with e | ⟨e1, e2, e3⟩
    · exact absurd e hz
    · refine ⟨e1, ?_, fun a ha => (e3 a ha).2⟩
      rw [hr, hst]
      refine maxL_ge ?_
      have hg : (st js w T).getD k 0 = (st js w T)[k] := by simp [List.getD, hkl]
      rw [hg]; exact List.getElem_mem hkl
  have hone : wk js w R = oneBy js := by
    rw [wk, oneBy, if_pos hv]
    refine sumR_congr _ fun k hk => ?_
    obtain ⟨f1, f2, _⟩ := fin k hk
    have := jobsB_hrs hv hk
    unfold dn
    rw [if_neg (by omega)]; omega
  have hfill : ∀ t : Nat, wk js w t ≤ w * (t : Int) := by
    intro t
    induction t with
    | zero => rw [wk_zero]; simp
    | succ t ih =>
      rw [wk_succ hv]
      have i := st_inv hv w t
      have p := passed hv (show 0 ≤ (t : Int) by omega) i.len i.busy
      have hle := p.le
      replace hle : busyN (st js w (t + 1)) t ≤ w := by have := p.le; rw [← st] at this; exact this
      have : (w : Int) * ((t + 1 : Nat) : Int) = w * (t : Int) + w := by
        rw [show ((t + 1 : Nat) : Int) = (t : Int) + 1 by omega, Int.mul_add, Int.mul_one]
      omega
  have open_ : ∀ t : Nat, t < R → ∃ k, k < js.length ∧ dn js (st js w t) t k < hrs js k := by
    intro t ht
    refine Decidable.byContradiction fun hno => ?_
    have hall : ∀ k, k < js.length → hrs js k ≤ dn js (st js w t) t k := fun k hk => Decidable.byContradiction fun hc => hno ⟨k, hk, by omega⟩
    have hle : ∀ k, k < js.length → (st js w t).getD k 0 ≠ 0 ∧ (st js w t).getD k 0 ≤ t := fun k hk => by
      have h1 := hall k hk
      have h2 := jobsB_hrs hv hk
      unfold dn at h1
      by_cases hz : (st js w t).getD k 0 = 0
      · rw [if_pos hz] at h1; omega
      · rw [if_neg hz] at h1; exact ⟨hz, by omega⟩
    have hl0 : leftN (st js w t) = 0 := by
      unfold leftN
      rw [List.countP_eq_zero]
      intro x hx
      obtain ⟨k, hk, rfl⟩ := List.getElem_of_mem hx
      have hkj : k < js.length := by rw [← (st_inv hv w t).len]; exact hk
      have := (hle k hkj).1
      simpa [List.getD, hk] using this
    have hsame : st js w R = st js w t := by
      have := st_stay hv hl0 (R - t)
      rw [show t + (R - t) = R by omega] at this
      exact this
    have : maxL (st js w T) ≤ t := by
      rw [← hst, hsame]
      refine maxL_le (by omega) fun x hx => ?_
      obtain ⟨k, hk, rfl⟩ := List.getElem_of_mem hx
      have hkj : k < js.length := by rw [← (st_inv hv w t).len]; exact hk
      have := (hle k hkj).2
      simpa [List.getD, hk] using this
    omega
  have hlong : ∀ t : Nat, t ≤ R → (t : Int) ≤ wk js w t := by
    intro t
    induction t with
    | zero => intro _; rw [wk_zero]; omega
    | succ t ih =>
      intro ht
      have h1 := ih (by omega)
      have h2 := busy_pos hv hw (open_ t (by omega))
      rw [wk_succ hv]; omega
  have hcnt : ∀ (g : Nat → Bool), (∀ t, g t = true → busyN (st js w (t + 1)) t < w ∨ js.length ≤ w) → ∀ t : Nat, t ≤ R → (cnt g t : Int) ≤ need js := by
    intro g hg t
    have hnb := need_bound hv
    cases t with
    | zero => intro _; show ((0 : Nat) : Int) ≤ _; omega
    | succ t =>
      intro ht
      obtain ⟨k, hk, hd⟩ := open_ t (by omega)
      have h1 := cnt_low hv hg t k hk hd
      have h2 := l_need hv hk
      have h3 : cnt g (t + 1) ≤ cnt g t + 1 := by rw [cnt]; split <;> omega
      omega
  have hidle : ∀ t : Nat, t ≤ R → (w : Int) * t ≤ wk js w t + (w - 1) * (cnt (fun t => decide (busyN (st js w (t + 1)) t < w)) t : Int) := by
    intro t
    induction t with
    | zero => intro _; rw [wk_zero]; simp [cnt]
    | succ t ih =>
      intro ht
      have h1 := ih (by omega)
      have h2 := busy_pos hv hw (open_ t (by omega))
      have i := st_inv hv w t
      have p := passed hv (show 0 ≤ (t : Int) by omega) i.len i.busy
      have hle := p.le
      replace hle : busyN (st js w (t + 1)) t ≤ w := by have := p.le; rw [← st] at this; exact this
      have e1 : (w : Int) * ((t + 1 : Nat) : Int) = w * (t : Int) + w := by
        rw [show ((t + 1 : Nat) : Int) = (t : Int) + 1 by omega, Int.mul_add, Int.mul_one]
      rw [wk_succ hv, cnt, e1]
      by_cases hb : busyN (st js w (t + 1)) t < w
      · rw [if_pos (by simpa using hb)]
        generalize cnt (fun t => decide (busyN (st js w (t + 1)) t < w)) t = c at *
        have e2 : ((w : Int) - 1) * ((c + 1 : Nat) : Int) = (w - 1) * (c : Int) + (w - 1) := by
          rw [show ((c + 1 : Nat) : Int) = (c : Int) + 1 by omega, Int.mul_add, Int.mul_one]
        omega
      · rw [if_neg (by simpa using hb)]
        generalize cnt (fun t => decide (busyN (st js w (t + 1)) t < w)) t = c at *
        have e2 : ((w : Int) - 1) * ((c + 0 : Nat) : Int) = (w - 1) * (c : Int) := by rw [Nat.add_zero]
        omega
  have hneed : need js ≤ R := by
    have key : ∀ n, n ≤ js.length → ∀ k, k < n → eAt js k + hrs js k ≤ (st js w R).getD k 0 := by
      intro n
      induction n with
      | zero => intro _ k hk; omega
      | succ n ih =>
        intro hn k hk
        have hkl : k < js.length := by omega
        obtain ⟨f1, f2, f3⟩ := fin k hkl
        have := e_least hv hkl (b := (st js w R).getD k 0 - hrs js k) (by omega) fun a ha => by
          have h1 := jobsB_mem hv hkl ha
          have h2 := ih (by omega) a.toNat (by omega)
          have h3 := f3 a ha
          omega
        omega
    obtain ⟨k, hk, hn⟩ := need_att hv
    have h1 := key _ (Nat.le_refl _) k hk
    have h2 := (fin k hk).2.1
    omega
  refine ⟨?_, ?_, hneed, ?_, fun hm => ?_⟩
  · have := hfill R; rw [hone] at this; exact this
  · have := hlong R (Nat.le_refl _); rw [hone] at this; exact this
  · have h1 := hidle R (Nat.le_refl _)
    have h2 := hcnt (fun t => decide (busyN (st js w (t + 1)) t < w)) (fun t ht => .inl (by simpa using ht)) R (Nat.le_refl _)
    rw [hone] at h1
    have h3 : ((w : Int) - 1) * (cnt (fun t => decide (busyN (st js w (t + 1)) t < w)) R : Int) ≤ (w - 1) * need js := Int.mul_le_mul_of_nonneg_left h2 (by omega)
    omega
  · have h1 := hcnt (fun _ => true) (fun t _ => .inr hm) R (Nat.le_refl _)
    have h2 : ∀ t, cnt (fun _ => true) t = t := fun t => by
      induction t with
      | zero => rfl
      | succ t ih => rw [cnt, ih, if_pos rfl]
    rw [h2] at h1
    omega
theorem work_ended {js : List Jb} (hv : jobsB js = true) {w : Nat} (h1 : 1 ≤ w) (h2 : w ≤ 12) : Ended js w (withW js w) := by
  have hb : withB js w = true := by
    simp only [withB, hv, Bool.true_and, inR_iff]; omega
  obtain ⟨f, hf⟩ := withW_comes hb
  rw [Int.toNat_natCast] at hf
  obtain ⟨T, t1, t2, t3⟩ := sim_st hv h1 f 0 (good0 js) hf
  exact ended hv h1 t1 t2 t3
end Go.Proofs.Ytmkognfiemgmgaa
