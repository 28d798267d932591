/- Wishes: what the answers have to do with each other, in plain Lean. -/
import Derived.Test.YtdnbhknejalibaaDoneOn
namespace Go.Proofs.Ytdnbhknejalibaa
set_option maxRecDepth 20000
set_option linter.unusedSimpArgs false
set_option linter.unusedVariables false
open Go Go.Ab

/-- drawn wishes -/
def dOk (w : W3) : Bool := (decide (1 ≤ w.1) && decide (w.1 ≤ 9)) && (decide (1 ≤ w.2.1) && decide (w.2.1 ≤ 40)) && (decide (0 ≤ w.2.2) && decide (w.2.2 ≤ 11))
def drawnB (ws : List W3) : Bool := ws.all dOk && decide (ws.length ≤ 6)
theorem drawn_wishes {ws : List W3} (h : drawnB ws = true) : wishesOk ws = true := by
  simp only [drawnB, wishesOk, Bool.and_eq_true, List.all_eq_true, decide_eq_true_eq] at h ⊢
  refine ⟨fun w hw => ?_, by omega⟩
  have := h.1 w hw
  simp only [dOk, wOk, Bool.and_eq_true, decide_eq_true_eq] at this ⊢
  omega
theorem drawn_len {ws : List W3} (h : drawnB ws = true) : ws.length ≤ 6 := by
  simp only [drawnB, Bool.and_eq_true, decide_eq_true_eq] at h; exact h.2
theorem drawn_mem {ws : List W3} (h : drawnB ws = true) : ∀ w ∈ ws, (1 ≤ w.2.1 ∧ w.2.1 ≤ 40) ∧ 0 ≤ w.2.2 ∧ w.2.2 ≤ 11 := by
  intro w hw
  simp only [drawnB, Bool.and_eq_true, List.all_eq_true, decide_eq_true_eq] at h
  have := h.1 w hw
  simp only [dOk, Bool.and_eq_true, decide_eq_true_eq] at this
  omega
theorem until_240 {ws : List W3} (hm : ∀ w ∈ ws, (1 ≤ w.2.1 ∧ w.2.1 ≤ 40) ∧ 0 ≤ w.2.2 ∧ w.2.2 ≤ 11) (d : Int) : untilW ws d ≤ 40 * ws.length := by
  induction ws with
  | nil => simp [untilW]
  | cons w ws ih =>
    have h1 := ih fun x hx => hm x (List.mem_cons_of_mem _ hx)
    have h2 := hm w List.mem_cons_self
    have e : untilW (w :: ws) d = (if w.2.2 ≤ d then w.2.1 else 0) + untilW ws d := by
      unfold untilW
      by_cases h : w.2.2 ≤ d <;> simp [List.filter_cons, h]
    rw [e]; simp only [List.length_cons]; split <;> omega

/-! ### who can be served -/
theorem okD_of {ws : List W3} (hv : wishesOk ws = true) {D : Int} (h1 : 1 ≤ D) (h2 : D ≤ 500) : okD ws D = true := by
  simp [okD, hv, h1, h2]
theorem can_iff {ws : List W3} (hv : wishesOk ws = true) {D : Int} (h1 : 1 ≤ D) (h2 : D ≤ 500) : canServe ws D = true ↔ ∀ w ∈ ws, untilW ws w.2.2 ≤ D * (w.2.2 + 1) := by
  have ho := okD_of hv h1 h2
  have hf := foldl_least ws D ws (-1) fun w hw => (wOk_mem hv w hw).2.1
  have he : firstLate ws D = ws.foldl (stepL ws D) (-1) := by rw [firstLate, if_pos ho]
  dsimp only at hf
  rw [← he] at hf
  simp only [canServe, ho, Bool.true_and, decide_eq_true_eq]
  constructor
  · intro h w hw
    by_cases hl : untilW ws w.2.2 ≤ D * (w.2.2 + 1)
    · exact hl
    · have := hf.2.2.2 w hw (decide_eq_true (by omega))
      omega
  · intro h
    rw [firstLate_none hv fun w hw => decide_eq_false (by have := h w hw; omega)]
    omega
theorem first_lo {ws : List W3} (hv : wishesOk ws = true) {D : Int} (h1 : 1 ≤ D) (h2 : D ≤ 500) : decide (firstLate ws D = -1) = canServe ws D := by
  have ho := okD_of hv h1 h2
  have hf := foldl_least ws D ws (-1) fun w hw => (wOk_mem hv w hw).2.1
  have he : firstLate ws D = ws.foldl (stepL ws D) (-1) := by rw [firstLate, if_pos ho]
  dsimp only at hf
  rw [← he] at hf
  simp only [canServe, ho, Bool.true_and]
  rcases hf.2.2.1 (by omega) with e | e
  · rw [e]; rfl
  · rw [decide_eq_false (by omega), decide_eq_false (by omega)]
theorem can_mono {ws : List W3} (hv : wishesOk ws = true) {D D' : Int} (h1 : 1 ≤ D) (h2 : D ≤ D') (h3 : D' ≤ 500) (h : canServe ws D = true) : canServe ws D' = true := by
  rw [can_iff hv (by omega) h3]
  rw [can_iff hv h1 (by omega)] at h
  intro w hw
  have h4 := h w hw
  have h5 := (wOk_mem hv w hw).2.1
  have := Int.mul_le_mul_of_nonneg_right h2 (show 0 ≤ w.2.2 + 1 by omega)
  omega
theorem can_500 {ws : List W3} (hd : drawnB ws = true) : canServe ws 500 = true := by
  rw [can_iff (drawn_wishes hd) (by omega) (by omega)]
  intro w hw
  have h1 := until_240 (drawn_mem hd) w.2.2
  have h2 := drawn_len hd
  have h3 := (drawn_mem hd w hw).2.1
  omega
theorem least_spec {ws : List W3} (hd : drawnB ws = true) : ∃ n : Nat, n < 500 ∧ leastD ws = n + 1 ∧ canServe ws (n + 1) = true ∧ ∀ m : Nat, m < n → canServe ws (m + 1) = false := by
  unfold leastD
  cases e : (List.range 500).find? fun k : Nat => canServe ws (k + 1) with
  | none =>
    rw [List.find?_eq_none] at e
    have := e 499 (by simp)
    exact absurd (can_500 hd) this
  | some n =>
    rw [List.find?_eq_some_iff_getElem] at e
    obtain ⟨h1, i, hi, hq, hm⟩ := e
    simp at hq
    subst hq
    refine ⟨i, by simpa using hi, rfl, h1, fun m hmi => ?_⟩
    have := hm m hmi
    simpa using this
theorem can_least {ws : List W3} (hd : drawnB ws = true) {D : Int} (h1 : 1 ≤ D) (h2 : D ≤ 40) : canServe ws D = decide (D ≥ leastD ws) := by
  obtain ⟨n, hn, hl, hc, hm⟩ := least_spec hd
  rw [hl]
  by_cases h : D ≥ (n : Int) + 1
  · rw [decide_eq_true h]
    exact can_mono (drawn_wishes hd) (by omega) h (by omega) hc
  · rw [decide_eq_false h]
    have := hm (D - 1).toNat (by omega)
    rwa [show (((D - 1).toNat : Nat) : Int) + 1 = D by omega] at this
theorem least_1 {ws : List W3} (hd : drawnB ws = true) : 1 ≤ leastD ws ∧ leastD ws ≤ 500 ∧ canServe ws (leastD ws) = true ∧ (leastD ws ≠ 1 → canServe ws (leastD ws - 1) = false) := by
  obtain ⟨n, hn, hl, hc, hm⟩ := least_spec hd
  rw [hl]
  refine ⟨by omega, by omega, hc, fun h => ?_⟩
  have := hm (n - 1) (by omega)
  rwa [show (((n - 1 : Nat) : Int)) + 1 = (n : Int) + 1 - 1 by omega] at this

/-! ### the days -/
theorem doneGo_at (ws : List W3) (D : Int) (l : List Nat) (hn : l.Nodup) (hl : ∀ a ∈ l, a < ws.length) : ∀ n k a, k < n → l[k]? = some a → (doneGo ws D (l.take n)).1[a]? = some ((sumO ws (l.take (k + 1)) - 1).tdiv D)
  | 0, _, _, hk, _ => by omega
  | n + 1, k, a, hk, ha => by
    rcases Nat.lt_or_ge n l.length with h | h
    · have hb := List.getElem?_eq_getElem h
      rw [take_snoc hb, doneGo_snoc]
      have hbl : l[n] < ws.length := hl _ (List.getElem_mem h)
      simp only [doneF, doneGo_sum]
      rcases Nat.lt_or_ge k n with h1 | h1
      · have hne : l[n] ≠ a := by
          intro e
          have hka := ha
          rw [List.getElem?_eq_getElem (some_lt ha)] at hka
          injection hka with hka
          exact List.pairwise_iff_getElem.1 hn k n (some_lt ha) h h1 (by rw [hka, e])
        rw [List.getElem?_set_ne hne]
        exact doneGo_at ws D l hn hl n k a h1 ha
      · obtain rfl : k = n := by omega
        rw [hb] at ha; injection ha with ha
        rw [ha, List.getElem?_set_self (by rw [doneGo_len]; omega)]
        congr 2
        rw [take_snoc hb]
        simp [sumO, ha]
    · have : l.take (n + 1) = l.take n := by rw [List.take_of_length_le (by omega), List.take_of_length_le (by omega)]
      rw [this]
      have := some_lt ha
      exact doneGo_at ws D l hn hl n k a (by omega) ha
theorem serv_perm {ws : List W3} (hv : wishesOk ws = true) : (servN ws).Perm (List.range ws.length) := by rw [servN_ok hv]; exact ordG_perm _ _
theorem serv_nodup {ws : List W3} (hv : wishesOk ws = true) : (servN ws).Nodup := (serv_perm hv).nodup_iff.2 List.nodup_range
theorem serv_lt {ws : List W3} (hv : wishesOk ws = true) {a : Nat} (h : a ∈ servN ws) : a < ws.length := by simpa using (serv_perm hv).mem_iff.1 h
theorem serv_has {ws : List W3} (hv : wishesOk ws = true) {a : Nat} (h : a < ws.length) : ∃ k : Nat, (servN ws)[k]? = some a := List.getElem?_of_mem ((serv_perm hv).mem_iff.2 (by simpa using h))
/-- the sum up to the k-th served -/
def sumT (ws : List W3) (k : Nat) : Int := sumO ws ((servN ws).take (k + 1))
theorem done_at {ws : List W3} (hv : wishesOk ws = true) {D : Int} (h1 : 1 ≤ D) (h2 : D ≤ 500) {k a : Nat} (hk : (servN ws)[k]? = some a) : (doneX ws D)[a]? = some ((sumT ws k - 1).tdiv D) := by
  rw [doneX, if_pos (okD_of hv h1 h2)]
  have := doneGo_at ws D (servN ws) (serv_nodup hv) (fun a ha => serv_lt hv ha) (servN ws).length k a (some_lt hk) hk
  rw [List.take_length] at this
  exact this
theorem sumO_mono {ws : List W3} (hv : wishesOk ws = true) (l : List Nat) (hl : ∀ a ∈ l, a < ws.length) {i j : Nat} (h : i ≤ j) : sumO ws (l.take i) ≤ sumO ws (l.take j) := by
  obtain ⟨d, rfl⟩ : ∃ d, j = i + d := ⟨j - i, by omega⟩
  induction d with
  | zero => exact Int.le_refl _
  | succ d ih =>
    refine Int.le_trans (ih (by omega)) ?_
    rcases Nat.lt_or_ge (i + d) l.length with h1 | h1
    · have hb := List.getElem?_eq_getElem h1
      rw [← Nat.add_assoc, take_snoc hb]
      have hw : l[i + d] < ws.length := hl _ (List.getElem_mem h1)
      have h3 := (wOk_mem hv ws[l[i + d]] (List.getElem_mem hw)).1.1
      have h4 := cntAt_of (List.getElem?_eq_getElem hw)
      simp only [sumO, List.map_append, List.sum_append, List.map_cons, List.map_nil, List.sum_cons, List.sum_nil]
      omega
    · rw [List.take_of_length_le (by omega), List.take_of_length_le (by omega)]; exact Int.le_refl _
theorem sumT_pos {ws : List W3} (hv : wishesOk ws = true) {k : Nat} (hk : k < ws.length) : 1 ≤ sumT ws k := by
  have hl : ∀ a ∈ servN ws, a < ws.length := fun a ha => serv_lt hv ha
  have h0 : 0 < (servN ws).length := by rw [servN_len hv]; omega
  have h1 : sumO ws ((servN ws).take (0 + 1)) ≤ sumO ws ((servN ws).take (k + 1)) := sumO_mono hv _ hl (by omega)
  have hb := List.getElem?_eq_getElem h0
  rw [take_snoc hb] at h1
  have hw : (servN ws)[0] < ws.length := hl _ (List.getElem_mem h0)
  have h3 := (wOk_mem hv ws[(servN ws)[0]] (List.getElem_mem hw)).1.1
  have h4 := cntAt_of (List.getElem?_eq_getElem hw)
  simp only [sumO, List.take_zero, List.nil_append, List.map_cons, List.map_nil, List.sum_cons, List.sum_nil] at h1
  unfold sumT sumO; omega
theorem late_iff {T D day : Int} (hT : 1 ≤ T) (hD : 1 ≤ D) : (T - 1).tdiv D ≤ day ↔ T ≤ D * (day + 1) := by
  rw [Int.tdiv_eq_ediv_of_nonneg (by omega)]
  have := Int.ediv_lt_iff_lt_mul (a := T - 1) (b := day + 1) (c := D) (by omega)
  rw [Int.mul_comm] at this
  constructor
  · intro h; have := this.1 (by omega); omega
  · intro h; have := this.2 (by omega); omega
theorem sumT_le {ws : List W3} (hv : wishesOk ws = true) {k a : Nat} (hk : (servN ws)[k]? = some a) : sumT ws k ≤ untilW ws (dayAt ws a) := by
  have hs := asc_ord ws ws.length
  rw [← servN_ok hv] at hs
  obtain ⟨j, b, h1, h2, h3, h4⟩ := last_of hs _ k a (Nat.le_refl _) hk
  rw [← h3]
  rw [servN_ok hv] at h2 h4
  rw [← sum_last h2 h4, ← servN_ok hv]
  exact sumO_mono hv _ (fun a ha => serv_lt hv ha) (by omega)
theorem sumT_last {ws : List W3} (hv : wishesOk ws = true) {k a : Nat} (hk : (servN ws)[k]? = some a) : ∃ j b, (servN ws)[j]? = some b ∧ dayAt ws b = dayAt ws a ∧ sumT ws j = untilW ws (dayAt ws a) := by
  have hs := asc_ord ws ws.length
  rw [← servN_ok hv] at hs
  obtain ⟨j, b, h1, h2, h3, h4⟩ := last_of hs _ k a (Nat.le_refl _) hk
  refine ⟨j, b, h2, h3, ?_⟩
  rw [← h3]
  rw [servN_ok hv] at h2 h4
  rw [← sum_last h2 h4, ← servN_ok hv]; rfl

/-- done in time -/
def inT (ws : List W3) (D : Int) (a : Nat) : Bool := decide ((doneX ws D).getD a 0 ≤ dayAt ws a)
def allT (ws : List W3) (D : Int) : Nat → Bool
  | 0 => true
  | k + 1 => allT ws D k && inT ws D k
def earlyT (ws : List W3) (D : Int) : Nat → Int
  | 0 => 366
  | k + 1 => if inT ws D k = true then earlyT ws D k else min (earlyT ws D k) (dayAt ws k)
theorem inT_iff {ws : List W3} (hv : wishesOk ws = true) {D : Int} (h1 : 1 ≤ D) (h2 : D ≤ 500) {k a : Nat} (hk : (servN ws)[k]? = some a) : inT ws D a = true ↔ sumT ws k ≤ D * (dayAt ws a + 1) := by
  have hl := some_lt hk
  rw [servN_len hv] at hl
  simp only [inT, decide_eq_true_eq, List.getD, done_at hv h1 h2 hk, Option.getD_some]
  exact late_iff (sumT_pos hv hl) h1
theorem allT_iff {ws : List W3} {D : Int} : ∀ {n : Nat}, allT ws D n = true ↔ ∀ k, k < n → inT ws D k = true
  | 0 => by simp [allT]
  | n + 1 => by
    rw [allT, Bool.and_eq_true, allT_iff]
    constructor
    · intro ⟨a, b⟩ k hk
      rcases Nat.lt_or_ge k n with h | h
      · exact a k h
      · obtain rfl : k = n := by omega
        exact b
    · intro h; exact ⟨fun k hk => h k (by omega), h n (by omega)⟩
theorem all_can {ws : List W3} (hv : wishesOk ws = true) {D : Int} (h1 : 1 ≤ D) (h2 : D ≤ 500) : allT ws D ws.length = canServe ws D := by
  rw [Bool.eq_iff_iff, allT_iff, can_iff hv h1 h2]
  constructor
  · intro h w hw
    obtain ⟨a, ha⟩ := List.getElem?_of_mem hw
    obtain ⟨k, hk⟩ := serv_has hv (some_lt ha)
    obtain ⟨j, b, hb, hd, hT⟩ := sumT_last hv hk
    have := (inT_iff hv h1 h2 hb).1 (h b (serv_lt hv (List.mem_of_getElem? hb)))
    rw [hT, hd, dayAt_of ha] at this
    exact this
  · intro h a ha
    obtain ⟨k, hk⟩ := serv_has hv ha
    rw [inT_iff hv h1 h2 hk]
    have h3 := h ws[a] (List.getElem_mem ha)
    have h4 := sumT_le hv hk
    have h5 := dayAt_of (List.getElem?_eq_getElem ha)
    rw [h5] at h4 ⊢
    omega
theorem early_spec {ws : List W3} {D : Int} : ∀ n, (earlyT ws D n = 366 ∨ ∃ k, k < n ∧ inT ws D k = false ∧ dayAt ws k = earlyT ws D n) ∧ (∀ k, k < n → inT ws D k = false → earlyT ws D n ≤ dayAt ws k)
  | 0 => ⟨.inl rfl, fun k hk => by omega⟩
  | n + 1 => by
    obtain ⟨i1, i2⟩ := early_spec (ws := ws) (D := D) n
    rw [earlyT]
    cases h : inT ws D n with
    | true =>
      rw [if_pos rfl]
      refine ⟨?_, fun k hk hf => ?_⟩
      · rcases i1 with e | ⟨k, a, b, c⟩
        · exact .inl e
        · exact .inr ⟨k, by omega, b, c⟩
      · rcases Nat.lt_or_ge k n with g | g
        · exact i2 k g hf
        · obtain rfl : k = n := by omega
          rw [h] at hf; cases hf
    | false =>
      rw [if_neg (by decide)]
      refine ⟨?_, fun k hk hf => ?_⟩
      · rcases Int.le_total (earlyT ws D n) (dayAt ws n) with g | g
        · rw [Int.min_eq_left g]
          rcases i1 with e | ⟨k, a, b, c⟩
          · exact .inl e
          · exact .inr ⟨k, by omega, b, c⟩
        · rw [Int.min_eq_right g]
          exact .inr ⟨n, by omega, h, rfl⟩
      · rcases Nat.lt_or_ge k n with g | g
        · have := i2 k g hf; omega
        · obtain rfl : k = n := by omega
          omega
theorem first_early {ws : List W3} (hv : wishesOk ws = true) {D : Int} (h1 : 1 ≤ D) (h2 : D ≤ 500) (hc : canServe ws D = false) : firstLate ws D = earlyT ws D ws.length := by
  obtain ⟨i1, i2⟩ := early_spec (ws := ws) (D := D) ws.length
  have hlate : ∀ a, a < ws.length → inT ws D a = false → lateW ws D (dayAt ws a) = true := by
    intro a ha hf
    obtain ⟨k, hk⟩ := serv_has hv ha
    have h4 := sumT_le hv hk
    have h5 : ¬ sumT ws k ≤ D * (dayAt ws a + 1) := fun h => by rw [(inT_iff hv h1 h2 hk).2 h] at hf; cases hf
    exact decide_eq_true (by omega)
  have hex : ∃ a, a < ws.length ∧ inT ws D a = false := by
    have : ¬ allT ws D ws.length = true := by rw [all_can hv h1 h2, hc]; decide
    rw [allT_iff] at this
    by_cases h : ∃ a, a < ws.length ∧ inT ws D a = false
    · exact h
    · exfalso; apply this
      intro k hk
      cases e : inT ws D k with
      | true => rfl
      | false => exact absurd ⟨k, hk, e⟩ h
  obtain ⟨a0, g1, g2⟩ := hex
  have g3 := i2 a0 g1 g2
  have g4 := (wOk_mem hv ws[a0] (List.getElem_mem g1)).2.2
  have g5 := dayAt_of (List.getElem?_eq_getElem g1)
  rcases i1 with e | ⟨a, q1, q2, q3⟩
  · omega
  · have e5 := dayAt_of (List.getElem?_eq_getElem q1)
    have hl := hlate a q1 q2
    rw [e5] at hl
    rw [← q3, e5]
    refine firstLate_some (okD_of hv h1 h2) (List.getElem_mem q1) hl fun x hx hxl => ?_
    obtain ⟨b, hb⟩ := List.getElem?_of_mem hx
    obtain ⟨k, hk⟩ := serv_has hv (some_lt hb)
    obtain ⟨j, b2, hb2, hd, hT⟩ := sumT_last hv hk
    have e6 := dayAt_of hb
    have hlx := of_decide_eq_true hxl
    have hf : inT ws D b2 = false := by
      cases e : inT ws D b2 with
      | false => rfl
      | true =>
        have := (inT_iff hv h1 h2 hb2).1 e
        rw [hT, hd, e6] at this
        omega
    have := i2 b2 (serv_lt hv (List.mem_of_getElem? hb2)) hf
    omega
/-- one after another: no earlier day, no earlier end -/
theorem step_days {ws : List W3} (hv : wishesOk ws = true) {D : Int} (h1 : 1 ≤ D) (h2 : D ≤ 500) {k a b : Nat} (ha : (servN ws)[k]? = some a) (hb : (servN ws)[k + 1]? = some b) : dayAt ws a ≤ dayAt ws b ∧ (doneX ws D).getD a 0 ≤ (doneX ws D).getD b 0 := by
  have hs := asc_ord ws ws.length
  rw [← servN_ok hv] at hs
  refine ⟨asc_at hs ha hb (by omega), ?_⟩
  have hl := some_lt ha
  rw [servN_len hv] at hl
  have p1 := sumT_pos hv hl
  have p2 : sumT ws k ≤ sumT ws (k + 1) := sumO_mono hv _ (fun a ha => serv_lt hv ha) (by omega)
  simp only [List.getD, done_at hv h1 h2 ha, done_at hv h1 h2 hb, Option.getD_some]
  rw [Int.tdiv_eq_ediv_of_nonneg (by omega), Int.tdiv_eq_ediv_of_nonneg (by omega)]
  exact Int.ediv_le_ediv (by omega) (by omega)
end Go.Proofs.Ytdnbhknejalibaa
