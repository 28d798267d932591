/- Work by some workers: hour by hour, and from end to end; both come to the same. Plain Lean; no program in sight. -/
import Derived.Test.YtmkognfiemgmgaaJobsP
namespace Go.Proofs.Ytmkognfiemgmgaa
set_option maxRecDepth 20000
set_option linter.unusedSimpArgs false
set_option linter.unusedVariables false
open Go Go.Ab

/-- a job that can begin -/
def doneA (ends : List Int) (now a : Int) : Bool := decide (0 < ends.getD a.toNat 0) && decide (ends.getD a.toNat 0 ≤ now)
def readyB (js : List Jb) (ends : List Int) (now : Int) (k : Nat) : Bool := decide (ends.getD k 0 = 0) && (aft js k).all (doneA ends now)
def busyN (ends : List Int) (now : Int) : Nat := ends.countP fun e => decide (now < e)
def leftN (ends : List Int) : Nat := ends.countP fun e => decide (e = 0)
def passS (js : List Jb) (w : Nat) (now : Int) (s : List Int × Nat) (k : Nat) : List Int × Nat := if s.2 < w ∧ readyB js s.1 now k = true then (s.1.set k (now + hrs js k), s.2 + 1) else s
def passGo (js : List Jb) (w : Nat) (now : Int) (s : List Int × Nat) (n : Nat) : List Int × Nat := (List.range n).foldl (passS js w now) s
def pass (js : List Jb) (w : Nat) (now : Int) (ends : List Int) : List Int := (passGo js w now (ends, busyN ends now) js.length).1
def maxL (ends : List Int) : Int := ends.foldl max 0
/-- hour by hour -/
def sim (js : List Jb) (w : Nat) : Nat → Int → List Int → Option Int
  | 0, _, _ => none
  | f + 1, now, ends => if leftN ends = 0 then some (maxL ends) else sim js w f (now + 1) (pass js w now ends)
theorem passGo_succ (js : List Jb) (w : Nat) (now : Int) (s : List Int × Nat) (n : Nat) : passGo js w now s (n + 1) = passS js w now (passGo js w now s n) n := by simp [passGo, List.range_succ]

theorem sim_more {js : List Jb} {w : Nat} : ∀ {f : Nat} {now : Int} {ends : List Int} {r : Int}, sim js w f now ends = some r → sim js w (f + 1) now ends = some r
  | 0, _, _, _, h => by simp [sim] at h
  | f + 1, now, ends, r, h => by
    rw [sim] at h ⊢
    split
    · rename_i h0; rw [if_pos h0] at h; exact h
    · rename_i h0; rw [if_neg h0] at h; exact sim_more h
/-- it comes to this in the end -/
def Comes (js : List Jb) (w : Nat) (now : Int) (ends : List Int) (r : Int) : Prop := ∃ f, sim js w f now ends = some r
theorem Comes.step {js : List Jb} {w : Nat} {now : Int} {ends : List Int} {r : Int} (h : Comes js w now ends r) (hl : leftN ends ≠ 0) : Comes js w (now + 1) (pass js w now ends) r := by
  obtain ⟨f, hf⟩ := h
  cases f with
  | zero => simp [sim] at hf
  | succ f => rw [sim, if_neg hl] at hf; exact ⟨f, hf⟩
theorem Comes.end_ {js : List Jb} {w : Nat} {now : Int} {ends : List Int} {r : Int} (h : Comes js w now ends r) (hl : leftN ends = 0) : r = maxL ends := by
  obtain ⟨f, hf⟩ := h
  cases f with
  | zero => simp [sim] at hf
  | succ f => rw [sim, if_pos hl] at hf; injection hf with hf; exact hf.symm

/-! ### lists of ends -/
theorem foldl_max (l : List Int) (b : Int) : b ≤ l.foldl max b ∧ (∀ x ∈ l, x ≤ l.foldl max b) ∧ (l.foldl max b = b ∨ l.foldl max b ∈ l) := by
  induction l generalizing b with
  | nil => simp
  | cons a l ih =>
    obtain ⟨h1, h2, h3⟩ := ih (max b a)
    rw [List.foldl_cons]
    refine ⟨by omega, fun x hx => ?_, ?_⟩
    · rcases List.mem_cons.1 hx with rfl | hx
      · omega
      · exact h2 x hx
    · rcases h3 with h3 | h3
      · rw [h3]
        rcases Int.le_total b a with h | h
        · right; rw [show max b a = a by omega]; exact List.mem_cons_self
        · left; omega
      · exact .inr (List.mem_cons_of_mem _ h3)
theorem maxL_ge {ends : List Int} {x : Int} (h : x ∈ ends) : x ≤ maxL ends := (foldl_max ends 0).2.1 x h
theorem maxL_nonneg (ends : List Int) : 0 ≤ maxL ends := (foldl_max ends 0).1
theorem maxL_le {ends : List Int} {b : Int} (h0 : 0 ≤ b) (h : ∀ x ∈ ends, x ≤ b) : maxL ends ≤ b := by
  rcases (foldl_max ends 0).2.2 with h1 | h1
  · unfold maxL; omega
  · exact h _ h1
theorem maxL_set {ends : List Int} {k : Nat} {v : Int} (h0 : 0 ≤ v) : maxL (ends.set k v) ≤ max (maxL ends) v := by
  refine maxL_le (by have := maxL_nonneg ends; omega) fun x hx => ?_
  rcases List.mem_or_eq_of_mem_set hx with hx | rfl
  · have := maxL_ge hx; omega
  · omega
theorem mem_set {ends : List Int} {k : Nat} {v : Int} (hk : k < ends.length) : v ∈ ends.set k v := by
  refine List.mem_of_getElem? (i := k) ?_
  rw [List.getElem?_set_self hk]
theorem left_set {ends : List Int} {k : Nat} {v : Int} (hk : k < ends.length) (h0 : ends.getD k 0 = 0) (hv : v ≠ 0) : leftN (ends.set k v) + 1 = leftN ends := by
  have hg : ends[k] = 0 := by simpa [List.getD, List.getElem?_eq_getElem hk] using h0
  have hpos : 0 < leftN ends := by
    unfold leftN
    rw [List.countP_pos_iff]
    exact ⟨0, by rw [← hg]; exact List.getElem_mem hk, by simp⟩
  unfold leftN at *
  rw [List.countP_set hk]
  simp only [hg, hv, decide_true, decide_false, if_true, Bool.false_eq_true, if_false]
  omega
theorem busy_set {ends : List Int} {k : Nat} {v now : Int} (hk : k < ends.length) (h0 : ends.getD k 0 = 0) (hn : 0 ≤ now) (hv : now < v) : busyN (ends.set k v) now = busyN ends now + 1 := by
  have hg : ends[k] = 0 := by simpa [List.getD, List.getElem?_eq_getElem hk] using h0
  unfold busyN
  rw [List.countP_set hk]
  have h1 : ¬ now < 0 := by omega
  simp only [hg, hv, h1, decide_true, decide_false, if_true, Bool.false_eq_true, if_false]
  omega
theorem left_zero {ends : List Int} (h : leftN ends = 0) {k : Nat} (hk : k < ends.length) : ends.getD k 0 ≠ 0 := by
  unfold leftN at h
  rw [List.countP_eq_zero] at h
  have := h ends[k] (List.getElem_mem hk)
  simpa [List.getD, List.getElem?_eq_getElem hk] using this
theorem left_pos {ends : List Int} (h : leftN ends ≠ 0) : ∃ k, k < ends.length ∧ ends.getD k 0 = 0 ∧ ∀ j, j < k → ends.getD j 0 ≠ 0 := by
  have hex : ∃ k, k < ends.length ∧ ends.getD k 0 = 0 := by
    have : 0 < leftN ends := by omega
    unfold leftN at this
    rw [List.countP_pos_iff] at this
    obtain ⟨x, hx, h0⟩ := this
    obtain ⟨k, hk, rfl⟩ := List.getElem_of_mem hx
    exact ⟨k, hk, by simpa [List.getD, List.getElem?_eq_getElem hk] using h0⟩
  obtain ⟨k, hk, h0⟩ := hex
  have key : ∀ n, (∃ j, j ≤ n ∧ j < ends.length ∧ ends.getD j 0 = 0 ∧ ∀ i, i < j → ends.getD i 0 ≠ 0) ∨ ∀ j, j ≤ n → j < ends.length → ends.getD j 0 ≠ 0 := by
    intro n
    induction n with
    | zero =>
      by_cases h : 0 < ends.length ∧ ends.getD 0 0 = 0
      · exact .inl ⟨0, by omega, h.1, h.2, by omega⟩
      · right; intro j hj hl he
        obtain rfl : j = 0 := by omega
        exact h ⟨hl, he⟩
    | succ n ih =>
      rcases ih with ⟨j, h1, h2⟩ | hall
      · exact .inl ⟨j, by omega, h2⟩
      · by_cases h : n + 1 < ends.length ∧ ends.getD (n + 1) 0 = 0
        · exact .inl ⟨n + 1, by omega, h.1, h.2, fun i hi => hall i (by omega) (by omega)⟩
        · right; intro j hj hl he
          rcases Nat.lt_or_ge j (n + 1) with h' | h'
          · exact hall j (by omega) hl he
          · obtain rfl : j = n + 1 := by omega
            exact h ⟨hl, he⟩
  rcases key k with ⟨j, _, h1, h2, h3⟩ | hall
  · exact ⟨j, h1, h2, h3⟩
  · exact absurd h0 (hall k (Nat.le_refl _) hk)
theorem busy_zero {ends : List Int} {now : Int} (h : busyN ends now = 0) {k : Nat} (hk : k < ends.length) : ends.getD k 0 ≤ now := by
  unfold busyN at h
  rw [List.countP_eq_zero] at h
  have := h ends[k] (List.getElem_mem hk)
  simpa [List.getD, List.getElem?_eq_getElem hk] using this

/-! ### what stays true -/
structure Good (js : List Jb) (now : Int) (ends : List Int) : Prop where
  len : ends.length = js.length
  nonneg : ∀ x ∈ ends, 0 ≤ x
  now0 : 0 ≤ now
  now_le : now ≤ maxL ends
  max_le : maxL ends + 100 * leftN ends ≤ 100 * js.length
theorem Good.getD {js : List Jb} {now : Int} {ends : List Int} (g : Good js now ends) (k : Nat) : 0 ≤ ends.getD k 0 := by
  cases h : ends[k]? with
  | none => simp [List.getD, h]
  | some x => simp only [List.getD, h, Option.getD_some]; exact g.nonneg x (List.mem_of_getElem? h)
theorem Good.begin {js : List Jb} (hv : jobsB js = true) {now : Int} {ends : List Int} (g : Good js now ends) {k : Nat} (hk : k < js.length) (h0 : ends.getD k 0 = 0) : Good js now (ends.set k (now + hrs js k)) := by
  have hh := jobsB_hrs hv hk
  have hn := g.now0
  have h1 := left_set (v := now + hrs js k) (by rw [g.len]; exact hk) h0 (by omega)
  have h2 := maxL_set (ends := ends) (k := k) (v := now + hrs js k) (by omega)
  have h3 := g.now_le
  have h4 := g.max_le
  refine ⟨by simpa using g.len, fun x hx => ?_, hn, ?_, by omega⟩
  · rcases List.mem_or_eq_of_mem_set hx with hx | rfl
    · exact g.nonneg x hx
    · omega
  · have := maxL_ge (mem_set (v := now + hrs js k) (show k < ends.length by rw [g.len]; exact hk))
    omega
theorem ready_get {js : List Jb} {ends : List Int} {now : Int} {k : Nat} (h : readyB js ends now k = true) : ends.getD k 0 = 0 ∧ ∀ a ∈ aft js k, 0 < ends.getD a.toNat 0 ∧ ends.getD a.toNat 0 ≤ now := by
  simp only [readyB, Bool.and_eq_true, decide_eq_true_eq, List.all_eq_true, doneA] at h
  exact h
theorem Good.passed {js : List Jb} (hv : jobsB js = true) {w : Nat} {now : Int} {ends : List Int} {b : Nat} (g : Good js now ends) : ∀ n, n ≤ js.length → Good js now (passGo js w now (ends, b) n).1
  | 0, _ => g
  | n + 1, hn => by
    have ih := Good.passed hv (w := w) (b := b) g n (by omega)
    rw [passGo_succ]
    unfold passS
    split
    · rename_i h; exact ih.begin hv (by omega) (ready_get h.2).1
    · exact ih
theorem getD_set {ends : List Int} {i k : Nat} {v : Int} (hne : i ≠ k) : (ends.set i v).getD k 0 = ends.getD k 0 := by
  simp only [List.getD, List.getElem?_set_ne hne]
theorem getD_set_self {ends : List Int} {i : Nat} {v : Int} (h : i < ends.length) : (ends.set i v).getD i 0 = v := by
  simp only [List.getD, List.getElem?_set_self h, Option.getD_some]

/-- none unbegun that waits for none: all have begun -/
theorem first_ready {js : List Jb} (hv : jobsB js = true) {now : Int} {ends : List Int} (g : Good js now ends) (hb : busyN ends now = 0) (hl : leftN ends ≠ 0) : ∃ k, k < js.length ∧ readyB js ends now k = true := by
  obtain ⟨k, hk, h0, hm⟩ := left_pos hl
  have hk' : k < js.length := by rw [← g.len]; exact hk
  refine ⟨k, hk', ?_⟩
  simp only [readyB, h0, decide_true, Bool.true_and, List.all_eq_true, doneA, Bool.and_eq_true, decide_eq_true_eq]
  intro a ha
  have h1 := jobsB_mem hv hk' ha
  have h2 := hm a.toNat (by omega)
  have h3 := g.getD a.toNat
  exact ⟨by omega, busy_zero hb (by omega)⟩

/-- a pass begins none: nothing turns -/
theorem pass_none {js : List Jb} {w : Nat} {now : Int} {ends : List Int} {b : Nat} (h : w ≤ b ∨ ∀ k, k < js.length → readyB js ends now k = false) : ∀ n, n ≤ js.length → passGo js w now (ends, b) n = (ends, b)
  | 0, _ => rfl
  | n + 1, hn => by
    rw [passGo_succ, pass_none h n (by omega), passS]
    refine if_neg fun hh => ?_
    rcases h with h | h
    · have h1 : b < w := hh.1
      omega
    · have h2 := hh.2
      rw [h n (by omega)] at h2; cases h2

/-- behind a pass somebody works -/
theorem pass_busy {js : List Jb} (hv : jobsB js = true) {w : Nat} (hw : 1 ≤ w) {now : Int} {ends : List Int} (g : Good js now ends) (hl : leftN ends ≠ 0) : ∃ x ∈ pass js w now ends, now < x := by
  have keep : ∀ n, n ≤ js.length → ∀ b, (∃ x ∈ ends, now < x) → ∃ x ∈ (passGo js w now (ends, b) n).1, now < x := by
    intro n
    induction n with
    | zero => intro _ b h; exact h
    | succ n ih =>
      intro hn b h
      obtain ⟨x, hx, hlt⟩ := ih (by omega) b h
      rw [passGo_succ, passS]
      split
      · rename_i hh
        have g' := Good.passed hv (w := w) (b := b) g n (by omega)
        have hh2 := jobsB_hrs hv (show n < js.length by omega)
        exact ⟨_, mem_set (by rw [g'.len]; omega), by omega⟩
      · exact ⟨x, hx, hlt⟩
  rcases Nat.eq_zero_or_pos (busyN ends now) with hb | hb
  · obtain ⟨k, hk, hr⟩ := first_ready hv g hb hl
    -- the first ready one begins
    have find : ∀ n, n ≤ js.length → passGo js w now (ends, 0) n = (ends, 0) ∨ ∃ x ∈ (passGo js w now (ends, 0) n).1, now < x := by
      intro n
      induction n with
      | zero => intro _; exact .inl rfl
      | succ n ih =>
        intro hn
        rw [passGo_succ]
        rcases ih (by omega) with h | ⟨x, hx, hlt⟩
        · rw [h, passS]
          split
          · have hh2 := jobsB_hrs hv (show n < js.length by omega)
            exact .inr ⟨_, mem_set (by rw [g.len]; omega), by omega⟩
          · exact .inl rfl
        · rw [passS]
          split
          · have g' := Good.passed hv (w := w) (b := 0) g n (by omega)
            have hh2 := jobsB_hrs hv (show n < js.length by omega)
            exact .inr ⟨_, mem_set (by rw [g'.len]; omega), by omega⟩
          · exact .inr ⟨x, hx, hlt⟩
    unfold pass
    rw [hb]
    rcases find js.length (Nat.le_refl _) with h | h
    · exfalso
      have hstep : ∀ n, n ≤ js.length → passGo js w now (ends, 0) n = (ends, 0) → ∀ j, j < n → readyB js ends now j = false := by
        intro n
        induction n with
        | zero => intro _ _ j hj; omega
        | succ n ih =>
          intro hn hp j hj
          rw [passGo_succ] at hp
          have hprev : passGo js w now (ends, 0) n = (ends, 0) := by
            by_cases hc : (passGo js w now (ends, 0) n).2 < w ∧ readyB js (passGo js w now (ends, 0) n).1 now n = true
            · rw [passS, if_pos hc] at hp
              injection hp with _ h2
              omega
            · rw [passS, if_neg hc] at hp; exact hp
          rcases Nat.lt_or_ge j n with h' | h'
          · exact ih (by omega) hprev j h'
          · obtain rfl : j = n := by omega
            rw [hprev, passS] at hp
            cases hr' : readyB js ends now j with
            | false => rfl
            | true =>
              rw [if_pos ⟨by show 0 < w; omega, hr'⟩] at hp
              injection hp with _ h2
              omega
      rw [hstep _ (Nat.le_refl _) h k hk] at hr
      cases hr
    · exact h
  · refine keep _ (Nat.le_refl _) _ ?_
    unfold busyN at hb
    obtain ⟨x, hx, hlt⟩ := List.countP_pos_iff.1 hb
    exact ⟨x, hx, by simpa using hlt⟩

theorem Good.next {js : List Jb} (hv : jobsB js = true) {w : Nat} (hw : 1 ≤ w) {now : Int} {ends : List Int} (g : Good js now ends) (hl : leftN ends ≠ 0) : Good js (now + 1) (pass js w now ends) := by
  obtain ⟨x, hx, hlt⟩ := pass_busy hv hw g hl
  have g' : Good js now (pass js w now ends) := Good.passed hv g js.length (Nat.le_refl _)
  have := maxL_ge hx
  have h0 := g.now0
  exact ⟨g'.len, g'.nonneg, by omega, by omega, g'.max_le⟩

theorem sim_some {js : List Jb} (hv : jobsB js = true) {w : Nat} (hw : 1 ≤ w) : ∀ (f : Nat) (now : Int) (ends : List Int), Good js now ends → 1201 ≤ f + now → ∃ r, sim js w f now ends = some r
  | 0, now, ends, g, h => by
    have h1 := g.now_le
    have h2 := g.max_le
    have h3 := (jobsB_len hv).2
    omega
  | f + 1, now, ends, g, h => by
    rw [sim]
    split
    · exact ⟨_, rfl⟩
    · rename_i hl
      exact sim_some hv hw f _ _ (g.next hv hw hl) (by omega)

def zeros (n : Nat) : List Int := List.replicate n 0
theorem zeros_left (n : Nat) : leftN (zeros n) = n := by simp [leftN, zeros, List.countP_replicate]
theorem zeros_max (n : Nat) : maxL (zeros n) = 0 := by
  have h1 := maxL_nonneg (zeros n)
  have h2 : maxL (zeros n) ≤ 0 := maxL_le (Int.le_refl _) fun x hx => by simp [zeros] at hx; omega
  omega
theorem good0 (js : List Jb) : Good js 0 (zeros js.length) := by
  refine ⟨by simp [zeros], fun x hx => ?_, Int.le_refl _, ?_, ?_⟩
  · simp [zeros] at hx; omega
  · rw [zeros_max]; exact Int.le_refl _
  · rw [zeros_max, zeros_left]; omega
def withB (js : List Jb) (w : Int) : Bool := jobsB js && inR 1 12 w
def withW (js : List Jb) (w : Int) : Int := if withB js w = true then (sim js w.toNat 1201 0 (zeros js.length)).getD 0 else -1
theorem withB_spec {js : List Jb} {w : Int} (h : withB js w = true) : jobsB js = true ∧ 1 ≤ w ∧ w ≤ 12 := by
  simp only [withB, Bool.and_eq_true, inR_iff] at h
  exact h
theorem withW_comes {js : List Jb} {w : Int} (h : withB js w = true) : Comes js w.toNat 0 (zeros js.length) (withW js w) := by
  obtain ⟨hv, h1, h2⟩ := withB_spec h
  obtain ⟨r, hr⟩ := sim_some hv (w := w.toNat) (by omega) 1201 0 _ (good0 js) (by omega)
  refine ⟨1201, ?_⟩
  rw [withW, if_pos h, hr]; rfl

/-! ### from end to end -/

/-- the first one that can begin, begun by hand -/
theorem pass_begin {js : List Jb} (hv : jobsB js = true) {w : Nat} {now : Int} {ends : List Int} (g : Good js now ends) {i : Nat} (hi : i < js.length) (hr : readyB js ends now i = true) (hm : ∀ j, j < i → readyB js ends now j = false) (hw : busyN ends now < w) :
    pass js w now (ends.set i (now + hrs js i)) = pass js w now ends := by
  have hh := jobsB_hrs hv hi
  have hil : i < ends.length := by rw [g.len]; exact hi
  have h0 := (ready_get hr).1
  have hn := g.now0
  have hbs := busy_set (v := now + hrs js i) hil h0 hn (by omega)
  unfold pass
  rw [hbs]
  -- before i nothing turns on either side; at i they meet
  have same : ∀ k, k ≠ i → readyB js (ends.set i (now + hrs js i)) now k = readyB js ends now k := by
    intro k hk
    unfold readyB
    rw [getD_set (Ne.symm hk)]
    congr 1
    have : ∀ a, doneA (ends.set i (now + hrs js i)) now a = doneA ends now a := by
      intro a
      unfold doneA
      by_cases ha : a.toNat = i
      · rw [ha, getD_set_self hil, h0]
        have : ¬ now + hrs js i ≤ now := by omega
        simp [this]
      · rw [getD_set (Ne.symm ha)]
    rw [show doneA (ends.set i (now + hrs js i)) now = doneA ends now from funext this]
  have lo1 : ∀ n, n ≤ i → passGo js w now (ends, busyN ends now) n = (ends, busyN ends now) := by
    intro n
    induction n with
    | zero => intro _; rfl
    | succ n ih =>
      intro hn
      rw [passGo_succ, ih (by omega), passS]
      refine if_neg fun hc => ?_
      have hc2 := hc.2
      rw [hm n (by omega)] at hc2; cases hc2
  have lo2 : ∀ n, n ≤ i → passGo js w now (ends.set i (now + hrs js i), busyN ends now + 1) n = (ends.set i (now + hrs js i), busyN ends now + 1) := by
    intro n
    induction n with
    | zero => intro _; rfl
    | succ n ih =>
      intro hn
      rw [passGo_succ, ih (by omega), passS]
      refine if_neg fun hc => ?_
      have h := hc.2
      rw [same n (by omega), hm n (by omega)] at h; cases h
  have meet : ∀ n, passGo js w now (ends, busyN ends now) (i + 1 + n) = passGo js w now (ends.set i (now + hrs js i), busyN ends now + 1) (i + 1 + n) := by
    intro n
    induction n with
    | zero =>
      rw [Nat.add_zero, passGo_succ, passGo_succ, lo1 i (Nat.le_refl _), lo2 i (Nat.le_refl _), passS, if_pos ⟨hw, hr⟩, passS]
      refine (if_neg fun hc => ?_).symm
      have h := (ready_get hc.2).1
      have h' : (ends.set i (now + hrs js i)).getD i 0 = 0 := h
      rw [getD_set_self hil] at h'
      omega
    | succ n ih => rw [← Nat.add_assoc, passGo_succ, passGo_succ, ih]
  have := meet (js.length - (i + 1))
  rw [show i + 1 + (js.length - (i + 1)) = js.length by omega] at this
  rw [this]

theorem Comes.begin {js : List Jb} (hv : jobsB js = true) {w : Nat} {now : Int} {ends : List Int} {r : Int} (h : Comes js w now ends r) (g : Good js now ends) {i : Nat} (hi : i < js.length) (hr : readyB js ends now i = true) (hm : ∀ j, j < i → readyB js ends now j = false) (hw : busyN ends now < w) :
    Comes js w now (ends.set i (now + hrs js i)) r := by
  have hil : i < ends.length := by rw [g.len]; exact hi
  have h0 := (ready_get hr).1
  have hh := jobsB_hrs hv hi
  have hn := g.now0
  have hl : leftN ends ≠ 0 := fun h => left_zero h hil h0
  have hp := pass_begin hv g hi hr hm hw
  have hs := h.step hl
  rw [← hp] at hs
  obtain ⟨f, hf⟩ := hs
  by_cases hl' : leftN (ends.set i (now + hrs js i)) = 0
  · -- the pass turns nothing more
    have hno : ∀ k, k < js.length → readyB js (ends.set i (now + hrs js i)) now k = false := fun k hk => by
      cases hrk : readyB js (ends.set i (now + hrs js i)) now k with
      | false => rfl
      | true => exact absurd (ready_get hrk).1 (left_zero hl' (by simpa [g.len] using hk))
    have hpn : pass js w now (ends.set i (now + hrs js i)) = ends.set i (now + hrs js i) := by
      unfold pass; rw [pass_none (.inr hno) _ (Nat.le_refl _)]
    rw [hpn] at hf
    have hr := Comes.end_ ⟨f, hf⟩ hl'
    exact ⟨1, by rw [sim, if_pos hl', hr]⟩
  · exact ⟨f + 1, by rw [sim, if_neg hl']; exact hf⟩

/-- none ends between: the hours pass -/
theorem Comes.wait {js : List Jb} {w : Nat} : ∀ (d : Nat) {now : Int} {ends : List Int} {r : Int}, Comes js w now ends r → (∀ x ∈ ends, now < x → now + d ≤ x) → (w ≤ busyN ends now ∨ ∀ k, k < js.length → readyB js ends now k = false) → Comes js w (now + d) ends r
  | 0, now, ends, r, h, _, _ => by simpa using h
  | d + 1, now, ends, r, h, hx, ho => by
    by_cases hl : leftN ends = 0
    · have hr := h.end_ hl
      exact ⟨1, by rw [sim, if_pos hl, hr]⟩
    · have hpn : pass js w now ends = ends := by unfold pass; rw [pass_none ho _ (Nat.le_refl _)]
      have hs := h.step hl
      rw [hpn] at hs
      have hcast : now + ((d + 1 : Nat) : Int) = now + 1 + (d : Int) := by omega
      rw [hcast]
      rcases Nat.eq_zero_or_pos d with rfl | hd
      · simpa using hs
      · have hlt : ∀ x ∈ ends, (now < x ↔ now + 1 < x) := fun x hxm => ⟨fun h1 => by have := hx x hxm h1; omega, fun h1 => by omega⟩
        refine Comes.wait d hs (fun x hxm h1 => by have := hx x hxm (by omega); omega) ?_
        rcases ho with ho | ho
        · left
          unfold busyN at *
          rw [List.countP_congr (q := fun e => decide (now < e)) (fun x hxm => by simpa using (hlt x hxm).symm)]
          exact ho
        · right
          intro k hk
          rw [← ho k hk]
          unfold readyB
          congr 1
          have : ∀ a, doneA ends (now + 1) a = doneA ends now a := by
            intro a
            unfold doneA
            cases he : ends[a.toNat]? with
            | none => simp [List.getD, he]
            | some x =>
              simp only [List.getD, he, Option.getD_some]
              have := hlt x (List.mem_of_getElem? he)
              by_cases h1 : x ≤ now
              · have h2 : x ≤ now + 1 := by omega
                simp [h1, h2]
              · have h2 : ¬ x ≤ now + 1 := by have := this.1 (by omega); omega
                simp [h1, h2]
          rw [show doneA ends (now + 1) = doneA ends now from funext this]

/-- nobody works and none can begin: all is done, now -/
theorem Comes.done {js : List Jb} (hv : jobsB js = true) {w : Nat} {now : Int} {ends : List Int} {r : Int} (h : Comes js w now ends r) (g : Good js now ends) (hb : busyN ends now = 0) (hno : ∀ k, k < js.length → readyB js ends now k = false) : r = now := by
  have hl : leftN ends = 0 := Decidable.byContradiction fun hl => by
    obtain ⟨k, hk, hr⟩ := first_ready hv g hb hl
    rw [hno k hk] at hr; cases hr
  rw [h.end_ hl]
  have h1 := g.now_le
  have h2 : maxL ends ≤ now := maxL_le g.now0 fun x hx => by
    obtain ⟨k, hk, rfl⟩ := List.getElem_of_mem hx
    have := busy_zero hb hk
    simpa [List.getD, List.getElem?_eq_getElem hk] using this
  omega
end Go.Proofs.Ytmkognfiemgmgaa
