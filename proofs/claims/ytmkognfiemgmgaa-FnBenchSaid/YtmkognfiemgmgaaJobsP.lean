/- Jobs: what is computed of them, in plain Lean; no program in sight. -/
import Derived.Test.YtmkognfiemgmgaaL
import Derived.Test.YtmkognfiemgmgaaAb29
namespace Go.Proofs.Ytmkognfiemgmgaa
set_option maxRecDepth 20000
set_option linter.unusedSimpArgs false
set_option linter.unusedVariables false
open Go Go.Ab

abbrev Jb := Int × List Int
def hrs (js : List Jb) (k : Nat) : Int := (js.getD k (0, [])).1
def aft (js : List Jb) (k : Nat) : List Int := (js.getD k (0, [])).2
theorem hrs_of {js : List Jb} {k : Nat} {j : Jb} (h : js[k]? = some j) : hrs js k = j.1 := by simp [hrs, List.getD, h]
theorem aft_of {js : List Jb} {k : Nat} {j : Jb} (h : js[k]? = some j) : aft js k = j.2 := by simp [aft, List.getD, h]
def inR (lo hi n : Int) : Bool := decide (lo ≤ n) && decide (n ≤ hi)
theorem inR_iff {lo hi n : Int} : inR lo hi n = true ↔ lo ≤ n ∧ n ≤ hi := by simp [inR]

/-- these hold for all numbers below n -/
def allB (p : Nat → Bool) (n : Nat) : Bool := (List.range n).all p
theorem allB_zero {p : Nat → Bool} : allB p 0 = true := rfl
theorem allB_succ {p : Nat → Bool} {n : Nat} : allB p (n + 1) = (allB p n && p n) := by simp [allB, List.range_succ]
theorem allB_more {p : Nat → Bool} {n : Nat} (h : allB p n = true) (hp : p n = true) : allB p (n + 1) = true := by rw [allB_succ, h, hp]; rfl
theorem allB_bad {p : Nat → Bool} {n m : Nat} (hm : m < n) (hp : p m = false) : allB p n = false := by
  rw [Bool.eq_false_iff]; intro ha
  simp only [allB, List.all_eq_true, List.mem_range] at ha
  rw [ha m hm] at hp; cases hp
theorem allB_get {p : Nat → Bool} {n m : Nat} (h : allB p n = true) (hm : m < n) : p m = true := by
  simp only [allB, List.all_eq_true, List.mem_range] at h
  exact h m hm

/-- numbers of a range that rise -/
def ascP (hi : Int) (a : List Int) (i : Nat) : Bool := inR 0 hi (a.getD i 0) && (decide (i = 0) || decide (a.getD (i - 1) 0 < a.getD i 0))
def ascB (hi : Int) (a : List Int) : Bool := allB (ascP hi a) a.length
def jobP (js : List Jb) (k : Nat) : Bool := inR 1 100 (hrs js k) && ascB ((k : Int) - 1) (aft js k)
def jobsB (js : List Jb) : Bool := inR 1 12 js.length && allB (jobP js) js.length
theorem jobsB_len {js : List Jb} (h : jobsB js = true) : 1 ≤ js.length ∧ js.length ≤ 12 := by
  simp only [jobsB, Bool.and_eq_true, inR_iff] at h; omega
theorem jobsB_hrs {js : List Jb} (h : jobsB js = true) {k : Nat} (hk : k < js.length) : 1 ≤ hrs js k ∧ hrs js k ≤ 100 := by
  simp only [jobsB, Bool.and_eq_true] at h
  have := allB_get h.2 hk
  simp only [jobP, Bool.and_eq_true, inR_iff] at this
  exact this.1
theorem jobsB_aft {js : List Jb} (h : jobsB js = true) {k i : Nat} {a : Int} (hk : k < js.length) (ha : (aft js k)[i]? = some a) : 0 ≤ a ∧ a < k := by
  simp only [jobsB, Bool.and_eq_true] at h
  have h2 := allB_get h.2 hk
  simp only [jobP, Bool.and_eq_true, ascB] at h2
  have h3 := allB_get h2.2 (some_lt ha)
  simp only [ascP, Bool.and_eq_true, inR_iff, List.getD, ha, Option.getD_some] at h3
  omega
theorem jobsB_mem {js : List Jb} (h : jobsB js = true) {k : Nat} {a : Int} (hk : k < js.length) (ha : a ∈ aft js k) : 0 ≤ a ∧ a < k := by
  obtain ⟨i, hi⟩ := List.getElem?_of_mem ha
  exact jobsB_aft h hk hi
theorem jobsB_short {js : List Jb} (h : jobsB js = true) {k : Nat} (hk : k < js.length) : (aft js k).length ≤ 12 := by
  have hl := jobsB_len h
  have key : ∀ (i : Nat) (a : Int), (aft js k)[i]? = some a → (i : Int) ≤ a := by
    intro i
    induction i with
    | zero => intro a ha; have := jobsB_aft h hk ha; omega
    | succ i ih =>
      intro a ha
      have hlt := some_lt ha
      obtain ⟨b, hb⟩ := some_at (show i < (aft js k).length by omega)
      have h1 := ih b hb
      simp only [jobsB, Bool.and_eq_true] at h
      have h2 := allB_get h.2 hk
      simp only [jobP, Bool.and_eq_true, ascB] at h2
      have h3 := allB_get h2.2 hlt
      simp only [ascP, Bool.and_eq_true, Bool.or_eq_true, decide_eq_true_eq, List.getD, ha, Option.getD_some, Nat.add_sub_cancel, hb] at h3
      omega
  rcases Nat.lt_or_ge 12 (aft js k).length with hgt | hle
  · obtain ⟨a, ha⟩ := some_at hgt
    have h1 := key 12 a ha
    have h2 := jobsB_aft h hk ha
    omega
  · exact hle

/-! ### the earliest beginnings -/
def earlM (js : List Jb) (out : List Int) (n a : Int) : Int := max n (out.getD a.toNat 0 + hrs js a.toNat)
def earlGo (js : List Jb) : Nat → List Int
  | 0 => []
  | k + 1 => earlGo js k ++ [(aft js k).foldl (earlM js (earlGo js k)) 0]
def earl (js : List Jb) : List Int := if jobsB js = true then earlGo js js.length else []
theorem earlGo_len (js : List Jb) : ∀ k, (earlGo js k).length = k
  | 0 => rfl
  | k + 1 => by simp [earlGo, earlGo_len js k]
theorem earlGo_get (js : List Jb) {k m : Nat} (hk : k < m) : (earlGo js m)[k]? = some ((aft js k).foldl (earlM js (earlGo js k)) 0) := by
  induction m with
  | zero => omega
  | succ m ih =>
    rw [earlGo]
    rcases Nat.lt_or_ge k m with h | h
    · rw [List.getElem?_append_left (by rw [earlGo_len]; exact h)]; exact ih h
    · obtain rfl : k = m := by omega
      rw [List.getElem?_append_right (by rw [earlGo_len]; omega), earlGo_len, Nat.sub_self]; rfl
theorem earlM_bound {js : List Jb} {out : List Int} {b : Int} : ∀ (l : List Int) (n : Int), 0 ≤ n → n ≤ b → (∀ a ∈ l, out.getD a.toNat 0 + hrs js a.toNat ≤ b) → 0 ≤ l.foldl (earlM js out) n ∧ l.foldl (earlM js out) n ≤ b
  | [], n, h0, h1, _ => ⟨h0, h1⟩
  | a :: l, n, h0, h1, h => by
    rw [List.foldl_cons]
    have := h a List.mem_cons_self
    exact earlM_bound l _ (by unfold earlM; omega) (by unfold earlM; omega) fun c hc => h c (List.mem_cons_of_mem _ hc)
theorem earlGo_bound {js : List Jb} (hv : jobsB js = true) : ∀ (m : Nat), m ≤ js.length → ∀ (k : Nat) x, (earlGo js m)[k]? = some x → 0 ≤ x ∧ x ≤ 100 * k
  | 0, _, k, x, hx => by simp [earlGo] at hx
  | m + 1, hm, k, x, hx => by
    rw [earlGo] at hx
    rcases Nat.lt_or_ge k m with h | h
    · rw [List.getElem?_append_left (by rw [earlGo_len]; exact h)] at hx
      exact earlGo_bound hv m (by omega) k x hx
    · have hl := some_lt hx
      simp only [List.length_append, earlGo_len, List.length_cons, List.length_nil] at hl
      obtain rfl : k = m := by omega
      rw [List.getElem?_append_right (by rw [earlGo_len]; omega), earlGo_len, Nat.sub_self] at hx
      simp only [List.getElem?_cons_zero, Option.some.injEq] at hx
      subst hx
      refine earlM_bound _ 0 (by omega) (by omega) fun a ha => ?_
      have h1 := jobsB_mem hv (by omega) ha
      obtain ⟨y, hy⟩ := some_at (show a.toNat < (earlGo js k).length by rw [earlGo_len]; omega)
      have h2 := earlGo_bound hv k (by omega) _ y hy
      have h3 := jobsB_hrs hv (show a.toNat < js.length by omega)
      simp only [List.getD, hy, Option.getD_some]
      omega
theorem earl_len {js : List Jb} (hv : jobsB js = true) : (earl js).length = js.length := by rw [earl, if_pos hv, earlGo_len]
theorem earl_le (js : List Jb) : (earl js).length ≤ 12 := by
  unfold earl; split
  · rename_i h; rw [earlGo_len]; exact (jobsB_len h).2
  · simp

/-! ### the hours needed -/
def needM (js : List Jb) (e : List Int) (m : Int) (k : Nat) : Int := max m (e.getD k 0 + hrs js k)
def needGo (js : List Jb) (b : Int) (n : Nat) : Int := (List.range n).foldl (needM js (earl js)) b
def need (js : List Jb) : Int := if jobsB js = true then needGo js (-1) js.length else -1
theorem needGo_succ (js : List Jb) (b : Int) (n : Nat) : needGo js b (n + 1) = needM js (earl js) (needGo js b n) n := by simp [needGo, List.range_succ]
theorem earl_at {js : List Jb} (hv : jobsB js = true) {k : Nat} (hk : k < js.length) : ∃ x, (earl js)[k]? = some x ∧ 0 ≤ x ∧ x ≤ 100 * k := by
  rw [earl, if_pos hv]
  obtain ⟨x, hx⟩ := some_at (show k < (earlGo js js.length).length by rw [earlGo_len]; exact hk)
  exact ⟨x, hx, earlGo_bound hv _ (Nat.le_refl _) k x hx⟩
theorem needGo_bound {js : List Jb} (hv : jobsB js = true) {b : Int} (hb : -1 ≤ b ∧ b ≤ 0) : ∀ n, n ≤ js.length → b ≤ needGo js b n ∧ needGo js b n ≤ 100 * n ∧ (0 < n → 1 ≤ needGo js b n)
  | 0, _ => by simp [needGo]; omega
  | n + 1, hn => by
    have ih := needGo_bound hv hb n (by omega)
    obtain ⟨x, hx, h0, h1⟩ := earl_at hv (show n < js.length by omega)
    have h2 := jobsB_hrs hv (show n < js.length by omega)
    rw [needGo_succ]
    unfold needM
    simp only [List.getD, hx, Option.getD_some]
    omega
theorem needGo_start {js : List Jb} (hv : jobsB js = true) : ∀ n, n < js.length → needGo js 0 (n + 1) = needGo js (-1) (n + 1)
  | 0, hn => by
    obtain ⟨x, hx, h0, h1⟩ := earl_at hv hn
    have h2 := jobsB_hrs hv hn
    simp only [needGo, List.range_succ, List.range_zero, List.nil_append, List.foldl_cons, List.foldl_nil, needM, List.getD, hx, Option.getD_some]
    omega
  | n + 1, hn => by rw [needGo_succ, needGo_succ js (-1), needGo_start hv n (by omega)]
theorem need_of {js : List Jb} (hv : jobsB js = true) : need js = needGo js (-1) js.length := if_pos hv
theorem need_of0 {js : List Jb} (hv : jobsB js = true) : need js = needGo js 0 js.length := by
  have := jobsB_len hv
  obtain ⟨m, hm⟩ : ∃ m, js.length = m + 1 := ⟨js.length - 1, by omega⟩
  rw [need_of hv, hm, needGo_start hv m (by omega)]
theorem need_bound {js : List Jb} (hv : jobsB js = true) : 1 ≤ need js ∧ need js ≤ 1200 := by
  rw [need_of hv]
  have h1 := needGo_bound hv (b := -1) (by omega) js.length (Nat.le_refl _)
  have h2 := jobsB_len hv
  have := h1.2.2 (by omega)
  omega

/-! ### the latest beginnings -/
def lateM (js : List Jb) (k : Nat) (o : List Int) (a : Int) : List Int := o.set a.toNat (min (o.getD a.toNat 0) (o.getD k 0 - hrs js a.toNat))
def lateS (js : List Jb) (o : List Int) (k : Nat) : List Int := (aft js k).foldl (lateM js k) o
def late0 (js : List Jb) (n : Nat) : List Int := (List.range n).map fun k => need js - hrs js k
def lateGo (js : List Jb) : Nat → List Int
  | 0 => late0 js js.length
  | c + 1 => lateS js (lateGo js c) (js.length - (c + 1))
def late (js : List Jb) : List Int := if jobsB js = true then lateGo js js.length else []
theorem late0_len (js : List Jb) (n : Nat) : (late0 js n).length = n := by simp [late0]
theorem late0_succ (js : List Jb) (n : Nat) : late0 js (n + 1) = late0 js n ++ [need js - hrs js n] := by simp [late0, List.range_succ]
theorem lateM_len (js : List Jb) (k : Nat) (l : List Int) (o : List Int) : (l.foldl (lateM js k) o).length = o.length := by
  induction l generalizing o with
  | nil => rfl
  | cons a l ih => rw [List.foldl_cons, ih]; simp [lateM]
theorem lateGo_len (js : List Jb) : ∀ c, (lateGo js c).length = js.length
  | 0 => late0_len _ _
  | c + 1 => by rw [lateGo, lateS, lateM_len, lateGo_len js c]
theorem late_le (js : List Jb) : (late js).length ≤ 12 := by
  unfold late; split
  · rename_i h; rw [lateGo_len]; exact (jobsB_len h).2
  · simp
theorem late_len {js : List Jb} (hv : jobsB js = true) : (late js).length = js.length := by rw [late, if_pos hv, lateGo_len]
/-- all between -/
def Btw (lo hi : Int) (o : List Int) : Prop := ∀ (k : Nat) x, o[k]? = some x → lo ≤ x ∧ x ≤ hi
theorem Btw.getD {lo hi : Int} {o : List Int} (h : Btw lo hi o) {k : Nat} (hk : k < o.length) : lo ≤ o.getD k 0 ∧ o.getD k 0 ≤ hi := by
  obtain ⟨x, hx⟩ := some_at hk
  simp only [List.getD, hx, Option.getD_some]
  exact h k x hx
theorem Btw.set {lo hi : Int} {o : List Int} (h : Btw lo hi o) {k : Nat} {v : Int} (hv : lo ≤ v ∧ v ≤ hi) : Btw lo hi (o.set k v) := by
  intro j x hx
  rcases getElem?_set_cases hx with ⟨_, rfl⟩ | ⟨_, hx⟩
  · exact hv
  · exact h j x hx
/-- while one job's predecessors are looked at -/
theorem lateM_bound {js : List Jb} (hv : jobsB js = true) {k : Nat} {lo : Int} : ∀ (l : List Int) (o : List Int), (∀ a ∈ l, 0 ≤ a ∧ a < k) → k < o.length → o.length = js.length → Btw (lo - 100) 1200 o → lo ≤ o.getD k 0 →
    Btw (lo - 100) 1200 (l.foldl (lateM js k) o) ∧ (l.foldl (lateM js k) o).getD k 0 = o.getD k 0
  | [], o, _, _, _, hb, _ => ⟨hb, rfl⟩
  | a :: l, o, ha, hk, hl, hb, hlo => by
    rw [List.foldl_cons]
    have h1 := ha a List.mem_cons_self
    have h2 := hb.getD (k := a.toNat) (by omega)
    have h3 := hb.getD (k := k) hk
    have h4 := jobsB_hrs hv (show a.toNat < js.length by omega)
    have hg : (lateM js k o a).getD k 0 = o.getD k 0 := by
      simp only [lateM, List.getD, List.getElem?_set_ne (show a.toNat ≠ k by omega)]
    have := lateM_bound hv l (lateM js k o a) (fun c hc => ha c (List.mem_cons_of_mem _ hc)) (by simpa [lateM] using hk) (by simpa [lateM] using hl) (hb.set (by omega)) (by rw [hg]; exact hlo)
    rw [hg] at this
    exact this
theorem lateGo_bound {js : List Jb} (hv : jobsB js = true) : ∀ c, c ≤ js.length → Btw (-100 - 100 * c) 1200 (lateGo js c)
  | 0, _ => by
    intro k x hx
    have hn := need_bound hv
    simp only [lateGo, late0, List.getElem?_map, Option.map_eq_some_iff] at hx
    obtain ⟨m, hm, rfl⟩ := hx
    have hml : m < js.length := by
      have := List.mem_of_getElem? hm
      simpa using this
    have := jobsB_hrs hv hml
    omega
  | c + 1, hc => by
    have ih := lateGo_bound hv c (by omega)
    have hk : js.length - (c + 1) < js.length := by omega
    have := lateM_bound hv (k := js.length - (c + 1)) (lo := -100 - 100 * c) (aft js (js.length - (c + 1))) (lateGo js c) (fun a ha => jobsB_mem hv hk ha) (by rw [lateGo_len]; exact hk) (lateGo_len js c)
      (fun k x hx => by have := ih k x hx; omega) (ih.getD (by rw [lateGo_len]; exact hk)).1
    intro k x hx
    have := this.1 k x hx
    omega

/-! ### the critical jobs; one by one -/
def critP (js : List Jb) (k : Nat) : Bool := decide ((earl js).getD k 0 = (late js).getD k 0)
def critN (js : List Jb) : List Nat := (List.range (earl js).length).filter (critP js)
def critGo (js : List Jb) (n : Nat) : List Nat := (List.range n).filter (critP js)
theorem critGo_succ (js : List Jb) (n : Nat) : critGo js (n + 1) = if critP js n = true then critGo js n ++ [n] else critGo js n := by
  unfold critGo
  rw [List.range_succ, List.filter_append]
  split <;> simp_all
theorem critGo_le (js : List Jb) (n : Nat) : (critGo js n).length ≤ n := by
  have := List.length_filter_le (critP js) (List.range n)
  simpa [critGo] using this
theorem critN_le (js : List Jb) : (critN js).length ≤ 12 := Nat.le_trans (critGo_le js _) (earl_le js)
def sumGo (js : List Jb) (n : Nat) : Int := ((List.range n).map (hrs js)).sum
theorem sumGo_succ (js : List Jb) (n : Nat) : sumGo js (n + 1) = sumGo js n + hrs js n := by simp [sumGo, List.range_succ, List.sum_append]
def oneBy (js : List Jb) : Int := if jobsB js = true then sumGo js js.length else -1
theorem sumGo_bound {js : List Jb} (hv : jobsB js = true) : ∀ n, n ≤ js.length → 0 ≤ sumGo js n ∧ sumGo js n ≤ 100 * n
  | 0, _ => by simp [sumGo]
  | n + 1, hn => by
    have ih := sumGo_bound hv n (by omega)
    have := jobsB_hrs hv (show n < js.length by omega)
    rw [sumGo_succ]
    omega
end Go.Proofs.Ytmkognfiemgmgaa
