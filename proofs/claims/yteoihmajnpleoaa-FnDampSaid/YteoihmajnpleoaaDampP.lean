/- Waiting in parts, and when a rack gets free: plain Lean. -/
import Derived.Test.YteoihmajnpleoaaDryAll
namespace Go.Proofs.Yteoihmajnpleoaa
set_option maxRecDepth 20000
set_option linter.unusedSimpArgs false
set_option linter.unusedVariables false
open Go Go.Ab

theorem dry_dry (a b : Int) (ha : 0 ≤ a) (hb : 0 ≤ b) (xs : List Int) : dryX b (dryX a xs) = dryX (a + b) xs := by
  induction xs with
  | nil => rfl
  | cons x xs ih =>
    simp only [dryX, List.filter_cons] at ih ⊢
    by_cases h1 : a < x
    · by_cases h2 : b < x - a
      · have h3 : a + b < x := by omega
        simp only [h1, h2, h3, decide_true, if_true, List.map_cons, List.filter_cons, ih]
        congr 1; omega
      · have h3 : ¬ a + b < x := by omega
        simp only [h1, h2, h3, decide_true, decide_false, if_true, Bool.false_eq_true, if_false, List.map_cons, List.filter_cons, ih]
    · have h3 : ¬ a + b < x := by omega
      simp only [h1, h3, decide_false, Bool.false_eq_true, if_false, ih]

/-- the longest that one needs -/
def mostW (xs : List Int) : Int := xs.foldl max 0
theorem foldlmax (l : List Int) (b : Int) : b ≤ l.foldl max b ∧ (∀ x ∈ l, x ≤ l.foldl max b) ∧ (l.foldl max b = b ∨ l.foldl max b ∈ l) := by
  induction l generalizing b with
  | nil => simp
  | cons a l ih =>
    obtain ⟨h1, h2, h3⟩ := ih (max b a)
    rw [List.foldl_cons]
    refine ⟨by omega, fun x hx => ?_, ?_⟩
    · rcases List.mem_cons.1 hx with rfl | hx
      · omega
      · exact h2 x hx
    · rcases h3 with h3 | h3
      · rw [h3]
        rcases Int.le_total b a with h | h
        · right; rw [show max b a = a by omega]; exact List.mem_cons_self
        · left; omega
      · exact .inr (List.mem_cons_of_mem _ h3)
theorem mostW_ge {xs : List Int} {x : Int} (h : x ∈ xs) : x ≤ mostW xs := (foldlmax xs 0).2.1 x h
theorem mostW_nonneg (xs : List Int) : 0 ≤ mostW xs := (foldlmax xs 0).1
theorem mostW_le {xs : List Int} {b : Int} (h0 : 0 ≤ b) (h : ∀ x ∈ xs, x ≤ b) : mostW xs ≤ b := by
  rcases (foldlmax xs 0).2.2 with h1 | h1
  · unfold mostW; omega
  · exact h _ h1
theorem mostW_snoc (xs : List Int) (x : Int) : mostW (xs ++ [x]) = max (mostW xs) x := by simp [mostW]
theorem mostW_mem {xs : List Int} (h : 0 < mostW xs) : mostW xs ∈ xs := by
  rcases (foldlmax xs 0).2.2 with h1 | h1
  · unfold mostW at h; omega
  · exact h1
theorem mem_dry {n : Int} {xs : List Int} {y : Int} : y ∈ dryX n xs ↔ ∃ x ∈ xs, n < x ∧ y = x - n := by
  simp only [dryX, List.mem_map, List.mem_filter, decide_eq_true_eq]
  constructor
  · rintro ⟨x, ⟨h1, h2⟩, h3⟩; exact ⟨x, h1, h2, h3.symm⟩
  · rintro ⟨x, h1, h2, h3⟩; exact ⟨x, ⟨h1, h2⟩, h3.symm⟩
theorem mostW_dry {n : Int} {xs : List Int} (h0 : 0 ≤ n) (hn : n ≤ mostW xs) : mostW (dryX n xs) = mostW xs - n := by
  have h1 : mostW (dryX n xs) ≤ mostW xs - n := mostW_le (by omega) fun y hy => by
    obtain ⟨x, hx, _, rfl⟩ := mem_dry.1 hy
    have := mostW_ge hx; omega
  rcases Int.lt_or_le n (mostW xs) with h2 | h2
  · have := mostW_ge (mem_dry.2 ⟨_, mostW_mem (by omega), h2, rfl⟩ : mostW xs - n ∈ dryX n xs)
    omega
  · have := mostW_nonneg (dryX n xs)
    omega
theorem dry_nil {n : Int} {xs : List Int} : dryX n xs = [] ↔ ∀ x ∈ xs, x ≤ n := by
  constructor
  · intro h x hx
    rcases Int.lt_or_le n x with h1 | h1
    · have := mem_dry.2 ⟨x, hx, h1, rfl⟩
      rw [h] at this; cases this
    · exact h1
  · intro h
    rw [List.eq_nil_iff_forall_not_mem]
    intro y hy
    obtain ⟨x, hx, h1, _⟩ := mem_dry.1 hy
    have := h x hx; omega

theorem rackOk_dry {p : Int} {xs : List Int} (h : rackOk p xs = true) {n : Int} (hn : 0 ≤ n) : rackOk p (dryX n xs) = true := by
  obtain ⟨h1, h2, h3, h4⟩ := rackOk_spec h
  have hle := dryX_le n xs
  simp only [rackOk, Bool.and_eq_true, decide_eq_true_eq, List.all_eq_true]
  refine ⟨⟨⟨h1, h2⟩, by omega⟩, fun y hy => ?_⟩
  obtain ⟨x, hx, hlt, rfl⟩ := mem_dry.1 hy
  have := List.all_eq_true.1 h4 x hx
  simp only [wetB, Bool.and_eq_true, decide_eq_true_eq] at this ⊢
  omega
theorem most_72 {p : Int} {xs : List Int} (h : rackOk p xs = true) : mostW xs ≤ 72 := by
  obtain ⟨_, _, _, h4⟩ := rackOk_spec h
  refine mostW_le (by omega) fun x hx => ?_
  have := List.all_eq_true.1 h4 x hx
  simp only [wetB, Bool.and_eq_true, decide_eq_true_eq] at this
  omega
theorem waitB_of {p : Int} {xs : List Int} (h : rackOk p xs = true) {n : Int} (h0 : 0 ≤ n) (h1 : n ≤ 1000) : waitB p xs n = true := by
  simp only [waitB, h, Bool.true_and, Bool.and_eq_true, decide_eq_true_eq]; exact ⟨h0, h1⟩

/-- what the search finds: enough places, and none sooner -/
theorem freeN_spec {p : Int} {xs : List Int} {k : Int} (h : freeB p xs k = true) : freeT p xs k (freeN p xs k) = true ∧ ∀ m : Nat, m < freeN p xs k → freeT p xs k m = false := by
  obtain ⟨hr, h0, h1⟩ := freeB_spec h
  obtain ⟨_, _, _, hw⟩ := rackOk_spec hr
  cases hf : (List.range 72).find? (freeT p xs k) with
  | none =>
    have hall := List.find?_eq_none.1 hf
    have he : freeN p xs k = 72 := by unfold freeN; rw [hf]; rfl
    rw [he]
    refine ⟨?_, fun m hm => ?_⟩
    · unfold freeT
      rw [show ((72 : Nat) : Int) = 72 from rfl, dry72 hw]
      simpa using h1
    · have := hall m (by simpa using hm)
      simpa using this
  | some n =>
    have he : freeN p xs k = n := by unfold freeN; rw [hf]; rfl
    rw [he]
    obtain ⟨h2, i, hi, h3, h4⟩ := List.find?_eq_some_iff_getElem.1 hf
    simp only [List.getElem_range] at h3 h4
    subst h3
    refine ⟨h2, fun m hm => ?_⟩
    have := h4 m hm
    simpa using this
theorem freeN_most {p : Int} {xs : List Int} {k : Int} (h : freeB p xs k = true) : (freeN p xs k : Int) ≤ mostW xs := by
  obtain ⟨_, hm⟩ := freeN_spec h
  obtain ⟨hr, h0, h1⟩ := freeB_spec h
  rcases Int.lt_or_le (mostW xs) (freeN p xs k) with hlt | hle
  · have h2 := mostW_nonneg xs
    have h3 := hm (mostW xs).toNat (by omega)
    have h4 : dryX ((mostW xs).toNat : Nat) xs = [] := dry_nil.2 fun x hx => by have := mostW_ge hx; omega
    unfold freeT at h3
    rw [h4] at h3
    simp at h3
    omega
  · exact hle
theorem freeN_all {p : Int} {xs : List Int} (hr : rackOk p xs = true) : (freeN p xs p : Int) = mostW xs := by
  have hb : freeB p xs p = true := by
    obtain ⟨h1, h2, _, _⟩ := rackOk_spec hr
    simp only [freeB, hr, Bool.true_and, Bool.and_eq_true, decide_eq_true_eq]; omega
  have h1 := freeN_most hb
  obtain ⟨h2, _⟩ := freeN_spec hb
  have h3 : dryX (freeN p xs p) xs = [] := by
    unfold freeT at h2
    refine List.eq_nil_of_length_eq_zero ?_
    simp at h2; omega
  have h4 := mostW_le (b := freeN p xs p) (by omega) (dry_nil.1 h3)
  omega

/-- when the last one is dry -/
def lastW (s : List Int × Int) : Int := s.2 + mostW s.1
theorem dryStep_ok {p : Int} {s : List Int × Int} {x : Int} (hr : rackOk p s.1 = true) (hx : 1 ≤ x ∧ x ≤ 72) :
    rackOk p (dryStep p s x).1 = true ∧ s.2 ≤ (dryStep p s x).2 ∧ (dryStep p s x).2 ≤ lastW s ∧ lastW (dryStep p s x) = max (lastW s) ((dryStep p s x).2 + x) := by
  obtain ⟨h1, h2, h3, h4⟩ := rackOk_spec hr
  have hb : freeB p s.1 1 = true := by
    simp only [freeB, hr, Bool.true_and, Bool.and_eq_true, decide_eq_true_eq]; omega
  have hF : freeH p s.1 1 = freeN p s.1 1 := if_pos hb
  have hm := freeN_most hb
  have h72 := most_72 hr
  obtain ⟨ht, _⟩ := freeN_spec hb
  have hW : waitX p s.1 (freeN p s.1 1) = dryX (freeN p s.1 1) s.1 := waitX_ok (waitB_of hr (by omega) (by omega))
  have hr' := rackOk_dry hr (n := (freeN p s.1 1 : Int)) (by omega)
  have hlen : ((dryX (freeN p s.1 1) s.1).length : Int) + 1 ≤ p := by
    unfold freeT at ht
    simp at ht; omega
  obtain ⟨_, _, _, h8⟩ := rackOk_spec hr'
  have hr2 : rackOk p (dryX (freeN p s.1 1) s.1 ++ [x]) = true := by
    simp only [rackOk, Bool.and_eq_true, decide_eq_true_eq, List.all_append, h8, List.all_cons, List.all_nil, wetB, List.length_append, List.length_cons, List.length_nil]
    simp
    omega
  have hH : hangX p (dryX (freeN p s.1 1) s.1) x = dryX (freeN p s.1 1) s.1 ++ [x] := hangX_ok (by rw [hangB, hr', hr2]; rfl)
  have he : dryStep p s x = (dryX (freeN p s.1 1) s.1 ++ [x], s.2 + freeN p s.1 1) := by
    unfold dryStep
    rw [hF, hW, hH]
  rw [he]
  have hmd := mostW_dry (n := (freeN p s.1 1 : Int)) (by omega) hm
  refine ⟨hr2, by dsimp only; omega, by unfold lastW; dsimp only; omega, ?_⟩
  unfold lastW
  dsimp only
  rw [mostW_snoc, hmd]
  omega
theorem dryGo_cons3 (p : Int) (xs : List Int) (a b c : Int) : dryGo p xs [a, b, c] = dryStep p (dryStep p (dryStep p (xs, 0) a) b) c := rfl

theorem dryAll_bound {p : Int} {xs : List Int} (hr : rackOk p xs = true) : dryH p xs [5, 9, 2] ≥ max (mostW xs) 9 ∧ dryH p xs [5, 9, 2] ≤ mostW xs + 16 := by
  have hb : dryB p xs [5, 9, 2] = true := by simp [dryB, hr, wetB]
  rw [dryH, if_pos hb, dryGo_cons3]
  obtain ⟨r1, a1, b1, c1⟩ := dryStep_ok (p := p) (s := (xs, 0)) (x := 5) hr (by omega)
  obtain ⟨r2, a2, b2, c2⟩ := dryStep_ok (x := 9) r1 (by omega)
  obtain ⟨r3, a3, b3, c3⟩ := dryStep_ok (x := 2) r2 (by omega)
  generalize dryStep p (xs, 0) 5 = s1 at *
  generalize dryStep p s1 9 = s2 at *
  generalize dryStep p s2 2 = s3 at *
  have hf := freeN_all r3
  have hb3 : freeB p s3.1 p = true := by
    obtain ⟨h1, h2, _, _⟩ := rackOk_spec r3
    simp only [freeB, r3, Bool.true_and, Bool.and_eq_true, decide_eq_true_eq]; omega
  rw [freeH, if_pos hb3, hf]
  unfold lastW at *
  dsimp only at *
  omega
theorem dryAll_none {p : Int} {xs : List Int} (hr : rackOk p xs = true) : dryH p xs [] = mostW xs := by
  have hb : dryB p xs [] = true := by simp [dryB, hr]
  have hb3 : freeB p xs p = true := by
    obtain ⟨h1, h2, _, _⟩ := rackOk_spec hr
    simp only [freeB, hr, Bool.true_and, Bool.and_eq_true, decide_eq_true_eq]; omega
  rw [dryH, if_pos hb]
  show 0 + freeH p xs p = _
  rw [freeH, if_pos hb3, freeN_all hr]; omega
theorem hang12 {p : Int} {xs : List Int} (hr : rackOk p xs = true) : hangB p xs 12 = decide ((xs.length : Int) < p) := by
  obtain ⟨h1, h2, h3, h4⟩ := rackOk_spec hr
  rw [hangB, hr, Bool.true_and]
  rw [rackOk]
  have h5 : (xs ++ [12]).all wetB = true := by rw [List.all_append, h4]; rfl
  rw [h5]
  simp only [List.length_append, List.length_cons, List.length_nil, Bool.and_true, h1, h2, decide_true]
  simp; omega
end Go.Proofs.Yteoihmajnpleoaa
