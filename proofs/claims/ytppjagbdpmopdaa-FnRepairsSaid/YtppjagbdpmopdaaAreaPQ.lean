/- Areas between strips, counted along the steps. Plain Lean; no program in sight. -/
import Derived.Test.YtppjagbdpmopdaaHtsQ
import Derived.Test.YtppjagbdpmopdaaMidLawQ
namespace Go.Proofs.Ytppjagbdpmopdaa
set_option maxRecDepth 20000
set_option linter.unusedSimpArgs false
set_option linter.unusedVariables false
open Go Go.Ab
def sumR (f : Nat → Int) : Nat → Int
  | 0 => 0
  | n + 1 => sumR f n + f n
theorem sumR_congr {f g : Nat → Int} : ∀ n, (∀ k, k < n → f k = g k) → sumR f n = sumR g n
  | 0, _ => rfl
  | n + 1, h => by rw [sumR, sumR, sumR_congr n fun k hk => h k (by omega), h n (by omega)]
theorem sumR_add (f g : Nat → Int) : ∀ n, sumR (fun k => f k + g k) n = sumR f n + sumR g n
  | 0 => rfl
  | n + 1 => by rw [sumR, sumR, sumR, sumR_add f g n]; omega
theorem sumR_sub (f g : Nat → Int) : ∀ n, sumR (fun k => f k - g k) n = sumR f n - sumR g n
  | 0 => rfl
  | n + 1 => by rw [sumR, sumR, sumR, sumR_sub f g n]; omega
theorem sumR_le {f g : Nat → Int} : ∀ n, (∀ k, k < n → f k ≤ g k) → sumR f n ≤ sumR g n
  | 0, _ => Int.le_refl _
  | n + 1, h => by
    have h1 := sumR_le n fun k hk => h k (by omega)
    have h2 := h n (by omega)
    rw [sumR, sumR]; omega
theorem sumR_nil : ∀ n, sumR (fun _ => 0) n = 0
  | 0 => rfl
  | n + 1 => by rw [sumR, sumR_nil n]; rfl
theorem sumR_swap (f : Nat → Nat → Int) (m : Nat) : ∀ n, sumR (fun j => sumR (fun i => f i j) m) n = sumR (fun i => sumR (fun j => f i j) n) m
  | 0 => by rw [sumR]; exact (sumR_nil m).symm
  | n + 1 => by
    rw [sumR, sumR_swap f m n, ← sumR_add]
    exact sumR_congr _ fun k _ => rfl
def dI (a b : Int) : Int := max (a - b) (b - a)
def iv (p : Prop) [Decidable p] : Int := if p then 1 else 0
/-- where all differences have one sign the sum's difference is the sum of the differences -/
theorem sum_pos {f g : Nat → Int} : ∀ n, (∀ k, k < n → g k ≤ f k) → sumR g n ≤ sumR f n ∧ sumR (fun k => dI (f k) (g k)) n = sumR f n - sumR g n
  | 0, _ => ⟨Int.le_refl _, rfl⟩
  | n + 1, h => by
    obtain ⟨h1, h2⟩ := sum_pos n fun k hk => h k (by omega)
    have h3 := h n (by omega)
    rw [sumR, sumR, sumR, h2]
    unfold dI; omega
theorem sum_neg {f g : Nat → Int} : ∀ n, (∀ k, k < n → f k ≤ g k) → sumR f n ≤ sumR g n ∧ sumR (fun k => dI (f k) (g k)) n = sumR g n - sumR f n
  | 0, _ => ⟨Int.le_refl _, rfl⟩
  | n + 1, h => by
    obtain ⟨h1, h2⟩ := sum_neg n fun k hk => h k (by omega)
    have h3 := h n (by omega)
    rw [sumR, sumR, sumR, h2]
    unfold dI; omega
theorem count_le (a b : Nat) : ∀ n, sumR (fun j => dI (iv (a ≤ j)) (iv (b ≤ j))) n = dI ((min a n : Nat) : Int) ((min b n : Nat) : Int)
  | 0 => by simp [sumR, dI]
  | n + 1 => by
    rw [sumR, count_le a b n]
    unfold iv dI
    by_cases h1 : a ≤ n <;> by_cases h2 : b ≤ n <;> simp only [h1, h2, if_true, if_false] <;> omega
abbrev F (b : ByteArray) (k : Nat) : Nat := cK 102 b k
/-- how many beginnings have at most j steps forward -/
theorem ht_get {b : ByteArray} : ∀ {k : Nat}, k ≤ b.size → (∀ j, F b k ≤ j → sumR (fun i => iv (F b i ≤ j)) (k + 1) = k + 1) ∧ ∀ j, j < F b k → (htG b k).getD j 0 = (cA 100 b : Nat) + (j : Int) + 1 - sumR (fun i => iv (F b i ≤ j)) (k + 1)
  | 0, _ => by
    refine ⟨fun j hj => ?_, fun j hj => ?_⟩
    · rw [sumR, sumR]; simp only [F, cK_zero, iv]; simp
    · simp only [F, cK_zero] at hj; omega
  | k + 1, hk => by
    obtain ⟨h1, h2⟩ := ht_get (b := b) (k := k) (by omega)
    have hl : (htG b k).length = F b k := htG_len b (k := k) (by omega)
    have hs : ∀ j, sumR (fun i => iv (F b i ≤ j)) (k + 1 + 1) = sumR (fun i => iv (F b i ≤ j)) (k + 1) + iv (F b (k + 1) ≤ j) := fun j => rfl
    by_cases hb : byAt b k = 102
    · have hF : F b (k + 1) = F b k + 1 := cK_hit (by omega) hb
      refine ⟨fun j hj => ?_, fun j hj => ?_⟩
      · rw [hs, h1 j (by omega), iv, if_pos hj]; omega
      · rw [hs, htG_f hb, iv, if_neg (by omega)]
        rcases Nat.lt_or_ge j (F b k) with h | h
        · have := h2 j h
          rw [List.getD, List.getElem?_append_left (by omega)]
          rw [List.getD] at this
          rw [this]; omega
        · obtain rfl : j = F b k := by omega
          rw [List.getD, List.getElem?_append_right (by omega), hl, Nat.sub_self]
          rw [h1 _ (Nat.le_refl _)]
          simp only [List.getElem?_cons_zero, Option.getD_some, hgt, F]
          omega
    · have hF : F b (k + 1) = F b k := cK_miss (by omega) hb
      refine ⟨fun j hj => ?_, fun j hj => ?_⟩
      · rw [hs, h1 j (by omega), iv, if_pos hj]; omega
      · rw [hs, htG_d hb, iv, if_neg (by omega), h2 j (by omega)]; omega
theorem F_mono {b : ByteArray} {i j : Nat} (h : i ≤ j) : F b i ≤ F b j := cK_mono h
theorem F_end {b : ByteArray} {k : Nat} (h : b.size ≤ k) : F b k = cA 102 b := cK_all h
theorem ht_at {b : ByteArray} {j : Nat} (hj : j < cA 102 b) : (htL b).getD j 0 = (cA 100 b : Nat) + (j : Int) + 1 - sumR (fun i => iv (F b i ≤ j)) (b.size + 1) :=
  (ht_get (Nat.le_refl b.size)).2 j (by rw [F_end (Nat.le_refl _)]; exact hj)
theorem areaL_sum (a b : List Int) : ∀ n, areaL a b n = sumR (fun k => dI (a.getD k 0) (b.getD k 0)) n
  | 0 => rfl
  | n + 1 => by rw [areaL, sumR, areaL_sum a b n]; rfl
/-- the area between two strips, along their steps -/
def areaF (s t : ByteArray) : Int := sumR (fun i => dI (F s i) (F t i)) (s.size + 1)
theorem area_F {s t : ByteArray} (h : Frame s t) : areaI s t = areaF s t := by
  rw [areaI, if_pos (frame_iff.2 h), areaL_sum, htL_len]
  have hz := h.size
  have e1 : sumR (fun k => dI ((htL s).getD k 0) ((htL t).getD k 0)) (cA 102 s) = sumR (fun j => sumR (fun i => dI (iv (F s i ≤ j)) (iv (F t i ≤ j))) (s.size + 1)) (cA 102 s) := by
    refine sumR_congr _ fun j hj => ?_
    rw [ht_at hj, ht_at (b := t) (by rw [← h.f]; exact hj), ← h.d, ← hz]
    by_cases hsig : ∀ i, i < s.size + 1 → iv (F s i ≤ j) ≤ iv (F t i ≤ j)
    · obtain ⟨p1, p2⟩ := sum_neg (s.size + 1) hsig
      rw [p2]; unfold dI; omega
    · have hsig2 : ∀ i, i < s.size + 1 → iv (F t i ≤ j) ≤ iv (F s i ≤ j) := by
        refine Decidable.byContradiction fun hno => ?_
        refine hsig fun i hi => Decidable.byContradiction fun h1 => ?_
        refine hno fun i' hi' => Decidable.byContradiction fun h2 => ?_
        unfold iv at h1 h2
        have a1 : F s i ≤ j ∧ ¬ F t i ≤ j := by
          by_cases x : F s i ≤ j <;> by_cases y : F t i ≤ j <;> simp [x, y] at h1 ⊢
        have a2 : F t i' ≤ j ∧ ¬ F s i' ≤ j := by
          by_cases x : F s i' ≤ j <;> by_cases y : F t i' ≤ j <;> simp [x, y] at h2 ⊢
        rcases Nat.le_total i i' with hh | hh
        · have := F_mono (b := t) hh; omega
        · have := F_mono (b := s) hh; omega
      obtain ⟨p1, p2⟩ := sum_pos (s.size + 1) hsig2
      rw [p2]; unfold dI; omega
  rw [e1, sumR_swap, areaF]
  refine sumR_congr _ fun i hi => ?_
  rw [count_le]
  have h1 : F s i ≤ cA 102 s := by rw [← F_end (Nat.le_refl s.size)]; exact F_mono (by omega)
  have h2 : F t i ≤ cA 102 s := by rw [h.f, ← F_end (Nat.le_refl t.size)]; exact F_mono (by omega)
  rw [Nat.min_eq_left h1, Nat.min_eq_left h2]
/-! ### the room under a strip -/
def roomL (b : ByteArray) : Int := (htL b).sum
theorem room_go {b : ByteArray} : ∀ {k : Nat}, k ≤ b.size → 2 * (htG b k).sum = 2 * ((F b k : Int) * (cA 100 b : Nat)) + (F b k : Int) * ((F b k : Int) - 1) - 2 * ((k : Int) * (F b k : Nat)) + 2 * sumR (fun i => (F b i : Int)) (k + 1)
  | 0, _ => by simp [htG, sumR, F, cK_zero]
  | k + 1, hk => by
    have ih := room_go (b := b) (k := k) (by omega)
    have hs : sumR (fun i => (F b i : Int)) (k + 1 + 1) = sumR (fun i => (F b i : Int)) (k + 1) + (F b (k + 1) : Int) := rfl
    by_cases hb : byAt b k = 102
    · have hF : F b (k + 1) = F b k + 1 := cK_hit (by omega) hb
      rw [hs, htG_f hb, List.sum_append, hF]
      simp only [List.sum_cons, List.sum_nil, hgt, Int.add_zero]
      generalize sumR (fun i => (F b i : Int)) (k + 1) = S at *
      show 2 * ((htG b k).sum + ((cA 100 b : Nat) - ((k : Int) - (F b k : Nat)))) = _
      generalize (htG b k).sum = A at *
      generalize F b k = f at *
      generalize cA 100 b = d at *
      have e1 : ((f + 1 : Nat) : Int) * (d : Nat) = (f : Int) * (d : Nat) + d := by rw [Int.natCast_add, Int.add_mul]; simp
      have e2 : ((f + 1 : Nat) : Int) * (((f + 1 : Nat) : Int) - 1) = (f : Int) * ((f : Int) - 1) + 2 * f := by
        rw [show ((f + 1 : Nat) : Int) - 1 = (f : Int) by omega, Int.natCast_add, Int.add_mul, Int.mul_sub]; simp; omega
      have e3 : ((k + 1 : Nat) : Int) * ((f + 1 : Nat) : Int) = (k : Int) * (f : Nat) + k + f + 1 := by
        rw [Int.natCast_add, Int.natCast_add, Int.add_mul, Int.mul_add]; simp; omega
      rw [e1, e2, e3]
      generalize (f : Int) * (d : Nat) = x1 at *
      generalize (f : Int) * ((f : Int) - 1) = x2 at *
      generalize (k : Int) * (f : Nat) = x3 at *
      omega
    · have hF : F b (k + 1) = F b k := cK_miss (by omega) hb
      rw [hs, htG_d hb, hF, ih]
      have e3 : ((k + 1 : Nat) : Int) * (F b k : Nat) = (k : Int) * (F b k : Nat) + (F b k : Nat) := by
        rw [Int.natCast_add, Int.add_mul]; simp
      rw [e3]
      generalize (k : Int) * (F b k : Nat) = x3
      omega
/-- of two strips of one frame: how the rooms differ -/
theorem room_diff {s t : ByteArray} (h : Frame s t) : roomL s - roomL t = sumR (fun i => (F s i : Int)) (s.size + 1) - sumR (fun i => (F t i : Int)) (s.size + 1) := by
  have h1 := room_go (Nat.le_refl s.size)
  have h2 := room_go (Nat.le_refl t.size)
  rw [F_end (Nat.le_refl _)] at h1 h2
  rw [← h.d, ← h.f, ← h.size] at h2
  have e1 : (htG s s.size).sum = roomL s := rfl
  have e2 : (htG t s.size).sum = roomL t := by rw [h.size]; rfl
  rw [e1] at h1
  rw [e2] at h2
  generalize (cA 102 s : Int) * (cA 100 s : Nat) = x1 at *
  generalize (cA 102 s : Int) * ((cA 102 s : Int) - 1) = x2 at *
  generalize (s.size : Int) * (cA 102 s : Nat) = x3 at *
  omega
/-- the area between two strips is the room between their upper and their lower -/
theorem area_rooms {s t : ByteArray} (h : Frame s t) : areaI s t = roomL (uppB s t) - roomL (lowB s t) := by
  have hu : Frame (uppB s t) s := mix_frame h
  have hl : Frame (lowB s t) s := mix_frame h
  rw [room_diff (hu.trans hl.symm), area_F h, areaF]
  have hz : (uppB s t).size = s.size := hu.size
  rw [hz, ← sumR_sub]
  refine sumR_congr _ fun i hi => ?_
  have e1 : F (uppB s t) i = sel true (F s i) (F t i) := mix_cK h (by omega)
  have e2 : F (lowB s t) i = sel false (F s i) (F t i) := mix_cK h (by omega)
  rw [e1, e2]
  simp only [sel, dI, if_true, Bool.false_eq_true, if_false]
  omega
/-! ### steps that differ -/
def chG (s t : ByteArray) : Nat → Int
  | 0 => 0
  | k + 1 => if byAt s k = byAt t k then chG s t k else chG s t k + 1
def chI (s t : ByteArray) : Int := if frameB s t = true then chG s t s.size else -1
theorem chG_bnd (s t : ByteArray) : ∀ k : Nat, 0 ≤ chG s t k ∧ chG s t k ≤ k
  | 0 => by simp [chG]
  | k + 1 => by
    have := chG_bnd s t k
    rw [chG]; split <;> omega
theorem chG_even {s t : ByteArray} (h : Frame s t) : ∀ {k : Nat}, k ≤ s.size → (chG s t k + F s k + F t k) % 2 = 0
  | 0, _ => by simp [chG, F, cK_zero]
  | k + 1, hk => by
    have ih := chG_even h (k := k) (by omega)
    have hz := h.size
    have e1 : F s (k + 1) = F s k + (if byAt s k = 102 then 1 else 0) := cK_succ 102 s (by omega)
    have e2 : F t (k + 1) = F t k + (if byAt t k = 102 then 1 else 0) := cK_succ 102 t (by omega)
    rw [chG, e1, e2]
    have n1 : (100 : UInt8) ≠ 102 := by decide
    have n2 : (102 : UInt8) ≠ 100 := by decide
    rcases h.1.byte (show k < s.size by omega) with x | x <;> rcases h.2.byte (show k < t.size by omega) with y | y
    · rw [x, y, if_pos rfl, if_neg n1]; simpa using ih
    · rw [x, y, if_neg n1, if_neg n1, if_pos rfl]; omega
    · rw [x, y, if_neg n2, if_pos rfl, if_neg n1]; omega
    · rw [x, y, if_pos rfl, if_pos rfl]; omega
theorem ch_even {s t : ByteArray} (h : Frame s t) : chI s t % 2 = 0 := by
  rw [chI, if_pos (frame_iff.2 h)]
  have h1 := chG_even h (Nat.le_refl _)
  rw [F_end (Nat.le_refl _), F_end (by rw [h.size]; exact Nat.le_refl _), ← h.f] at h1
  omega
theorem chG_zero {s t : ByteArray} : ∀ {k : Nat}, chG s t k = 0 → ∀ i, i < k → byAt s i = byAt t i
  | 0, _, i, hi => by omega
  | k + 1, h, i, hi => by
    have hb := chG_bnd s t k
    rw [chG] at h
    split at h
    · rename_i he
      rcases Nat.lt_or_ge i k with h' | h'
      · exact chG_zero h i h'
      · obtain rfl : i = k := by omega
        exact he
    · omega
theorem ch_zero {s t : ByteArray} (h : Frame s t) : chI s t = 0 ↔ s = t := by
  rw [chI, if_pos (frame_iff.2 h)]
  constructor
  · intro h0
    refine strip_ext h fun k hk => ?_
    have hz := h.size
    have key : ∀ m, m ≤ s.size → cK 102 s m = cK 102 t m := by
      intro m
      induction m with
      | zero => intro _; rw [cK_zero, cK_zero]
      | succ m ih =>
        intro hm
        rw [cK_succ 102 s (by omega), cK_succ 102 t (by omega), ih (by omega), chG_zero h0 m (by omega)]
    exact key k hk
  · intro he
    subst he
    have key : ∀ m, chG s s m = 0 := by
      intro m
      induction m with
      | zero => rfl
      | succ m ih => rw [chG, if_pos rfl, ih]
    exact key _
/-! ### what the law says of three strips -/
theorem areaF_le {s a b : ByteArray} (hz : ∀ i, i ≤ s.size → dI (F s i) (F a i) ≤ dI (F s i) (F b i)) : areaF s a ≤ areaF s b :=
  sumR_le _ fun k hk => hz k (by omega)
theorem low_F {r t : ByteArray} (h : Frame r t) {i : Nat} (hi : i ≤ r.size) : F (lowB r t) i = min (F r i) (F t i) := by
  have : F (lowB r t) i = sel false (F r i) (F t i) := mix_cK h hi
  rw [this]; simp [sel]
theorem upp_F {r t : ByteArray} (h : Frame r t) {i : Nat} (hi : i ≤ r.size) : F (uppB r t) i = max (F r i) (F t i) := by
  have : F (uppB r t) i = sel true (F r i) (F t i) := mix_cK h hi
  rw [this]; simp [sel]
theorem low_fr {r t : ByteArray} (h : Frame r t) : Frame (lowB r t) r := mix_frame h
theorem upp_fr {r t : ByteArray} (h : Frame r t) : Frame (uppB r t) r := mix_frame h
/-- the nearest between is clamped, step by step -/
theorem near_F {l s h : ByteArray} (hl : Frame l s) (ha : aboveB h l = true) : Frame (nearB l s h) s ∧ ∀ i, i ≤ s.size → F (nearB l s h) i = min (max (F s i) (F l i)) (F h i) := by
  have hf := above_frame ha
  have hn : nearB l s h = lowB (uppB s l) h := if_pos ⟨frame_iff.2 hl, ha⟩
  have f1 := upp_fr hl.symm
  have f2 : Frame (uppB s l) h := f1.trans (hl.symm.trans hf.symm)
  rw [hn]
  refine ⟨(low_fr f2).trans f1, fun i hi => ?_⟩
  rw [low_F f2 (by rw [f1.size]; exact hi), upp_F hl.symm hi]
theorem mid_F {r s t : ByteArray} (h1 : Frame r s) (h2 : Frame s t) : Frame (midB r s t) s ∧ ∀ i, i ≤ s.size → F (midB r s t) i = max (min (F r i) (F s i)) (min (max (F r i) (F s i)) (F t i)) := by
  rw [← mid_eq]
  have hm : midI r s t = uppB (lowB r s) (lowB (uppB r s) t) := if_pos ⟨frame_iff.2 h1, frame_iff.2 h2⟩
  have f1 := low_fr h1
  have f2 := upp_fr h1
  have f3 : Frame (uppB r s) t := f2.trans (h1.trans h2)
  have f4 := low_fr f3
  have f5 : Frame (lowB r s) (lowB (uppB r s) t) := f1.trans (f2.symm.trans f4.symm)
  have f6 := upp_fr f5
  rw [hm]
  refine ⟨f6.trans (f1.trans h1), fun i hi => ?_⟩
  have hz := h1.size
  rw [upp_F f5 (by rw [f1.size]; omega), low_F h1 (by omega), low_F f3 (by rw [f2.size]; omega), upp_F h1 (by omega)]
structure Law3 (r s t low high n m : ByteArray) : Prop where
  nb : aboveB n low = true ∧ aboveB high n = true
  eq : (n = s) ↔ (aboveB s low = true ∧ aboveB high s = true)
  turn : m = midB t r s
  same : m = n
  a1 : areaI s n ≤ areaI s r
  a2 : areaI s n ≤ areaI s t
  a3 : areaI s n ≤ areaI s low
  a4 : areaI s n ≤ areaI s high
  sum : 2 * (areaI m r + areaI m s + areaI m t) = areaI r s + areaI s t + areaI r t
theorem law3 {r s t : ByteArray} (h1 : Frame r s) (h2 : Frame s t) : Law3 r s t (lowB r t) (uppB r t) (nearB (lowB r t) s (uppB r t)) (midB r s t) := by
  have h3 := h1.trans h2
  have z1 := h1.size
  have z2 := h2.size
  have fl := low_fr h3
  have fu := upp_fr h3
  have hlu : aboveB (uppB r t) (lowB r t) = true := by
    refine above_of (fu.trans fl.symm) fun k hk => ?_
    rw [fu.size] at hk
    have e1 := low_F h3 hk
    have e2 := upp_F h3 hk
    simp only [F] at e1 e2
    omega
  obtain ⟨fn, en⟩ := near_F (fl.trans h1) hlu
  obtain ⟨fm, em⟩ := mid_F h1 h2
  have en' : ∀ i, i ≤ s.size → F (nearB (lowB r t) s (uppB r t)) i = min (max (F s i) (min (F r i) (F t i))) (max (F r i) (F t i)) := fun i hi => by
    rw [en i hi, low_F h3 (by omega), upp_F h3 (by omega)]
  generalize nearB (lowB r t) s (uppB r t) = n at *
  have hmn : midB r s t = n := strip_ext (fm.trans fn.symm) fun k hk => by
    have hk' : k ≤ s.size := by rw [← fm.size]; exact hk
    have e1 := em k hk'
    have e2 := en' k hk'
    simp only [F] at e1 e2
    omega
  obtain ⟨ft, et⟩ := mid_F h3.symm h1
  have hmt : midB r s t = midB t r s := strip_ext (fm.trans (h1.symm.trans ft.symm)) fun k hk => by
    have hk' : k ≤ s.size := by rw [← fm.size]; exact hk
    have e1 := em k hk'
    have e2 := et k (by omega)
    simp only [F] at e1 e2
    omega
  have lowF : ∀ i, i ≤ s.size → F (lowB r t) i = min (F r i) (F t i) := fun i hi => low_F h3 (by omega)
  have uppF : ∀ i, i ≤ s.size → F (uppB r t) i = max (F r i) (F t i) := fun i hi => upp_F h3 (by omega)
  have fls : Frame (lowB r t) s := fl.trans h1
  have fus : Frame (uppB r t) s := fu.trans h1
  refine ⟨⟨?_, ?_⟩, ⟨fun he => ?_, fun ⟨ha, hb⟩ => ?_⟩, hmt, hmn, ?_, ?_, ?_, ?_, ?_⟩
  · refine above_of (fn.trans fls.symm) fun k hk => ?_
    rw [fn.size] at hk
    have e1 := en' k hk
    have e2 := lowF k hk
    simp only [F] at e1 e2
    omega
  · refine above_of (fus.trans fn.symm) fun k hk => ?_
    rw [fus.size] at hk
    have e1 := en' k hk
    have e2 := uppF k hk
    simp only [F] at e1 e2
    omega
  · refine ⟨above_of fls.symm fun k hk => ?_, above_of fus fun k hk => ?_⟩
    · have e1 := en' k hk
      have e2 := lowF k hk
      rw [he] at e1
      simp only [F] at e1 e2
      omega
    · rw [fus.size] at hk
      have e1 := en' k hk
      have e2 := uppF k hk
      rw [he] at e1
      simp only [F] at e1 e2
      omega
  · refine strip_ext fn fun k hk => ?_
    rw [fn.size] at hk
    have e1 := en' k hk
    have e2 := lowF k hk
    have e3 := uppF k hk
    have e4 := above_at ha hk
    have e5 := above_at hb (by rw [fus.size]; exact hk)
    simp only [F] at e1 e2 e3
    omega
  · rw [area_F fn.symm, area_F h1.symm]
    refine areaF_le fun i hi => ?_
    rw [en' i hi]; unfold dI; omega
  · rw [area_F fn.symm, area_F h2]
    refine areaF_le fun i hi => ?_
    rw [en' i hi]; unfold dI; omega
  · rw [area_F fn.symm, area_F fls.symm]
    refine areaF_le fun i hi => ?_
    rw [en' i hi, lowF i hi]; unfold dI; omega
  · rw [area_F fn.symm, area_F fus.symm]
    refine areaF_le fun i hi => ?_
    rw [en' i hi, uppF i hi]; unfold dI; omega
  · rw [area_F (fm.trans h1.symm), area_F fm, area_F (fm.trans h2), area_F h1, area_F h2, area_F h3]
    unfold areaF
    rw [fm.size, z1, ← sumR_add, ← sumR_add, ← sumR_add, ← sumR_add]
    have dbl : ∀ (f : Nat → Int) n, 2 * sumR f n = sumR (fun i => 2 * f i) n := fun f n => by
      induction n with
      | zero => rfl
      | succ n ih => rw [sumR, sumR, ← ih]; omega
    rw [dbl]
    refine sumR_congr _ fun i hi => ?_
    rw [em i (by omega)]; unfold dI; omega
end Go.Proofs.Ytppjagbdpmopdaa
