/- Editions: what is computed of them, in plain Lean. -/
import Derived.Test.YtdpopimpdhgfaaaLot
namespace Go.Proofs.Ytdpopimpdhgfaaa
set_option maxRecDepth 20000
set_option linter.unusedSimpArgs false
set_option linter.unusedVariables false
open Go Go.Ab

theorem rev_ind {α : Type} {p : List α → Prop} (h0 : p []) (h1 : ∀ l a, p l → p (l ++ [a])) (l : List α) : p l := by
  have key : ∀ m : List α, p m.reverse := by
    intro m
    induction m with
    | nil => exact h0
    | cons a m ih => rw [List.reverse_cons]; exact h1 _ _ ih
  have := key l.reverse
  rwa [List.reverse_reverse] at this

def edP (sz : Int) (xs : List Int) (k : Nat) : Bool := inR 1 sz (xs.getD k 0) && !hasI (xs.take k) (xs.getD k 0)
def edG (sz : Int) (xs : List Int) (k : Nat) : Bool := allB (edP sz xs) k
/-- a valid edition -/
def edB (sz : Int) (xs : List Int) : Bool := inR 1 500 sz && edG sz xs xs.length
theorem edP_of {sz : Int} {xs : List Int} {k : Nat} {x : Int} (h : xs[k]? = some x) : edP sz xs k = (inR 1 sz x && !hasI (xs.take k) x) := by
  simp [edP, List.getD, h]
theorem edG_more {sz : Int} {xs : List Int} {k : Nat} {x : Int} (h : xs[k]? = some x) (hg : edG sz xs k = true) (h1 : inR 1 sz x = true) (h2 : hasI (xs.take k) x = false) : edG sz xs (k + 1) = true :=
  allB_more hg (by rw [edP_of h, h1, h2]; rfl)
theorem edB_bad1 {sz : Int} {xs : List Int} {k : Nat} {x : Int} (h : xs[k]? = some x) (h1 : inR 1 sz x = false) : edB sz xs = false := by
  rw [edB, edG, allB_bad (m := k) (some_lt h) (by rw [edP_of h, h1]; rfl), Bool.and_false]
theorem edB_bad2 {sz : Int} {xs : List Int} {k : Nat} {x : Int} (h : xs[k]? = some x) (h1 : hasI (xs.take k) x = true) : edB sz xs = false := by
  rw [edB, edG, allB_bad (m := k) (some_lt h) (by rw [edP_of h, h1, Bool.and_comm]; rfl), Bool.and_false]
theorem hasI_iff {l : List Int} {n : Int} : hasI l n = true ↔ n ∈ l := by simp [hasI]
theorem hasI_not {l : List Int} {n : Int} : hasI l n = false ↔ n ∉ l := by
  rw [← hasI_iff, Bool.not_eq_true]
theorem edG_nodup {sz : Int} {xs : List Int} : ∀ k, k ≤ xs.length → edG sz xs k = true → (xs.take k).Nodup ∧ ∀ x ∈ xs.take k, 1 ≤ x ∧ x ≤ sz
  | 0, _, _ => by simp
  | k + 1, hk, hg => by
    obtain ⟨x, hx⟩ := some_at (show k < xs.length by omega)
    have hg' : edG sz xs k = true ∧ edP sz xs k = true := by
      rw [edG, allB_succ, Bool.and_eq_true] at hg; exact hg
    obtain ⟨h1, h2⟩ := edG_nodup k (by omega) hg'.1
    have h3 := hg'.2
    rw [edP_of hx, Bool.and_eq_true, inR_iff, Bool.not_eq_true', hasI_not] at h3
    rw [take_snoc hx]
    refine ⟨?_, fun y hy => ?_⟩
    · rw [List.nodup_append]
      refine ⟨h1, by simp, fun a ha b hb => ?_⟩
      simp only [List.mem_singleton] at hb
      subst hb
      intro he; subst he; exact h3.2 ha
    · rcases List.mem_append.1 hy with hy | hy
      · exact h2 y hy
      · simp only [List.mem_singleton] at hy; subst hy; exact h3.1
theorem edB_spec {sz : Int} {xs : List Int} (h : edB sz xs = true) : (1 ≤ sz ∧ sz ≤ 500) ∧ xs.Nodup ∧ ∀ x ∈ xs, 1 ≤ x ∧ x ≤ sz := by
  simp only [edB, Bool.and_eq_true, inR_iff] at h
  have := edG_nodup xs.length (Nat.le_refl _) h.2
  rw [List.take_length] at this
  exact ⟨h.1, this⟩
theorem edB_of {sz : Int} {xs : List Int} (h1 : 1 ≤ sz ∧ sz ≤ 500) (h2 : xs.Nodup) (h3 : ∀ x ∈ xs, 1 ≤ x ∧ x ≤ sz) : edB sz xs = true := by
  rw [edB, inR_iff.2 h1, Bool.true_and, edG]
  simp only [allB, List.all_eq_true, List.mem_range]
  intro k hk
  obtain ⟨x, hx⟩ := some_at hk
  have hm := List.mem_of_getElem? hx
  rw [edP_of hx, inR_iff.2 (h3 x hm), Bool.true_and, Bool.not_eq_true', hasI_not]
  intro hc
  obtain ⟨j, hj⟩ := List.getElem?_of_mem hc
  have hjk : j < k := by
    have := some_lt hj
    simp only [List.length_take] at this; omega
  rw [List.getElem?_take_of_lt hjk] at hj
  have hjl := some_lt hj
  rw [List.getElem?_eq_getElem hjl] at hj
  rw [List.getElem?_eq_getElem hk] at hx
  have h4 : xs[j] = xs[k] := by injection hj with hj; injection hx with hx; rw [hj, hx]
  exact List.pairwise_iff_getElem.1 h2 j k hjl hk hjk h4
/-- numbers that are all between 1 and n, no two alike, are at most n many -/
theorem nodup_len : ∀ {n : Nat} {xs : List Int}, xs.Nodup → (∀ x ∈ xs, 1 ≤ x ∧ x ≤ (n : Int)) → xs.length ≤ n
  | 0, xs, _, h3 => by
    cases xs with
    | nil => exact Nat.le_refl _
    | cons x xs => have := h3 x List.mem_cons_self; omega
  | n + 1, xs, h2, h3 => by
    have h4 : (xs.erase ((n + 1 : Nat) : Int)).Nodup := List.Pairwise.sublist List.erase_sublist h2
    have h5 := nodup_len (n := n) h4 fun x hx => by
      obtain ⟨h6, h7⟩ := (List.Nodup.mem_erase_iff h2).1 hx
      have := h3 x h7
      omega
    have h6 := List.length_erase (a := ((n + 1 : Nat) : Int)) (l := xs)
    split at h6 <;> omega
theorem ed_len {sz : Int} {xs : List Int} (h : edB sz xs = true) : (xs.length : Int) ≤ sz := by
  obtain ⟨h1, h2, h3⟩ := edB_spec h
  obtain ⟨n, rfl⟩ : ∃ n : Nat, sz = n := ⟨sz.toNat, by omega⟩
  have := nodup_len h2 h3
  omega
end Go.Proofs.Ytdpopimpdhgfaaa
