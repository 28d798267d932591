/- The parts of an edition that are sold, in plain Lean. -/
import Derived.Test.YtdpopimpdhgfaaaFreeN
namespace Go.Proofs.Ytdpopimpdhgfaaa
set_option maxRecDepth 20000
set_option linter.unusedSimpArgs false
set_option linter.unusedVariables false
open Go Go.Ab

abbrev PT := Int × Int
def stepP (acc : List PT) (n : Int) : List PT := match acc.getLast? with
  | some p => if p.2 = n - 1 then acc.dropLast ++ [(p.1, n)] else acc ++ [(n, n)]
  | none => acc ++ [(n, n)]
def partF (ys : List Int) : List PT := ys.foldl stepP []
theorem stepP_join (acc : List PT) (lo n : Int) : stepP (acc ++ [(lo, n - 1)]) n = acc ++ [(lo, n)] := by simp [stepP]
theorem stepP_nil (n : Int) : stepP [] n = [(n, n)] := rfl
theorem stepP_new {acc : List PT} {lo hi n : Int} (h : ¬ hi = n - 1) : stepP (acc ++ [(lo, hi)]) n = (acc ++ [(lo, hi)]) ++ [(n, n)] := by simp [stepP, h]
theorem partF_snoc (ys : List Int) (n : Int) : partF (ys ++ [n]) = stepP (partF ys) n := by simp [partF]
theorem partF_more {ys : List Int} {k : Nat} {x : Int} (h : ys[k]? = some x) : partF (ys.take (k + 1)) = stepP (partF (ys.take k)) x := by rw [take_snoc h, partF_snoc]

/-- the sold numbers up to k -/
def soldL (xs : List Int) : Nat → List Int
  | 0 => []
  | k + 1 => if hasI xs ((k + 1 : Nat) : Int) = true then soldL xs k ++ [((k + 1 : Nat) : Int)] else soldL xs k
def partA (xs : List Int) (k : Nat) : List PT := partF (soldL xs k)
def partL (s : Int) (xs : List Int) : List PT := if edB s xs = true then partA xs s.toNat else []
theorem partA_no {xs : List Int} {k : Nat} (h : hasI xs ((k + 1 : Nat) : Int) = false) : partA xs (k + 1) = partA xs k := by
  rw [partA, soldL, if_neg (by rw [h]; decide)]; rfl
theorem partA_yes {xs : List Int} {k : Nat} (h : hasI xs ((k + 1 : Nat) : Int) = true) : partA xs (k + 1) = stepP (partA xs k) ((k + 1 : Nat) : Int) := by
  rw [partA, soldL, if_pos h, partF_snoc]; rfl
theorem stepP_mem {acc : List PT} {n : Int} {q : PT} (h : q ∈ stepP acc n) : q ∈ acc ∨ q.2 = n := by
  unfold stepP at h
  split at h
  · split at h
    · rcases List.mem_append.1 h with h | h
      · exact .inl ((List.dropLast_sublist acc).subset h)
      · simp at h; subst h; exact .inr rfl
    · rcases List.mem_append.1 h with h | h
      · exact .inl h
      · simp at h; subst h; exact .inr rfl
  · rcases List.mem_append.1 h with h | h
    · exact .inl h
    · simp at h; subst h; exact .inr rfl
theorem partA_hi {xs : List Int} : ∀ {k : Nat} {q : PT}, q ∈ partA xs k → hasI xs q.2 = true ∧ q.2 ≤ k
  | 0, q, h => by simp [partA, soldL, partF] at h
  | k + 1, q, h => by
    cases g : hasI xs ((k + 1 : Nat) : Int) with
    | false =>
      rw [partA_no g] at h
      have := partA_hi h
      exact ⟨this.1, by omega⟩
    | true =>
      rw [partA_yes g] at h
      rcases stepP_mem h with h | h
      · have := partA_hi h
        exact ⟨this.1, by omega⟩
      · rw [h]; exact ⟨g, by omega⟩
/-- a run begins -/
theorem partA_begin {xs : List Int} {k : Nat} (h : hasI xs ((k + 1 : Nat) : Int) = true) (hk : hasI xs (k : Int) = false) : partA xs (k + 1) = partA xs k ++ [(((k + 1 : Nat) : Int), ((k + 1 : Nat) : Int))] := by
  rw [partA_yes h]
  unfold stepP
  split
  · rename_i p hp
    have hm : p ∈ partA xs k := List.mem_of_getLast? hp
    rw [if_neg fun e => by
      have := (partA_hi hm).1
      rw [show p.2 = (k : Int) by omega, hk] at this
      cases this]
  · rfl
/-- a run goes on -/
theorem partA_on {xs : List Int} {k j : Nat} {lo : Int} (h : hasI xs ((j + 1 : Nat) : Int) = true) (he : partA xs j = partA xs k ++ [(lo, (j : Int))]) : partA xs (j + 1) = partA xs k ++ [(lo, ((j + 1 : Nat) : Int))] := by
  rw [partA_yes h, he]
  have := stepP_join (partA xs k) lo ((j + 1 : Nat) : Int)
  rwa [show ((j + 1 : Nat) : Int) - 1 = (j : Int) by omega] at this

theorem sorted_ext : ∀ {a b : List Int}, a.Pairwise (· < ·) → b.Pairwise (· < ·) → (∀ x, x ∈ a ↔ x ∈ b) → a = b
  | [], [], _, _, _ => rfl
  | [], y :: b, _, _, h => absurd ((h y).2 List.mem_cons_self) (by simp)
  | x :: a, [], _, _, h => absurd ((h x).1 List.mem_cons_self) (by simp)
  | x :: a, y :: b, ha, hb, h => by
    rw [List.pairwise_cons] at ha hb
    have h1 := (h x).1 List.mem_cons_self
    have h2 := (h y).2 List.mem_cons_self
    have hxy : x = y := by
      rcases List.mem_cons.1 h1 with h1 | h1
      · exact h1
      · rcases List.mem_cons.1 h2 with h2 | h2
        · exact h2.symm
        · have := hb.1 x h1; have := ha.1 y h2; omega
    subst hxy
    rw [sorted_ext ha.2 hb.2 fun z => ⟨fun hz => ?_, fun hz => ?_⟩]
    · have := ha.1 z hz
      rcases List.mem_cons.1 ((h z).1 (List.mem_cons_of_mem _ hz)) with e | e
      · omega
      · exact e
    · have := hb.1 z hz
      rcases List.mem_cons.1 ((h z).2 (List.mem_cons_of_mem _ hz)) with e | e
      · omega
      · exact e
theorem soldL_mem {xs : List Int} : ∀ {k : Nat} {x : Int}, x ∈ soldL xs k ↔ (1 ≤ x ∧ x ≤ k ∧ x ∈ xs)
  | 0, x => by simp [soldL]; omega
  | k + 1, x => by
    have ih := @soldL_mem xs k x
    unfold soldL
    split
    · rename_i h
      rw [hasI_iff] at h
      rw [List.mem_append, ih, List.mem_singleton]
      constructor
      · rintro (⟨h1, h2, h3⟩ | rfl)
        · exact ⟨h1, by omega, h3⟩
        · exact ⟨by omega, by omega, h⟩
      · rintro ⟨h1, h2, h3⟩
        by_cases e : x = ((k + 1 : Nat) : Int)
        · exact .inr e
        · exact .inl ⟨h1, by omega, h3⟩
    · rename_i h
      rw [hasI_iff] at h
      rw [ih]
      constructor
      · rintro ⟨h1, h2, h3⟩; exact ⟨h1, by omega, h3⟩
      · rintro ⟨h1, h2, h3⟩
        refine ⟨h1, ?_, h3⟩
        have : x ≠ ((k + 1 : Nat) : Int) := fun e => h (e ▸ h3)
        omega
theorem soldL_sorted {xs : List Int} : ∀ k, (soldL xs k).Pairwise (· < ·)
  | 0 => List.Pairwise.nil
  | k + 1 => by
    unfold soldL
    split
    · rw [List.pairwise_append]
      refine ⟨soldL_sorted k, by simp, fun a ha b hb => ?_⟩
      have := (soldL_mem.1 ha).2.1
      simp at hb; omega
    · exact soldL_sorted k
def sortI (xs : List Int) : List Int := xs.mergeSort fun x y => decide (x ≤ y)
theorem sortI_perm (xs : List Int) : (sortI xs).Perm xs := List.mergeSort_perm xs _
theorem sortI_len (xs : List Int) : (sortI xs).length = xs.length := (sortI_perm xs).length_eq
theorem sortI_sold {s : Int} {xs : List Int} (h : edB s xs = true) : sortI xs = soldL xs s.toNat := by
  obtain ⟨⟨h1, h2⟩, h3, h4⟩ := edB_spec h
  refine sorted_ext ?_ (soldL_sorted _) fun x => ?_
  · have hp : (sortI xs).Pairwise fun a b => decide (a ≤ b) = true := List.pairwise_mergeSort (fun a b c hab hbc => by simp at *; omega) (fun a b => by simp; omega) xs
    have hn : (sortI xs).Nodup := (sortI_perm xs).nodup_iff.2 h3
    have := hp.and hn
    exact this.imp fun {a b} ⟨e1, e2⟩ => by simp at e1; omega
  · rw [(sortI_perm xs).mem_iff, soldL_mem]
    constructor
    · intro hx; have := h4 x hx; exact ⟨this.1, by omega, hx⟩
    · exact fun hx => hx.2.2
theorem partL_sort {s : Int} {xs : List Int} (h : edB s xs = true) : partL s xs = partF (sortI xs) := by rw [partL, if_pos h, partA, sortI_sold h]
theorem stepP_le (acc : List PT) (n : Int) : (stepP acc n).length ≤ acc.length + 1 := by
  unfold stepP
  split
  · split <;> simp <;> omega
  · simp
theorem partF_le (ys : List Int) : (partF ys).length ≤ ys.length := by
  refine rev_ind (p := fun ys => (partF ys).length ≤ ys.length) (Nat.le_refl _) (fun l a ih => ?_) ys
  rw [partF_snoc]
  have := stepP_le (partF l) a
  simp; omega
end Go.Proofs.Ytdpopimpdhgfaaa
