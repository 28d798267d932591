/- CheckCopy: plain part; the number put in its place. -/
import Derived.Test.YtdpopimpdhgfaaaIns
import Derived.Test.YtdpopimpdhgfaaaLotLaw
namespace Go.Proofs.Ytdpopimpdhgfaaa
set_option maxRecDepth 20000
set_option linter.unusedSimpArgs false
set_option linter.unusedVariables false
open Go Go.Ab

/-- Of the rows that a call has made two, of plain cells, are kept: whichever they were. -/
theorem AC_row2x {P : Program} {g : FuncId} {args : List AV} {h : Heap} (F : Nat → Nat → AV) (b1 b2 : Blk) (hF : ∀ ρ i j, (F i j).ren ρ = F (ρ i) (ρ j)) (hok : (F h.length (h.length + 1)).ok (h ++ [b1, b2]) = true) (hb1 : ∀ h, okAll h b1.cells = true) (hb2 : ∀ h, okAll h b2.cells = true) (hr1 : ∀ ρ, renL ρ b1.cells = b1.cells) (hr2 : ∀ ρ, renL ρ b2.cells = b2.cells)
    (hc : AC P g args h fun c h' => ∃ p q junk, p ≠ q ∧ c = F (h.length + p) (h.length + q) ∧ h' = h ++ junk ∧ junk[p]? = some b1 ∧ junk[q]? = some b2) : AC P g args h fun c h' => c = F h.length (h.length + 1) ∧ h' = h ++ [b1, b2] :=
  hc.keep fun hcl c h' ⟨p, q, junk, hne, hce, hh, hp, hq⟩ => by
    subst hh; subst hce
    refine ⟨plc h [p, q], h ++ [b1, b2], F h.length (h.length + 1), keeps_list hcl (by simpa using hne) rfl (fun j b' p' hb' hp' => ?_), closedH_append hcl (fun b' hb' => ?_), Heap.le_append _ _, hok, ?_, rfl, rfl⟩
    · match j, hb', hp' with
      | 0, hb', hp' => simp at hb' hp'; subst hb'; subst hp'; rw [hp, hr1]
      | 1, hb', hp' => simp at hb' hp'; subst hb'; subst hp'; rw [hq, hr2]
      | j + 2, hb', _ => simp at hb'
    · simp at hb'
      rcases hb' with rfl | rfl
      · exact hb1 _
      · exact hb2 _
    · rw [hF]; simp [plc]; rw [if_neg (by omega)]

def putK (xs : List Int) (n : Int) : Nat := (xs.takeWhile fun y => decide (y < n)).length
theorem putK_le (xs : List Int) (n : Int) : putK xs n ≤ xs.length := (List.takeWhile_sublist _).length_le
theorem putK_at {xs : List Int} {n : Int} {i : Nat} (hi : i ≤ xs.length) (ht : (xs.take i).all (fun y => decide (y < n)) = true) (he : ∀ x, xs[i]? = some x → ¬ x < n) : putK xs n = i := by
  have hs : xs = xs.take i ++ xs.drop i := (List.take_append_drop i xs).symm
  have hall : ∀ a ∈ xs.take i, (fun y => decide (y < n)) a = true := List.all_eq_true.1 ht
  unfold putK
  conv => lhs; rw [hs]
  rw [List.takeWhile_append_of_pos hall, List.length_append, List.length_take, Nat.min_eq_left hi]
  cases hd : xs.drop i with
  | nil => simp
  | cons x r =>
    have hx : xs[i]? = some x := by
      have : (xs.drop i)[0]? = some x := by rw [hd]; rfl
      simpa using this
    rw [List.takeWhile_cons_of_neg (by simpa using he x hx)]; rfl
def putL (xs : List Int) (n : Int) : List Int := insI xs (putK xs n) n
theorem putL_len (xs : List Int) (n : Int) : (putL xs n).length = xs.length + 1 := insI_len n (putK_le xs n)
theorem ris_sorted {hi : Int} {a : List Int} (h : risB hi a = true) : a.Pairwise (· < ·) := by
  rw [List.pairwise_iff_getElem]
  have step : ∀ i (h0 : i + 1 < a.length), a[i] < a[i + 1] := fun i h0 => by
    have hp := allB_get h h0
    rw [risP_succ (x := a[i + 1]) (y := a[i]) (by simp [h0]) (by simp [show i < a.length by omega])] at hp
    simp only [Bool.and_eq_true, decide_eq_true_eq] at hp
    exact hp.2
  intro i j hi hj hij
  induction j with
  | zero => omega
  | succ j ih =>
    have h1 := step j hj
    rcases Nat.lt_or_ge i j with h2 | h2
    · have := ih (by omega) h2; omega
    · obtain rfl : i = j := by omega
      exact h1
theorem count_put : ∀ {a : List Int} (n : Int), a.Pairwise (· < ·) → a.countP (fun y => decide (y < n)) = putK a n
  | [], n, _ => rfl
  | x :: a, n, h => by
    rw [List.pairwise_cons] at h
    have ih := count_put n h.2
    unfold putK at ih ⊢
    by_cases hx : x < n
    · rw [List.countP_cons_of_pos (by simpa using hx), List.takeWhile_cons_of_pos (by simpa using hx), ih]; rfl
    · rw [List.countP_cons_of_neg (by simpa using hx), List.takeWhile_cons_of_neg (by simpa using hx)]
      rw [List.length_nil, List.countP_eq_zero]
      intro y hy
      have := h.1 y hy
      simp; omega
theorem ris_le {hi : Int} {a : List Int} (h : risB hi a = true) : a.Pairwise (· ≤ ·) := (ris_sorted h).imp fun h => Int.le_of_lt h

/-! ### the checked lot -/
def chkB (s : Int) (cs bs : List Int) (n : Int) : Bool := lotB s cs bs && inR 1 s n && !hasI cs n
def chkC (s : Int) (cs bs : List Int) (n : Int) : List Int := if chkB s cs bs n = true then putL cs n else cs
def chkD (s : Int) (cs bs : List Int) (n : Int) (bad : Bool) : List Int := if (chkB s cs bs n && bad) = true then putL bs n else bs
theorem chkC_len (s : Int) (cs bs : List Int) (n : Int) : (chkC s cs bs n).length ≤ cs.length + 1 := by unfold chkC; split <;> simp [putL_len]
theorem chkD_len (s : Int) (cs bs : List Int) (n : Int) (bad : Bool) : (chkD s cs bs n bad).length ≤ bs.length + 1 := by unfold chkD; split <;> simp [putL_len]
abbrev resL (s : Int) (i j m n : Nat) (b : Bool) : AV := .tup [ltV s i j m n, VB b]
end Go.Proofs.Ytdpopimpdhgfaaa
