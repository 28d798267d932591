/- HoursUntilFree: what the reference and the program return; the law. -/
import Derived.Test.YteoihmajnpleoaaAb32
import Derived.Test.YteoihmajnpleoaaWait
import Derived.Test.YteoihmajnpleoaaAb29
namespace Go.Proofs.Yteoihmajnpleoaa
set_option maxRecDepth 20000
set_option linter.unusedSimpArgs false
set_option linter.unusedVariables false
open Go Go.Ab

def freeB (p : Int) (xs : List Int) (k : Int) : Bool := rackOk p xs && (decide (0 ≤ k) && decide (k ≤ p))
def freeT (p : Int) (xs : List Int) (k : Int) (m : Nat) : Bool := decide (k ≤ p - (dryX m xs).length)
def freeN (p : Int) (xs : List Int) (k : Int) : Nat := ((List.range 72).find? (freeT p xs k)).getD 72
def freeH (p : Int) (xs : List Int) (k : Int) : Int := if freeB p xs k = true then freeN p xs k else -1
theorem freeN_at {p : Int} {xs : List Int} {k : Int} {n : Nat} (hn : n < 72) (h : freeT p xs k n = true) (hm : ∀ m : Nat, m < n → freeT p xs k m = false) : freeN p xs k = n := by
  unfold freeN
  have : (List.range 72).find? (freeT p xs k) = some n := by
    rw [List.find?_eq_some_iff_getElem]
    refine ⟨h, n, by simpa using hn, by simp, fun j hj => ?_⟩
    simp [hm j hj]
  rw [this]; rfl
theorem freeN_none {p : Int} {xs : List Int} {k : Int} (hm : ∀ m : Nat, m < 72 → freeT p xs k m = false) : freeN p xs k = 72 := by
  unfold freeN
  have : (List.range 72).find? (freeT p xs k) = none := by
    rw [List.find?_eq_none]
    intro x hx
    simp [hm x (by simpa using hx)]
  rw [this]; rfl
theorem freeN_le (p : Int) (xs : List Int) (k : Int) : freeN p xs k ≤ 72 := by
  unfold freeN
  cases h : (List.range 72).find? (freeT p xs k) with
  | none => exact Nat.le_refl _
  | some n => have := List.mem_of_find?_eq_some h; simp at this; simp; omega
theorem freeH_bound (p : Int) (xs : List Int) (k : Int) : -1 ≤ freeH p xs k ∧ freeH p xs k ≤ 72 := by
  unfold freeH
  have := freeN_le p xs k
  split <;> omega
theorem freeB_spec {p : Int} {xs : List Int} {k : Int} (h : freeB p xs k = true) : rackOk p xs = true ∧ 0 ≤ k ∧ k ≤ p := by
  simp only [freeB, Bool.and_eq_true, decide_eq_true_eq] at h
  exact ⟨h.1, h.2.1, h.2.2⟩
theorem dry72 {xs : List Int} (h : xs.all wetB = true) : dryX 72 xs = [] := by
  unfold dryX
  rw [List.map_eq_nil_iff, List.filter_eq_nil_iff]
  intro x hx
  have := List.all_eq_true.1 h x hx
  simp [wetB] at this
  simp; omega

theorem specFree_ok (p : Int) (xs : List Int) (k : Int) (id : Nat) (hn : xs.length ≤ 1048576) (h : Heap) (hr : rd h id xs.length = some (rowI xs)) :
    AC Try.prog 18 [rkV p id xs.length, VI k] h fun r h' => r = VI (freeH p xs k) ∧ h' = h := by
  refine AC.plain ?_
  refine AC_go mixed ok18 (by simp) fun hc _ => ?_
  unfold L18
  have hrd : ∀ l, rd (h ++ l) id xs.length = some (rowI xs) := fun l => rd_old hr l
  have hsd : ∀ l, sz (h ++ l) id = some xs.length := fun l => sz_old hr l
  have hrk : ∀ l, refOk (h ++ l) id xs.length = true := fun l => refOk_sz (hsd l)
  by_cases hv : freeB p xs k = true
  · obtain ⟨hrack, h0, h1⟩ := freeB_spec hv
    obtain ⟨hp1, hp2, hlp, hwet⟩ := rackOk_spec hrack
    have hH : freeH p xs k = freeN p xs k := if_pos hv
    clear hv
    repeat' (first | simp -implicitDefEqProofs only [Ab.R1, Ab.R2, Ab.R3, Ab.R4, Ab.R5, Ab.RH, Ab.RM, Ab.binV, Ab.binC, Nat.reduceLT, Nat.reduceBEq, Nat.reduceAdd, Nat.reduceMul, Nat.reduceEqDiff, Nat.reduceLeDiff, Nat.reduceSub, List.getElem?_cons_zero, List.getElem?_cons_succ, List.getElem?_nil, Option.getD_some, Option.getD_none, if_true, if_false, reduceIte, Option.map_some, Option.map_none, Option.bind_some, Option.bind_none, Option.isSome_some, List.map_cons, List.map_nil, AV.cells, List.length_cons, List.length_nil, List.all_cons, List.all_nil, AV.one, Value.oneCell', ne_eq, reduceCtorEq, Int.reduceNeg, Int.reduceEq, Int.reduceNe, Int.reduceAdd, Int.reduceSub, Int.reduceMul, Int.reduceLT, Int.reduceLE, Int.reduceToNat, List.drop_zero, List.take_zero, List.drop_succ_cons, List.take_succ_cons, List.nil_append, List.cons_append, List.append_nil, List.replicate_zero, List.flatten_nil, List.flatten_cons, List.reduceReplicate, ge_iff_le, gt_iff_lt, eq_self, Nat.add_assoc, facts, *] | simp (disch := omega) only [Ab.wrap_i64] | ((with_reducible refine Ab.gd_ndec (fun _ => ?_) (fun _ => ?_)) <;> try (exfalso; omega)) | ((with_reducible refine Ab.br_ndec (fun _ => ?_) (fun _ => ?_)) <;> try (exfalso; omega)) | ((with_reducible refine Ab.gd_dec (fun _ => ?_) (fun _ => ?_)) <;> try (exfalso; omega)) | ((with_reducible refine Ab.br_dec (fun _ => ?_) (fun _ => ?_)) <;> try (exfalso; omega)) | (refine And.intro (by omega) ?_) | (refine gd_split (fun _ => ?_) (fun _ => ?_)) | (refine br_split (fun _ => ?_) (fun _ => ?_)) | (refine cl_same (specRackOk_ok p xs id (by omega) _ (hrd _)) ?_) | (refine cl_same (l01In_ok _ _ _ _) ?_) | omega)
    refine lw_loopS K18b0 (fun i : Nat => [(5, VI i)]) (fun i => h ++ [⟨.row 27 2, [VI p, .own id 1 xs.length]⟩]) (fun i => i ≤ 72 ∧ ∀ m : Nat, m < i → freeT p xs k m = false) (fun i => 72 - i) 0 ⟨by omega, by omega⟩ rfl (by simp -implicitDefEqProofs only [Ab.R1, Ab.R2, Ab.R3, Ab.R4, Ab.R5, Ab.RH, Ab.RM, Ab.binV, Ab.binC, Nat.reduceLT, Nat.reduceBEq, Nat.reduceAdd, Nat.reduceMul, Nat.reduceEqDiff, Nat.reduceLeDiff, Nat.reduceSub, List.getElem?_cons_zero, List.getElem?_cons_succ, List.getElem?_nil, Option.getD_some, Option.getD_none, if_true, if_false, reduceIte, Option.map_some, Option.map_none, Option.bind_some, Option.bind_none, Option.isSome_some, List.map_cons, List.map_nil, AV.cells, List.length_cons, List.length_nil, List.all_cons, List.all_nil, AV.one, Value.oneCell', ne_eq, reduceCtorEq, Int.reduceNeg, Int.reduceEq, Int.reduceNe, Int.reduceAdd, Int.reduceSub, Int.reduceMul, Int.reduceLT, Int.reduceLE, Int.reduceToNat, List.drop_zero, List.take_zero, List.drop_succ_cons, List.take_succ_cons, List.nil_append, List.cons_append, List.append_nil, List.replicate_zero, List.flatten_nil, List.flatten_cons, List.reduceReplicate, ge_iff_le, gt_iff_lt, eq_self, Nat.add_assoc, facts]; rfl) (fun hc' i hi => .same hc' (by simp [AV.ok])) ?_
    intro i ⟨hi, hm⟩ _
    refine lw_run mixed ?_
    unfold L18b0 K18b0
    rcases Nat.lt_or_ge i 72 with hlt | hge
    · have hw : waitX p xs i = dryX i xs := waitX_ok (by simp only [waitB, hrack, Bool.true_and, Bool.and_eq_true, decide_eq_true_eq]; omega)
      have hwait := specWait_ok p xs i id hn
      rw [hw] at hwait
      have hle := dryX_le i xs
      repeat' (first | simp -implicitDefEqProofs only [Ab.R1, Ab.R2, Ab.R3, Ab.R4, Ab.R5, Ab.RH, Ab.RM, Ab.binV, Ab.binC, Nat.reduceLT, Nat.reduceBEq, Nat.reduceAdd, Nat.reduceMul, Nat.reduceEqDiff, Nat.reduceLeDiff, Nat.reduceSub, List.getElem?_cons_zero, List.getElem?_cons_succ, List.getElem?_nil, Option.getD_some, Option.getD_none, if_true, if_false, reduceIte, Option.map_some, Option.map_none, Option.bind_some, Option.bind_none, Option.isSome_some, List.map_cons, List.map_nil, AV.cells, List.length_cons, List.length_nil, List.all_cons, List.all_nil, AV.one, Value.oneCell', ne_eq, reduceCtorEq, Int.reduceNeg, Int.reduceEq, Int.reduceNe, Int.reduceAdd, Int.reduceSub, Int.reduceMul, Int.reduceLT, Int.reduceLE, Int.reduceToNat, List.drop_zero, List.take_zero, List.drop_succ_cons, List.take_succ_cons, List.nil_append, List.cons_append, List.append_nil, List.replicate_zero, List.flatten_nil, List.flatten_cons, List.reduceReplicate, ge_iff_le, gt_iff_lt, eq_self, Nat.add_assoc, facts, *] | simp (disch := omega) only [Ab.wrap_i64] | ((with_reducible refine Ab.gd_ndec (fun _ => ?_) (fun _ => ?_)) <;> try (exfalso; omega)) | ((with_reducible refine Ab.br_ndec (fun _ => ?_) (fun _ => ?_)) <;> try (exfalso; omega)) | ((with_reducible refine Ab.gd_dec (fun _ => ?_) (fun _ => ?_)) <;> try (exfalso; omega)) | ((with_reducible refine Ab.br_dec (fun _ => ?_) (fun _ => ?_)) <;> try (exfalso; omega)) | (refine And.intro (by omega) ?_) | (refine gd_split (fun _ => ?_) (fun _ => ?_)) | (refine br_split (fun _ => ?_) (fun _ => ?_)) | (refine cl_more ( hwait _ (hrd _)) ?_) | omega)
      · refine ⟨?_, _, rfl⟩
        rw [freeN_at hlt (by simp only [freeT, decide_eq_true_eq]; omega) hm]
      · refine ⟨i + 1, _, by omega, ⟨by omega, fun m hm' => ?_⟩, rfl, by omega⟩
        rcases Nat.lt_or_ge m i with h3 | h3
        · exact hm m h3
        · obtain rfl : m = i := by omega
          simp only [freeT, decide_eq_false_iff_not]; omega
    · obtain rfl : i = 72 := by omega
      repeat' (first | simp -implicitDefEqProofs only [Ab.R1, Ab.R2, Ab.R3, Ab.R4, Ab.R5, Ab.RH, Ab.RM, Ab.binV, Ab.binC, Nat.reduceLT, Nat.reduceBEq, Nat.reduceAdd, Nat.reduceMul, Nat.reduceEqDiff, Nat.reduceLeDiff, Nat.reduceSub, List.getElem?_cons_zero, List.getElem?_cons_succ, List.getElem?_nil, Option.getD_some, Option.getD_none, if_true, if_false, reduceIte, Option.map_some, Option.map_none, Option.bind_some, Option.bind_none, Option.isSome_some, List.map_cons, List.map_nil, AV.cells, List.length_cons, List.length_nil, List.all_cons, List.all_nil, AV.one, Value.oneCell', ne_eq, reduceCtorEq, Int.reduceNeg, Int.reduceEq, Int.reduceNe, Int.reduceAdd, Int.reduceSub, Int.reduceMul, Int.reduceLT, Int.reduceLE, Int.reduceToNat, List.drop_zero, List.take_zero, List.drop_succ_cons, List.take_succ_cons, List.nil_append, List.cons_append, List.append_nil, List.replicate_zero, List.flatten_nil, List.flatten_cons, List.reduceReplicate, ge_iff_le, gt_iff_lt, eq_self, Nat.add_assoc, facts, *] | simp (disch := omega) only [Ab.wrap_i64] | ((with_reducible refine Ab.gd_ndec (fun _ => ?_) (fun _ => ?_)) <;> try (exfalso; omega)) | ((with_reducible refine Ab.br_ndec (fun _ => ?_) (fun _ => ?_)) <;> try (exfalso; omega)) | ((with_reducible refine Ab.gd_dec (fun _ => ?_) (fun _ => ?_)) <;> try (exfalso; omega)) | ((with_reducible refine Ab.br_dec (fun _ => ?_) (fun _ => ?_)) <;> try (exfalso; omega)) | (refine And.intro (by omega) ?_) | (refine gd_split (fun _ => ?_) (fun _ => ?_)) | (refine br_split (fun _ => ?_) (fun _ => ?_)) | omega)
      refine ⟨?_, _, rfl⟩
      rw [freeN_none hm]; rfl
  · have hH : freeH p xs k = -1 := if_neg hv
    have hv' : freeB p xs k = false := by simpa using hv
    clear hv
    repeat' (first | simp -implicitDefEqProofs only [Ab.R1, Ab.R2, Ab.R3, Ab.R4, Ab.R5, Ab.RH, Ab.RM, Ab.binV, Ab.binC, Nat.reduceLT, Nat.reduceBEq, Nat.reduceAdd, Nat.reduceMul, Nat.reduceEqDiff, Nat.reduceLeDiff, Nat.reduceSub, List.getElem?_cons_zero, List.getElem?_cons_succ, List.getElem?_nil, Option.getD_some, Option.getD_none, if_true, if_false, reduceIte, Option.map_some, Option.map_none, Option.bind_some, Option.bind_none, Option.isSome_some, List.map_cons, List.map_nil, AV.cells, List.length_cons, List.length_nil, List.all_cons, List.all_nil, AV.one, Value.oneCell', ne_eq, reduceCtorEq, Int.reduceNeg, Int.reduceEq, Int.reduceNe, Int.reduceAdd, Int.reduceSub, Int.reduceMul, Int.reduceLT, Int.reduceLE, Int.reduceToNat, List.drop_zero, List.take_zero, List.drop_succ_cons, List.take_succ_cons, List.nil_append, List.cons_append, List.append_nil, List.replicate_zero, List.flatten_nil, List.flatten_cons, List.reduceReplicate, ge_iff_le, gt_iff_lt, eq_self, Nat.add_assoc, facts, *] | simp (disch := omega) only [Ab.wrap_i64] | ((with_reducible refine Ab.gd_ndec (fun _ => ?_) (fun _ => ?_)) <;> try (exfalso; omega)) | ((with_reducible refine Ab.br_ndec (fun _ => ?_) (fun _ => ?_)) <;> try (exfalso; omega)) | ((with_reducible refine Ab.gd_dec (fun _ => ?_) (fun _ => ?_)) <;> try (exfalso; omega)) | ((with_reducible refine Ab.br_dec (fun _ => ?_) (fun _ => ?_)) <;> try (exfalso; omega)) | (refine And.intro (by omega) ?_) | (refine gd_split (fun _ => ?_) (fun _ => ?_)) | (refine br_split (fun _ => ?_) (fun _ => ?_)) | (refine cl_same (specRackOk_ok p xs id (by omega) _ (hrd _)) ?_) | (refine cl_same (l01In_ok _ _ _ _) ?_) | omega)
    all_goals first
      | exact ⟨_, rfl⟩
      | (exfalso; simp only [Bool.and_eq_false_iff, Bool.or_eq_false_iff, Bool.not_eq_false', Bool.not_eq_true', Bool.and_eq_true, Bool.or_eq_true, decide_eq_true_eq, decide_eq_false_iff_not, freeB] at *; first | (simp_all; done) | (simp_all; omega) | omega)

theorem implFree_ok (p : Int) (xs : List Int) (k : Int) (id : Nat) (hn : xs.length ≤ 1048576) (h : Heap) (hr : rd h id xs.length = some (rowI xs)) :
    AC Try.prog 19 [rkV p id xs.length, VI k] h fun r h' => r = VI (freeH p xs k) ∧ h' = h := by
  refine AC.plain ?_
  refine AC_go mixed ok19 (by simp) fun hc _ => ?_
  unfold L19
  have hrd : ∀ l, rd (h ++ l) id xs.length = some (rowI xs) := fun l => rd_old hr l
  have hsd : ∀ l, sz (h ++ l) id = some xs.length := fun l => sz_old hr l
  have hrk : ∀ l, refOk (h ++ l) id xs.length = true := fun l => refOk_sz (hsd l)
  by_cases hv : freeB p xs k = true
  · obtain ⟨hrack, h0, h1⟩ := freeB_spec hv
    obtain ⟨hp1, hp2, hlp, hwet⟩ := rackOk_spec hrack
    have hH : freeH p xs k = freeN p xs k := if_pos hv
    clear hv
    repeat' (first | simp -implicitDefEqProofs only [Ab.R1, Ab.R2, Ab.R3, Ab.R4, Ab.R5, Ab.RH, Ab.RM, Ab.binV, Ab.binC, Nat.reduceLT, Nat.reduceBEq, Nat.reduceAdd, Nat.reduceMul, Nat.reduceEqDiff, Nat.reduceLeDiff, Nat.reduceSub, List.getElem?_cons_zero, List.getElem?_cons_succ, List.getElem?_nil, Option.getD_some, Option.getD_none, if_true, if_false, reduceIte, Option.map_some, Option.map_none, Option.bind_some, Option.bind_none, Option.isSome_some, List.map_cons, List.map_nil, AV.cells, List.length_cons, List.length_nil, List.all_cons, List.all_nil, AV.one, Value.oneCell', ne_eq, reduceCtorEq, Int.reduceNeg, Int.reduceEq, Int.reduceNe, Int.reduceAdd, Int.reduceSub, Int.reduceMul, Int.reduceLT, Int.reduceLE, Int.reduceToNat, List.drop_zero, List.take_zero, List.drop_succ_cons, List.take_succ_cons, List.nil_append, List.cons_append, List.append_nil, List.replicate_zero, List.flatten_nil, List.flatten_cons, List.reduceReplicate, ge_iff_le, gt_iff_lt, eq_self, Nat.add_assoc, facts, *] | simp (disch := omega) only [Ab.wrap_i64] | ((with_reducible refine Ab.gd_ndec (fun _ => ?_) (fun _ => ?_)) <;> try (exfalso; omega)) | ((with_reducible refine Ab.br_ndec (fun _ => ?_) (fun _ => ?_)) <;> try (exfalso; omega)) | ((with_reducible refine Ab.gd_dec (fun _ => ?_) (fun _ => ?_)) <;> try (exfalso; omega)) | ((with_reducible refine Ab.br_dec (fun _ => ?_) (fun _ => ?_)) <;> try (exfalso; omega)) | (refine And.intro (by omega) ?_) | (refine gd_split (fun _ => ?_) (fun _ => ?_)) | (refine br_split (fun _ => ?_) (fun _ => ?_)) | (refine cl_same (implRackOk_ok p xs id (by omega) _ (hrd _)) ?_) | (refine cl_same (within_ok _ _ _ _) ?_) | omega)
    refine lw_loopS K19b0 (fun i : Nat => [(5, VI i)]) (fun i => h ++ [⟨.row 27 2, [VI p, .own id 1 xs.length]⟩]) (fun i => i ≤ 72 ∧ ∀ m : Nat, m < i → freeT p xs k m = false) (fun i => 73 - i) 0 ⟨by omega, by omega⟩ rfl (by simp -implicitDefEqProofs only [Ab.R1, Ab.R2, Ab.R3, Ab.R4, Ab.R5, Ab.RH, Ab.RM, Ab.binV, Ab.binC, Nat.reduceLT, Nat.reduceBEq, Nat.reduceAdd, Nat.reduceMul, Nat.reduceEqDiff, Nat.reduceLeDiff, Nat.reduceSub, List.getElem?_cons_zero, List.getElem?_cons_succ, List.getElem?_nil, Option.getD_some, Option.getD_none, if_true, if_false, reduceIte, Option.map_some, Option.map_none, Option.bind_some, Option.bind_none, Option.isSome_some, List.map_cons, List.map_nil, AV.cells, List.length_cons, List.length_nil, List.all_cons, List.all_nil, AV.one, Value.oneCell', ne_eq, reduceCtorEq, Int.reduceNeg, Int.reduceEq, Int.reduceNe, Int.reduceAdd, Int.reduceSub, Int.reduceMul, Int.reduceLT, Int.reduceLE, Int.reduceToNat, List.drop_zero, List.take_zero, List.drop_succ_cons, List.take_succ_cons, List.nil_append, List.cons_append, List.append_nil, List.replicate_zero, List.flatten_nil, List.flatten_cons, List.reduceReplicate, ge_iff_le, gt_iff_lt, eq_self, Nat.add_assoc, facts]; rfl) (fun hc' i hi => .same hc' (by simp [AV.ok])) ?_
    intro i ⟨hi, hm⟩ _
    refine lw_run mixed ?_
    unfold L19b0 K19b0
    have hw : waitX p xs i = dryX i xs := waitX_ok (by simp only [waitB, hrack, Bool.true_and, Bool.and_eq_true, decide_eq_true_eq]; omega)
    have hwait := implWait_ok p xs i id hn
    rw [hw] at hwait
    have hle := dryX_le i xs
    have h72 : i = 72 → (dryX i xs).length = 0 := fun he => by subst he; rw [show ((72 : Nat) : Int) = 72 from rfl, dry72 hwet]; rfl
    repeat' (first | simp -implicitDefEqProofs only [Ab.R1, Ab.R2, Ab.R3, Ab.R4, Ab.R5, Ab.RH, Ab.RM, Ab.binV, Ab.binC, Nat.reduceLT, Nat.reduceBEq, Nat.reduceAdd, Nat.reduceMul, Nat.reduceEqDiff, Nat.reduceLeDiff, Nat.reduceSub, List.getElem?_cons_zero, List.getElem?_cons_succ, List.getElem?_nil, Option.getD_some, Option.getD_none, if_true, if_false, reduceIte, Option.map_some, Option.map_none, Option.bind_some, Option.bind_none, Option.isSome_some, List.map_cons, List.map_nil, AV.cells, List.length_cons, List.length_nil, List.all_cons, List.all_nil, AV.one, Value.oneCell', ne_eq, reduceCtorEq, Int.reduceNeg, Int.reduceEq, Int.reduceNe, Int.reduceAdd, Int.reduceSub, Int.reduceMul, Int.reduceLT, Int.reduceLE, Int.reduceToNat, List.drop_zero, List.take_zero, List.drop_succ_cons, List.take_succ_cons, List.nil_append, List.cons_append, List.append_nil, List.replicate_zero, List.flatten_nil, List.flatten_cons, List.reduceReplicate, ge_iff_le, gt_iff_lt, eq_self, Nat.add_assoc, facts, *] | simp (disch := omega) only [Ab.wrap_i64] | ((with_reducible refine Ab.gd_ndec (fun _ => ?_) (fun _ => ?_)) <;> try (exfalso; omega)) | ((with_reducible refine Ab.br_ndec (fun _ => ?_) (fun _ => ?_)) <;> try (exfalso; omega)) | ((with_reducible refine Ab.gd_dec (fun _ => ?_) (fun _ => ?_)) <;> try (exfalso; omega)) | ((with_reducible refine Ab.br_dec (fun _ => ?_) (fun _ => ?_)) <;> try (exfalso; omega)) | (refine And.intro (by omega) ?_) | (refine gd_split (fun _ => ?_) (fun _ => ?_)) | (refine br_split (fun _ => ?_) (fun _ => ?_)) | (refine cl_more ( hwait _ (hrd _)) ?_) | omega)
    · refine ⟨?_, _, rfl⟩
      rcases Nat.lt_or_ge i 72 with hlt | hge
      · rw [freeN_at hlt (by simp only [freeT, decide_eq_true_eq]; omega) hm]
      · obtain rfl : i = 72 := by omega
        rw [freeN_none hm]
    · have hne : i ≠ 72 := fun he => by have := h72 he; omega
      refine ⟨i + 1, _, by omega, ⟨by omega, fun m hm' => ?_⟩, rfl, by omega⟩
      rcases Nat.lt_or_ge m i with h3 | h3
      · exact hm m h3
      · obtain rfl : m = i := by omega
        simp only [freeT, decide_eq_false_iff_not]; omega
  · have hH : freeH p xs k = -1 := if_neg hv
    have hv' : freeB p xs k = false := by simpa using hv
    clear hv
    repeat' (first | simp -implicitDefEqProofs only [Ab.R1, Ab.R2, Ab.R3, Ab.R4, Ab.R5, Ab.RH, Ab.RM, Ab.binV, Ab.binC, Nat.reduceLT, Nat.reduceBEq, Nat.reduceAdd, Nat.reduceMul, Nat.reduceEqDiff, Nat.reduceLeDiff, Nat.reduceSub, List.getElem?_cons_zero, List.getElem?_cons_succ, List.getElem?_nil, Option.getD_some, Option.getD_none, if_true, if_false, reduceIte, Option.map_some, Option.map_none, Option.bind_some, Option.bind_none, Option.isSome_some, List.map_cons, List.map_nil, AV.cells, List.length_cons, List.length_nil, List.all_cons, List.all_nil, AV.one, Value.oneCell', ne_eq, reduceCtorEq, Int.reduceNeg, Int.reduceEq, Int.reduceNe, Int.reduceAdd, Int.reduceSub, Int.reduceMul, Int.reduceLT, Int.reduceLE, Int.reduceToNat, List.drop_zero, List.take_zero, List.drop_succ_cons, List.take_succ_cons, List.nil_append, List.cons_append, List.append_nil, List.replicate_zero, List.flatten_nil, List.flatten_cons, List.reduceReplicate, ge_iff_le, gt_iff_lt, eq_self, Nat.add_assoc, facts, *] | simp (disch := omega) only [Ab.wrap_i64] | ((with_reducible refine Ab.gd_ndec (fun _ => ?_) (fun _ => ?_)) <;> try (exfalso; omega)) | ((with_reducible refine Ab.br_ndec (fun _ => ?_) (fun _ => ?_)) <;> try (exfalso; omega)) | ((with_reducible refine Ab.gd_dec (fun _ => ?_) (fun _ => ?_)) <;> try (exfalso; omega)) | ((with_reducible refine Ab.br_dec (fun _ => ?_) (fun _ => ?_)) <;> try (exfalso; omega)) | (refine And.intro (by omega) ?_) | (refine gd_split (fun _ => ?_) (fun _ => ?_)) | (refine br_split (fun _ => ?_) (fun _ => ?_)) | (refine cl_same (implRackOk_ok p xs id (by omega) _ (hrd _)) ?_) | (refine cl_same (within_ok _ _ _ _) ?_) | omega)
    all_goals first
      | exact ⟨_, rfl⟩
      | (exfalso; simp only [Bool.and_eq_false_iff, Bool.or_eq_false_iff, Bool.not_eq_false', Bool.not_eq_true', Bool.and_eq_true, Bool.or_eq_true, decide_eq_true_eq, decide_eq_false_iff_not, freeB] at *; first | (simp_all; done) | (simp_all; omega) | omega)

theorem lawFree_ok (p : Int) (xs : List Int) (k : Int) (id : Nat) (hm : xs.length ≤ maxLen) (h : Heap) (hr : rd h id xs.length = some (rowI xs)) :
    AC Try.prog 5 [rkA p id xs.length, VI k] h fun r _ => r = VB true := by
  refine AC_go mixed ok5 (by simp) fun hc _ => ?_
  unfold L5
  unfold maxLen at hm
  have hrd : ∀ l, rd (h ++ l) id xs.length = some (rowI xs) := fun l => rd_old hr l
  have hsd : ∀ l, sz (h ++ l) id = some xs.length := fun l => sz_old hr l
  rcases Nat.lt_or_ge 1048576 xs.length with hbig | hn
  · repeat' (first | simp -implicitDefEqProofs only [Ab.R1, Ab.R2, Ab.R3, Ab.R4, Ab.R5, Ab.RH, Ab.RM, Ab.binV, Ab.binC, Nat.reduceLT, Nat.reduceBEq, Nat.reduceAdd, Nat.reduceMul, Nat.reduceEqDiff, Nat.reduceLeDiff, Nat.reduceSub, List.getElem?_cons_zero, List.getElem?_cons_succ, List.getElem?_nil, Option.getD_some, Option.getD_none, if_true, if_false, reduceIte, Option.map_some, Option.map_none, Option.bind_some, Option.bind_none, Option.isSome_some, List.map_cons, List.map_nil, AV.cells, List.length_cons, List.length_nil, List.all_cons, List.all_nil, AV.one, Value.oneCell', ne_eq, reduceCtorEq, Int.reduceNeg, Int.reduceEq, Int.reduceNe, Int.reduceAdd, Int.reduceSub, Int.reduceMul, Int.reduceLT, Int.reduceLE, Int.reduceToNat, List.drop_zero, List.take_zero, List.drop_succ_cons, List.take_succ_cons, List.nil_append, List.cons_append, List.append_nil, List.replicate_zero, List.flatten_nil, List.flatten_cons, List.reduceReplicate, ge_iff_le, gt_iff_lt, eq_self, Nat.add_assoc, facts, *] | simp (disch := omega) only [Ab.wrap_i64] | ((with_reducible refine Ab.gd_ndec (fun _ => ?_) (fun _ => ?_)) <;> try (exfalso; omega)) | ((with_reducible refine Ab.br_ndec (fun _ => ?_) (fun _ => ?_)) <;> try (exfalso; omega)) | ((with_reducible refine Ab.gd_dec (fun _ => ?_) (fun _ => ?_)) <;> try (exfalso; omega)) | ((with_reducible refine Ab.br_dec (fun _ => ?_) (fun _ => ?_)) <;> try (exfalso; omega)) | (refine And.intro (by omega) ?_) | (refine gd_split (fun _ => ?_) (fun _ => ?_)) | (refine br_split (fun _ => ?_) (fun _ => ?_)) | (refine cl_same (szRack_gt _ _ _ _ _ (hsd _) (by omega) (by omega) (by omega)) ?_) | omega)
  · have hxl := rowI_len xs
    repeat' (first | simp -implicitDefEqProofs only [Ab.R1, Ab.R2, Ab.R3, Ab.R4, Ab.R5, Ab.RH, Ab.RM, Ab.binV, Ab.binC, Nat.reduceLT, Nat.reduceBEq, Nat.reduceAdd, Nat.reduceMul, Nat.reduceEqDiff, Nat.reduceLeDiff, Nat.reduceSub, List.getElem?_cons_zero, List.getElem?_cons_succ, List.getElem?_nil, Option.getD_some, Option.getD_none, if_true, if_false, reduceIte, Option.map_some, Option.map_none, Option.bind_some, Option.bind_none, Option.isSome_some, List.map_cons, List.map_nil, AV.cells, List.length_cons, List.length_nil, List.all_cons, List.all_nil, AV.one, Value.oneCell', ne_eq, reduceCtorEq, Int.reduceNeg, Int.reduceEq, Int.reduceNe, Int.reduceAdd, Int.reduceSub, Int.reduceMul, Int.reduceLT, Int.reduceLE, Int.reduceToNat, List.drop_zero, List.take_zero, List.drop_succ_cons, List.take_succ_cons, List.nil_append, List.cons_append, List.append_nil, List.replicate_zero, List.flatten_nil, List.flatten_cons, List.reduceReplicate, ge_iff_le, gt_iff_lt, eq_self, Nat.add_assoc, facts, *] | simp (disch := omega) only [Ab.wrap_i64] | ((with_reducible refine Ab.gd_ndec (fun _ => ?_) (fun _ => ?_)) <;> try (exfalso; omega)) | ((with_reducible refine Ab.br_ndec (fun _ => ?_) (fun _ => ?_)) <;> try (exfalso; omega)) | ((with_reducible refine Ab.gd_dec (fun _ => ?_) (fun _ => ?_)) <;> try (exfalso; omega)) | ((with_reducible refine Ab.br_dec (fun _ => ?_) (fun _ => ?_)) <;> try (exfalso; omega)) | (refine And.intro (by omega) ?_) | (refine gd_split (fun _ => ?_) (fun _ => ?_)) | (refine br_split (fun _ => ?_) (fun _ => ?_)) | (refine cl_same (szRack_le _ _ _ _ _ (hsd _) (by omega) (by omega)) ?_) | (refine cl_more ( toRack_ok p xs id hn _ (hrd _)) ?_) | (refine cl_more ( toRack_ok p xs id hn _ hr) ?_) | (refine cl_same (specFree_ok p xs k _ hn _ (by simp -implicitDefEqProofs only [Ab.app_assoc, Ab.len_app, Ab.sz_newk, Ab.sz_new0, Ab.rd_newk, Ab.rd_new0, Ab.wr_newk, Ab.wr_new0, Ab.set_newk, Ab.set_new0, Ab.sz_cons, Ab.sz_row0, Ab.sz_ro0, Ab.rd_cons, Ab.rd_row, Ab.rd_ro0, Ab.wr_cons, Ab.wr_row, Ab.set_cons_zero, Ab.set_cons_succ, Ab.rowI_len, Ab.rowB_len, Ab.rowS_len, Ab.rowU_len, Nat.add_assoc, List.cons_append, List.nil_append, List.append_nil, List.length_cons, List.length_nil, Nat.reduceAdd, Nat.reduceSub, Nat.reduceEqDiff, Nat.zero_add, Nat.add_zero, Nat.mul_one, Nat.one_mul, if_true, if_false, reduceIte, reduceCtorEq, eq_self, hxl])) ?_) | (refine cl_same (implFree_ok p xs k _ hn _ (by simp -implicitDefEqProofs only [Ab.app_assoc, Ab.len_app, Ab.sz_newk, Ab.sz_new0, Ab.rd_newk, Ab.rd_new0, Ab.wr_newk, Ab.wr_new0, Ab.set_newk, Ab.set_new0, Ab.sz_cons, Ab.sz_row0, Ab.sz_ro0, Ab.rd_cons, Ab.rd_row, Ab.rd_ro0, Ab.wr_cons, Ab.wr_row, Ab.set_cons_zero, Ab.set_cons_succ, Ab.rowI_len, Ab.rowB_len, Ab.rowS_len, Ab.rowU_len, Nat.add_assoc, List.cons_append, List.nil_append, List.append_nil, List.length_cons, List.length_nil, Nat.reduceAdd, Nat.reduceSub, Nat.reduceEqDiff, Nat.zero_add, Nat.add_zero, Nat.mul_one, Nat.one_mul, if_true, if_false, reduceIte, reduceCtorEq, eq_self, hxl])) ?_) | (refine cl_same (eqRack_ok p p xs xs _ _ (by omega) _ (by simp -implicitDefEqProofs only [Ab.app_assoc, Ab.len_app, Ab.sz_newk, Ab.sz_new0, Ab.rd_newk, Ab.rd_new0, Ab.wr_newk, Ab.wr_new0, Ab.set_newk, Ab.set_new0, Ab.sz_cons, Ab.sz_row0, Ab.sz_ro0, Ab.rd_cons, Ab.rd_row, Ab.rd_ro0, Ab.wr_cons, Ab.wr_row, Ab.set_cons_zero, Ab.set_cons_succ, Ab.rowI_len, Ab.rowB_len, Ab.rowS_len, Ab.rowU_len, Nat.add_assoc, List.cons_append, List.nil_append, List.append_nil, List.length_cons, List.length_nil, Nat.reduceAdd, Nat.reduceSub, Nat.reduceEqDiff, Nat.zero_add, Nat.add_zero, Nat.mul_one, Nat.one_mul, if_true, if_false, reduceIte, reduceCtorEq, eq_self, hxl]) (by simp -implicitDefEqProofs only [Ab.app_assoc, Ab.len_app, Ab.sz_newk, Ab.sz_new0, Ab.rd_newk, Ab.rd_new0, Ab.wr_newk, Ab.wr_new0, Ab.set_newk, Ab.set_new0, Ab.sz_cons, Ab.sz_row0, Ab.sz_ro0, Ab.rd_cons, Ab.rd_row, Ab.rd_ro0, Ab.wr_cons, Ab.wr_row, Ab.set_cons_zero, Ab.set_cons_succ, Ab.rowI_len, Ab.rowB_len, Ab.rowS_len, Ab.rowU_len, Nat.add_assoc, List.cons_append, List.nil_append, List.append_nil, List.length_cons, List.length_nil, Nat.reduceAdd, Nat.reduceSub, Nat.reduceEqDiff, Nat.zero_add, Nat.add_zero, Nat.mul_one, Nat.one_mul, if_true, if_false, reduceIte, reduceCtorEq, eq_self, hxl])) ?_) | omega)
    all_goals simp_all
end Go.Proofs.Yteoihmajnpleoaa
