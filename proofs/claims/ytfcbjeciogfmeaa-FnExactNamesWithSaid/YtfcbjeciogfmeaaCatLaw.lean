/- CatalogOk: the law. -/
import Derived.Test.YtfcbjeciogfmeaaAb32
import Derived.Test.YtfcbjeciogfmeaaCat
import Derived.Test.YtfcbjeciogfmeaaSayC
namespace Go.Proofs.Ytfcbjeciogfmeaa
set_option maxRecDepth 20000
set_option linter.unusedSimpArgs false
set_option linter.unusedVariables false
open Go Go.Ab

theorem szItem_ok (nm : ByteArray) (d f : Int) (xs : List ByteArray) (i : Nat) (left : Int) (hs : nm.size ≤ maxLen) (hn : xs.length ≤ maxLen) (hm : ∀ x ∈ xs, x.size ≤ maxLen) (h0 : 0 ≤ left) (h1 : left ≤ 1048576) (h : Heap) (hr : rd h i xs.length = some (rowS xs)) :
    AC Try.prog 38 [.agg (gI ((nm, d, f, xs), i)), VI left] h fun r h' => r = VI (if ((nm.size + szT xs : Nat) : Int) ≤ left then left - ((nm.size + szT xs : Nat) : Int) else -1) ∧ h' = h := by
  refine AC.plain ?_
  refine AC_go mixed ok38 (by simp) fun hc _ => ?_
  unfold L38
  unfold maxLen at hs
  have hrd : ∀ l, rd (h ++ l) i xs.length = some (rowS xs) := fun l => rd_old hr l
  by_cases g1 : left < nm.size
  · rw [if_neg (by omega)]
    repeat' (first | simp -implicitDefEqProofs only [Ab.R1, Ab.R2, Ab.R3, Ab.R4, Ab.R5, Ab.RH, Ab.RM, Ab.binV, Ab.binC, Nat.reduceLT, Nat.reduceBEq, Nat.reduceAdd, Nat.reduceMul, Nat.reduceEqDiff, Nat.reduceLeDiff, Nat.reduceSub, List.getElem?_cons_zero, List.getElem?_cons_succ, List.getElem?_nil, Option.getD_some, Option.getD_none, if_true, if_false, reduceIte, Option.map_some, Option.map_none, Option.bind_some, Option.bind_none, Option.isSome_some, List.map_cons, List.map_nil, AV.cells, List.length_cons, List.length_nil, List.all_cons, List.all_nil, AV.one, Value.oneCell', ne_eq, reduceCtorEq, Int.reduceNeg, Int.reduceEq, Int.reduceNe, Int.reduceAdd, Int.reduceSub, Int.reduceMul, Int.reduceLT, Int.reduceLE, Int.reduceToNat, List.drop_zero, List.take_zero, List.drop_succ_cons, List.take_succ_cons, List.nil_append, List.cons_append, List.append_nil, List.replicate_zero, List.flatten_nil, List.flatten_cons, List.reduceReplicate, ge_iff_le, gt_iff_lt, eq_self, Nat.add_assoc, facts, *] | simp (disch := omega) only [Ab.wrap_i64] | ((with_reducible refine Ab.gd_ndec (fun _ => ?_) (fun _ => ?_)) <;> try (exfalso; omega)) | ((with_reducible refine Ab.br_ndec (fun _ => ?_) (fun _ => ?_)) <;> try (exfalso; omega)) | ((with_reducible refine Ab.gd_dec (fun _ => ?_) (fun _ => ?_)) <;> try (exfalso; omega)) | ((with_reducible refine Ab.br_dec (fun _ => ?_) (fun _ => ?_)) <;> try (exfalso; omega)) | (refine And.intro (by omega) ?_) | (refine gd_split (fun _ => ?_) (fun _ => ?_)) | (refine br_split (fun _ => ?_) (fun _ => ?_)) | omega)
    all_goals exact ⟨_, rfl⟩
  · have hcall := fun H => szCard_ok d f xs i (left - nm.size) hn hm (by omega) (by omega) H
    by_cases g2 : (szT xs : Int) ≤ left - nm.size
    · have hR : szR xs (left - nm.size) = left - nm.size - szT xs := if_pos g2
      rw [hR] at hcall
      clear hR
      rw [if_pos (by omega)]
      have hfin : left - nm.size - szT xs = left - ((nm.size + szT xs : Nat) : Int) := by omega
      rw [← hfin]
      clear hfin
      repeat' (first | simp -implicitDefEqProofs only [Ab.R1, Ab.R2, Ab.R3, Ab.R4, Ab.R5, Ab.RH, Ab.RM, Ab.binV, Ab.binC, Nat.reduceLT, Nat.reduceBEq, Nat.reduceAdd, Nat.reduceMul, Nat.reduceEqDiff, Nat.reduceLeDiff, Nat.reduceSub, List.getElem?_cons_zero, List.getElem?_cons_succ, List.getElem?_nil, Option.getD_some, Option.getD_none, if_true, if_false, reduceIte, Option.map_some, Option.map_none, Option.bind_some, Option.bind_none, Option.isSome_some, List.map_cons, List.map_nil, AV.cells, List.length_cons, List.length_nil, List.all_cons, List.all_nil, AV.one, Value.oneCell', ne_eq, reduceCtorEq, Int.reduceNeg, Int.reduceEq, Int.reduceNe, Int.reduceAdd, Int.reduceSub, Int.reduceMul, Int.reduceLT, Int.reduceLE, Int.reduceToNat, List.drop_zero, List.take_zero, List.drop_succ_cons, List.take_succ_cons, List.nil_append, List.cons_append, List.append_nil, List.replicate_zero, List.flatten_nil, List.flatten_cons, List.reduceReplicate, ge_iff_le, gt_iff_lt, eq_self, Nat.add_assoc, facts, *] | simp (disch := omega) only [Ab.wrap_i64] | ((with_reducible refine Ab.gd_ndec (fun _ => ?_) (fun _ => ?_)) <;> try (exfalso; omega)) | ((with_reducible refine Ab.br_ndec (fun _ => ?_) (fun _ => ?_)) <;> try (exfalso; omega)) | ((with_reducible refine Ab.gd_dec (fun _ => ?_) (fun _ => ?_)) <;> try (exfalso; omega)) | ((with_reducible refine Ab.br_dec (fun _ => ?_) (fun _ => ?_)) <;> try (exfalso; omega)) | (refine And.intro (by omega) ?_) | (refine gd_split (fun _ => ?_) (fun _ => ?_)) | (refine br_split (fun _ => ?_) (fun _ => ?_)) | (refine cl_same (hcall _ (hrd _)) ?_) | omega)
      all_goals exact ⟨_, rfl⟩
    · have hR : szR xs (left - nm.size) = -1 := if_neg g2
      rw [hR] at hcall
      clear hR
      rw [if_neg (by omega)]
      repeat' (first | simp -implicitDefEqProofs only [Ab.R1, Ab.R2, Ab.R3, Ab.R4, Ab.R5, Ab.RH, Ab.RM, Ab.binV, Ab.binC, Nat.reduceLT, Nat.reduceBEq, Nat.reduceAdd, Nat.reduceMul, Nat.reduceEqDiff, Nat.reduceLeDiff, Nat.reduceSub, List.getElem?_cons_zero, List.getElem?_cons_succ, List.getElem?_nil, Option.getD_some, Option.getD_none, if_true, if_false, reduceIte, Option.map_some, Option.map_none, Option.bind_some, Option.bind_none, Option.isSome_some, List.map_cons, List.map_nil, AV.cells, List.length_cons, List.length_nil, List.all_cons, List.all_nil, AV.one, Value.oneCell', ne_eq, reduceCtorEq, Int.reduceNeg, Int.reduceEq, Int.reduceNe, Int.reduceAdd, Int.reduceSub, Int.reduceMul, Int.reduceLT, Int.reduceLE, Int.reduceToNat, List.drop_zero, List.take_zero, List.drop_succ_cons, List.take_succ_cons, List.nil_append, List.cons_append, List.append_nil, List.replicate_zero, List.flatten_nil, List.flatten_cons, List.reduceReplicate, ge_iff_le, gt_iff_lt, eq_self, Nat.add_assoc, facts, *] | simp (disch := omega) only [Ab.wrap_i64] | ((with_reducible refine Ab.gd_ndec (fun _ => ?_) (fun _ => ?_)) <;> try (exfalso; omega)) | ((with_reducible refine Ab.br_ndec (fun _ => ?_) (fun _ => ?_)) <;> try (exfalso; omega)) | ((with_reducible refine Ab.gd_dec (fun _ => ?_) (fun _ => ?_)) <;> try (exfalso; omega)) | ((with_reducible refine Ab.br_dec (fun _ => ?_) (fun _ => ?_)) <;> try (exfalso; omega)) | (refine And.intro (by omega) ?_) | (refine gd_split (fun _ => ?_) (fun _ => ?_)) | (refine br_split (fun _ => ?_) (fun _ => ?_)) | (refine cl_same (hcall _ (hrd _)) ?_) | omega)
      all_goals exact ⟨_, rfl⟩

/-- how much there is -/
def szG (cs : List It) : Nat := (cs.map fun c => c.1.size + szT c.2.2.2).sum
theorem szG_take {js : List It} {i : Nat} {j : It} (h : js[i]? = some j) : szG (js.take (i + 1)) = szG (js.take i) + (j.1.size + szT j.2.2.2) := by
  rw [take_snoc h]; simp [szG]
theorem szG_le (js : List It) (i : Nat) : szG (js.take i) ≤ szG js := by
  have h : szG js = szG (js.take i) + szG (js.drop i) := by
    have := congrArg szG (List.take_append_drop i js)
    rw [← this]; simp only [szG, List.map_append, List.sum_append]
  omega
theorem szG_mem {js : List It} {j : It} (h : j ∈ js) : (j.1.size + szT j.2.2.2) ≤ szG js := by
  obtain ⟨i, hi, rfl⟩ := List.mem_iff_getElem.1 h
  have h1 := szG_take (js := js) (i := i) (List.getElem?_eq_getElem hi)
  have h2 := szG_le js (i + 1)
  omega
theorem szItemS_ok (js : List It) (id : Nat) (h : Heap) (hr : NOk gI inI 4 h id js) (hn : js.length ≤ maxLen) (hmx : ∀ c ∈ js, c.1.size ≤ maxLen ∧ c.2.2.2.length ≤ maxLen ∧ ∀ x ∈ c.2.2.2, x.size ≤ maxLen) :
    AC Try.prog 17 [.sub id (js.length * 4) 4 0 js.length, VI 1048576] h fun r h' => r = VI (if js.length + szG js ≤ 1048576 then 1048576 - ((js.length + szG js : Nat) : Int) else -1) ∧ h' = h := by
  obtain ⟨ids, hr⟩ := hr
  refine AC_go mixed ok17 (by simp) fun hc _ => ?_
  unfold L17
  unfold maxLen at hn
  have hsz := hr.sz
  by_cases hbig : 1048576 < js.length
  · have hC : ¬ js.length + szG js ≤ 1048576 := by omega
    rw [if_neg hC]
    repeat' (first | simp -implicitDefEqProofs only [Ab.R1, Ab.R2, Ab.R3, Ab.R4, Ab.R5, Ab.RH, Ab.RM, Ab.binV, Ab.binC, Nat.reduceLT, Nat.reduceBEq, Nat.reduceAdd, Nat.reduceMul, Nat.reduceEqDiff, Nat.reduceLeDiff, Nat.reduceSub, List.getElem?_cons_zero, List.getElem?_cons_succ, List.getElem?_nil, Option.getD_some, Option.getD_none, if_true, if_false, reduceIte, Option.map_some, Option.map_none, Option.bind_some, Option.bind_none, Option.isSome_some, List.map_cons, List.map_nil, AV.cells, List.length_cons, List.length_nil, List.all_cons, List.all_nil, AV.one, Value.oneCell', ne_eq, reduceCtorEq, Int.reduceNeg, Int.reduceEq, Int.reduceNe, Int.reduceAdd, Int.reduceSub, Int.reduceMul, Int.reduceLT, Int.reduceLE, Int.reduceToNat, List.drop_zero, List.take_zero, List.drop_succ_cons, List.take_succ_cons, List.nil_append, List.cons_append, List.append_nil, List.replicate_zero, List.flatten_nil, List.flatten_cons, List.reduceReplicate, ge_iff_le, gt_iff_lt, eq_self, Nat.add_assoc, facts, *] | simp (disch := omega) only [Ab.wrap_i64] | ((with_reducible refine Ab.gd_ndec (fun _ => ?_) (fun _ => ?_)) <;> try (exfalso; omega)) | ((with_reducible refine Ab.br_ndec (fun _ => ?_) (fun _ => ?_)) <;> try (exfalso; omega)) | ((with_reducible refine Ab.gd_dec (fun _ => ?_) (fun _ => ?_)) <;> try (exfalso; omega)) | ((with_reducible refine Ab.br_dec (fun _ => ?_) (fun _ => ?_)) <;> try (exfalso; omega)) | (refine And.intro (by omega) ?_) | (refine gd_split (fun _ => ?_) (fun _ => ?_)) | (refine br_split (fun _ => ?_) (fun _ => ?_)) | omega)
  · repeat' (first | simp -implicitDefEqProofs only [Ab.R1, Ab.R2, Ab.R3, Ab.R4, Ab.R5, Ab.RH, Ab.RM, Ab.binV, Ab.binC, Nat.reduceLT, Nat.reduceBEq, Nat.reduceAdd, Nat.reduceMul, Nat.reduceEqDiff, Nat.reduceLeDiff, Nat.reduceSub, List.getElem?_cons_zero, List.getElem?_cons_succ, List.getElem?_nil, Option.getD_some, Option.getD_none, if_true, if_false, reduceIte, Option.map_some, Option.map_none, Option.bind_some, Option.bind_none, Option.isSome_some, List.map_cons, List.map_nil, AV.cells, List.length_cons, List.length_nil, List.all_cons, List.all_nil, AV.one, Value.oneCell', ne_eq, reduceCtorEq, Int.reduceNeg, Int.reduceEq, Int.reduceNe, Int.reduceAdd, Int.reduceSub, Int.reduceMul, Int.reduceLT, Int.reduceLE, Int.reduceToNat, List.drop_zero, List.take_zero, List.drop_succ_cons, List.take_succ_cons, List.nil_append, List.cons_append, List.append_nil, List.replicate_zero, List.flatten_nil, List.flatten_cons, List.reduceReplicate, ge_iff_le, gt_iff_lt, eq_self, Nat.add_assoc, facts, *] | simp (disch := omega) only [Ab.wrap_i64] | ((with_reducible refine Ab.gd_ndec (fun _ => ?_) (fun _ => ?_)) <;> try (exfalso; omega)) | ((with_reducible refine Ab.br_ndec (fun _ => ?_) (fun _ => ?_)) <;> try (exfalso; omega)) | ((with_reducible refine Ab.gd_dec (fun _ => ?_) (fun _ => ?_)) <;> try (exfalso; omega)) | ((with_reducible refine Ab.br_dec (fun _ => ?_) (fun _ => ?_)) <;> try (exfalso; omega)) | (refine And.intro (by omega) ?_) | (refine gd_split (fun _ => ?_) (fun _ => ?_)) | (refine br_split (fun _ => ?_) (fun _ => ?_)) | omega)
    refine lw_loopS K17b0 (fun i : Nat => [(1, VI (1048576 - js.length - szG (js.take i))), (5, VI i)]) (fun _ => h) (fun i => i ≤ js.length ∧ js.length + szG (js.take i) ≤ 1048576) (fun i => js.length - i) 0 ⟨by omega, by simp [szG]; omega⟩ rfl (by simp -implicitDefEqProofs only [Ab.R1, Ab.R2, Ab.R3, Ab.R4, Ab.R5, Ab.RH, Ab.RM, Ab.binV, Ab.binC, Nat.reduceLT, Nat.reduceBEq, Nat.reduceAdd, Nat.reduceMul, Nat.reduceEqDiff, Nat.reduceLeDiff, Nat.reduceSub, List.getElem?_cons_zero, List.getElem?_cons_succ, List.getElem?_nil, Option.getD_some, Option.getD_none, if_true, if_false, reduceIte, Option.map_some, Option.map_none, Option.bind_some, Option.bind_none, Option.isSome_some, List.map_cons, List.map_nil, AV.cells, List.length_cons, List.length_nil, List.all_cons, List.all_nil, AV.one, Value.oneCell', ne_eq, reduceCtorEq, Int.reduceNeg, Int.reduceEq, Int.reduceNe, Int.reduceAdd, Int.reduceSub, Int.reduceMul, Int.reduceLT, Int.reduceLE, Int.reduceToNat, List.drop_zero, List.take_zero, List.drop_succ_cons, List.take_succ_cons, List.nil_append, List.cons_append, List.append_nil, List.replicate_zero, List.flatten_nil, List.flatten_cons, List.reduceReplicate, ge_iff_le, gt_iff_lt, eq_self, Nat.add_assoc, facts]; simp [szG]) (fun _ i _ => .same hc (by simp only [Ab.leB_cons, Ab.leB_nil, Ab.ok_raw, Ab.ok_own, Ab.ok_ptr, Ab.ok_sub, Ab.okAll_nil, Ab.okAll_cons, Ab.refOk_app, Ab.refOk_app0, Ab.okB_zero, Ab.okB_succ, Ab.rowI_ok, Ab.rowB_ok, Ab.rowS_ok, Ab.rowU_ok, Ab.rowI_len, Ab.rowB_len, Ab.rowS_len, Ab.rowU_len, List.mem_cons, List.not_mem_nil, or_false, forall_eq, forall_eq_or_imp, List.forall_mem_cons, List.length_replicate, and_true, true_and, and_self, Nat.le_refl, Nat.zero_le, implies_true, List.length_set, List.length_append, List.length_cons, List.length_nil, List.length_map, Bool.and_true, Bool.true_and, Bool.and_self, decide_true, decide_eq_true_eq] <;> omega)) ?_
    intro i ⟨hi, ht⟩ _
    refine lw_run mixed ?_
    unfold L17b0 K17b0
    have hro := hr.row
    have hGl : (rowOf gI (js.zip ids)).length = js.length * 4 := by rw [rowOf_len gI_len]; simp [hr.len]
    have hle := szG_le js i
    rcases Nat.lt_or_ge i js.length with hlt | hge
    · obtain ⟨j, hj⟩ := some_at hlt
      obtain ⟨i0, _, hz0, hr0⟩ := hr.elt hj
      have hs0 := sz_of hr0
      rw [rowS_len] at hs0 hr0
      have htk := szG_take hj
      have hle1 := szG_le js (i + 1)
      obtain ⟨hm0, hm1, hm2⟩ := hmx j (List.mem_of_getElem? hj)
      obtain ⟨j0, j1, j2, j3⟩ := j
      dsimp only at *
      by_cases hg : js.length + szG (js.take i) + (j0.size + szT j3) ≤ 1048576
      · have hcall := szItem_ok j0 j1 j2 j3 i0 (1048576 - js.length - szG (js.take i)) hm0 hm1 hm2 (by omega) (by omega) h hr0
        rw [if_pos (by omega)] at hcall
        repeat' (first | simp -implicitDefEqProofs only [Ab.R1, Ab.R2, Ab.R3, Ab.R4, Ab.R5, Ab.RH, Ab.RM, Ab.binV, Ab.binC, Nat.reduceLT, Nat.reduceBEq, Nat.reduceAdd, Nat.reduceMul, Nat.reduceEqDiff, Nat.reduceLeDiff, Nat.reduceSub, List.getElem?_cons_zero, List.getElem?_cons_succ, List.getElem?_nil, Option.getD_some, Option.getD_none, if_true, if_false, reduceIte, Option.map_some, Option.map_none, Option.bind_some, Option.bind_none, Option.isSome_some, List.map_cons, List.map_nil, AV.cells, List.length_cons, List.length_nil, List.all_cons, List.all_nil, AV.one, Value.oneCell', ne_eq, reduceCtorEq, Int.reduceNeg, Int.reduceEq, Int.reduceNe, Int.reduceAdd, Int.reduceSub, Int.reduceMul, Int.reduceLT, Int.reduceLE, Int.reduceToNat, List.drop_zero, List.take_zero, List.drop_succ_cons, List.take_succ_cons, List.nil_append, List.cons_append, List.append_nil, List.replicate_zero, List.flatten_nil, List.flatten_cons, List.reduceReplicate, ge_iff_le, gt_iff_lt, eq_self, Nat.add_assoc, facts, *, gI_seg] | simp (disch := omega) only [Ab.wrap_i64] | ((with_reducible refine Ab.gd_ndec (fun _ => ?_) (fun _ => ?_)) <;> try (exfalso; omega)) | ((with_reducible refine Ab.br_ndec (fun _ => ?_) (fun _ => ?_)) <;> try (exfalso; omega)) | ((with_reducible refine Ab.gd_dec (fun _ => ?_) (fun _ => ?_)) <;> try (exfalso; omega)) | ((with_reducible refine Ab.br_dec (fun _ => ?_) (fun _ => ?_)) <;> try (exfalso; omega)) | (refine And.intro (by omega) ?_) | (refine gd_split (fun _ => ?_) (fun _ => ?_)) | (refine br_split (fun _ => ?_) (fun _ => ?_)) | (refine cl_same (hcall) ?_) | omega)
        refine ⟨i + 1, [], by omega, ⟨by omega, by omega⟩, by simp, ?_, by omega⟩
        rw [htk]; omega
      · have hC : ¬ js.length + szG js ≤ 1048576 := by omega
        have hcall := szItem_ok j0 j1 j2 j3 i0 (1048576 - js.length - szG (js.take i)) hm0 hm1 hm2 (by omega) (by omega) h hr0
        rw [if_neg (by omega)] at hcall
        rw [if_neg hC]
        repeat' (first | simp -implicitDefEqProofs only [Ab.R1, Ab.R2, Ab.R3, Ab.R4, Ab.R5, Ab.RH, Ab.RM, Ab.binV, Ab.binC, Nat.reduceLT, Nat.reduceBEq, Nat.reduceAdd, Nat.reduceMul, Nat.reduceEqDiff, Nat.reduceLeDiff, Nat.reduceSub, List.getElem?_cons_zero, List.getElem?_cons_succ, List.getElem?_nil, Option.getD_some, Option.getD_none, if_true, if_false, reduceIte, Option.map_some, Option.map_none, Option.bind_some, Option.bind_none, Option.isSome_some, List.map_cons, List.map_nil, AV.cells, List.length_cons, List.length_nil, List.all_cons, List.all_nil, AV.one, Value.oneCell', ne_eq, reduceCtorEq, Int.reduceNeg, Int.reduceEq, Int.reduceNe, Int.reduceAdd, Int.reduceSub, Int.reduceMul, Int.reduceLT, Int.reduceLE, Int.reduceToNat, List.drop_zero, List.take_zero, List.drop_succ_cons, List.take_succ_cons, List.nil_append, List.cons_append, List.append_nil, List.replicate_zero, List.flatten_nil, List.flatten_cons, List.reduceReplicate, ge_iff_le, gt_iff_lt, eq_self, Nat.add_assoc, facts, *, gI_seg] | simp (disch := omega) only [Ab.wrap_i64] | ((with_reducible refine Ab.gd_ndec (fun _ => ?_) (fun _ => ?_)) <;> try (exfalso; omega)) | ((with_reducible refine Ab.br_ndec (fun _ => ?_) (fun _ => ?_)) <;> try (exfalso; omega)) | ((with_reducible refine Ab.gd_dec (fun _ => ?_) (fun _ => ?_)) <;> try (exfalso; omega)) | ((with_reducible refine Ab.br_dec (fun _ => ?_) (fun _ => ?_)) <;> try (exfalso; omega)) | (refine And.intro (by omega) ?_) | (refine gd_split (fun _ => ?_) (fun _ => ?_)) | (refine br_split (fun _ => ?_) (fun _ => ?_)) | (refine cl_same (hcall) ?_) | omega)
    · have hti : js.take i = js := take_all hge
      rw [hti] at ht ⊢
      rw [if_pos ht]
      repeat' (first | simp -implicitDefEqProofs only [Ab.R1, Ab.R2, Ab.R3, Ab.R4, Ab.R5, Ab.RH, Ab.RM, Ab.binV, Ab.binC, Nat.reduceLT, Nat.reduceBEq, Nat.reduceAdd, Nat.reduceMul, Nat.reduceEqDiff, Nat.reduceLeDiff, Nat.reduceSub, List.getElem?_cons_zero, List.getElem?_cons_succ, List.getElem?_nil, Option.getD_some, Option.getD_none, if_true, if_false, reduceIte, Option.map_some, Option.map_none, Option.bind_some, Option.bind_none, Option.isSome_some, List.map_cons, List.map_nil, AV.cells, List.length_cons, List.length_nil, List.all_cons, List.all_nil, AV.one, Value.oneCell', ne_eq, reduceCtorEq, Int.reduceNeg, Int.reduceEq, Int.reduceNe, Int.reduceAdd, Int.reduceSub, Int.reduceMul, Int.reduceLT, Int.reduceLE, Int.reduceToNat, List.drop_zero, List.take_zero, List.drop_succ_cons, List.take_succ_cons, List.nil_append, List.cons_append, List.append_nil, List.replicate_zero, List.flatten_nil, List.flatten_cons, List.reduceReplicate, ge_iff_le, gt_iff_lt, eq_self, Nat.add_assoc, facts, *] | simp (disch := omega) only [Ab.wrap_i64] | ((with_reducible refine Ab.gd_ndec (fun _ => ?_) (fun _ => ?_)) <;> try (exfalso; omega)) | ((with_reducible refine Ab.br_ndec (fun _ => ?_) (fun _ => ?_)) <;> try (exfalso; omega)) | ((with_reducible refine Ab.gd_dec (fun _ => ?_) (fun _ => ?_)) <;> try (exfalso; omega)) | ((with_reducible refine Ab.br_dec (fun _ => ?_) (fun _ => ?_)) <;> try (exfalso; omega)) | (refine And.intro (by omega) ?_) | (refine gd_split (fun _ => ?_) (fun _ => ?_)) | (refine br_split (fun _ => ?_) (fun _ => ?_)) | omega)

theorem lawCatalogOk_ok (js : List It) (id : Nat) (hnm : js.length ≤ maxLen) (hmx : ∀ c ∈ js, c.1.size ≤ maxLen ∧ c.2.2.2.length ≤ maxLen ∧ ∀ x ∈ c.2.2.2, x.size ≤ maxLen) (h : Heap) (hr : NOk gI inI 4 h id js) :
    AC Try.prog 5 [.sub id (js.length * 4) 4 0 js.length] h fun r _ => r = VB true := by
  refine AC_go mixed ok5 (by simp) fun hc _ => ?_
  unfold L5
  have hsz := szItemS_ok js id h hr hnm hmx
  have hsub : ∀ l, NOk gI inI 4 (h ++ l) id js := fun l => hr.sub (Heap.sub_append _ _)
  by_cases hsmall : js.length + szG js ≤ 1048576
  · rw [if_pos hsmall] at hsz
    have hn : js.length ≤ 1048576 := by omega
    have hm : ∀ c ∈ js, c.1.size ≤ 1048576 ∧ c.2.2.2.length ≤ 1048576 ∧ ∀ x ∈ c.2.2.2, x.size ≤ 1048576 := fun c hcm => by
      have h2 := szG_mem hcm
      have h3 := szT_len c.2.2.2
      exact ⟨by omega, by omega, fun x hx => by have := szT_elt hx; omega⟩
    have hm1 : ∀ j ∈ js, j.2.2.2.length ≤ 1048576 := fun j hj => (hm j hj).2.1
    obtain ⟨E0, hT0, -, n0⟩ := toItemS_E js id hn hm1 h hr
    obtain ⟨E1, hT1, -, n1⟩ := toItemS_E js id hn hm1 (h ++ E0) (hsub _)
    obtain ⟨E2, hT2, -, n2⟩ := toItemS_E js id hn hm1 (h ++ (E0 ++ E1)) (hsub _)
    have m0 := n0 []
    have m1 := n1 []
    have m1' := n1 E2
    have m2 := n2 []
    simp only [app_assoc, len_app, List.append_nil] at m0 m1 m1' m2
    clear n0 n1 n2 hr hsub
    repeat' (first | simp -implicitDefEqProofs only [Ab.R1, Ab.R2, Ab.R3, Ab.R4, Ab.R5, Ab.RH, Ab.RM, Ab.binV, Ab.binC, Nat.reduceLT, Nat.reduceBEq, Nat.reduceAdd, Nat.reduceMul, Nat.reduceEqDiff, Nat.reduceLeDiff, Nat.reduceSub, List.getElem?_cons_zero, List.getElem?_cons_succ, List.getElem?_nil, Option.getD_some, Option.getD_none, if_true, if_false, reduceIte, Option.map_some, Option.map_none, Option.bind_some, Option.bind_none, Option.isSome_some, List.map_cons, List.map_nil, AV.cells, List.length_cons, List.length_nil, List.all_cons, List.all_nil, AV.one, Value.oneCell', ne_eq, reduceCtorEq, Int.reduceNeg, Int.reduceEq, Int.reduceNe, Int.reduceAdd, Int.reduceSub, Int.reduceMul, Int.reduceLT, Int.reduceLE, Int.reduceToNat, List.drop_zero, List.take_zero, List.drop_succ_cons, List.take_succ_cons, List.nil_append, List.cons_append, List.append_nil, List.replicate_zero, List.flatten_nil, List.flatten_cons, List.reduceReplicate, ge_iff_le, gt_iff_lt, eq_self, Nat.add_assoc, facts, *] | simp (disch := omega) only [Ab.wrap_i64] | ((with_reducible refine Ab.gd_ndec (fun _ => ?_) (fun _ => ?_)) <;> try (exfalso; omega)) | ((with_reducible refine Ab.br_ndec (fun _ => ?_) (fun _ => ?_)) <;> try (exfalso; omega)) | ((with_reducible refine Ab.gd_dec (fun _ => ?_) (fun _ => ?_)) <;> try (exfalso; omega)) | ((with_reducible refine Ab.br_dec (fun _ => ?_) (fun _ => ?_)) <;> try (exfalso; omega)) | (refine And.intro (by omega) ?_) | (refine gd_split (fun _ => ?_) (fun _ => ?_)) | (refine br_split (fun _ => ?_) (fun _ => ?_)) | (refine cl_same (hsz) ?_) | (refine cl_more ( hT0) ?_) | (refine cl_more ( hT1) ?_) | (refine cl_more ( hT2) ?_) | (refine cl_same (specCat_ok js _ hn hm _ m0) ?_) | (refine cl_same (implCat_ok js _ hn hm _ m1) ?_) | (refine cl_same (eqItemS_ok js js _ _ hn hm1 _ m1' m2) ?_) | omega)
    all_goals simp_all
  · rw [if_neg hsmall] at hsz
    repeat' (first | simp -implicitDefEqProofs only [Ab.R1, Ab.R2, Ab.R3, Ab.R4, Ab.R5, Ab.RH, Ab.RM, Ab.binV, Ab.binC, Nat.reduceLT, Nat.reduceBEq, Nat.reduceAdd, Nat.reduceMul, Nat.reduceEqDiff, Nat.reduceLeDiff, Nat.reduceSub, List.getElem?_cons_zero, List.getElem?_cons_succ, List.getElem?_nil, Option.getD_some, Option.getD_none, if_true, if_false, reduceIte, Option.map_some, Option.map_none, Option.bind_some, Option.bind_none, Option.isSome_some, List.map_cons, List.map_nil, AV.cells, List.length_cons, List.length_nil, List.all_cons, List.all_nil, AV.one, Value.oneCell', ne_eq, reduceCtorEq, Int.reduceNeg, Int.reduceEq, Int.reduceNe, Int.reduceAdd, Int.reduceSub, Int.reduceMul, Int.reduceLT, Int.reduceLE, Int.reduceToNat, List.drop_zero, List.take_zero, List.drop_succ_cons, List.take_succ_cons, List.nil_append, List.cons_append, List.append_nil, List.replicate_zero, List.flatten_nil, List.flatten_cons, List.reduceReplicate, ge_iff_le, gt_iff_lt, eq_self, Nat.add_assoc, facts, *] | simp (disch := omega) only [Ab.wrap_i64] | ((with_reducible refine Ab.gd_ndec (fun _ => ?_) (fun _ => ?_)) <;> try (exfalso; omega)) | ((with_reducible refine Ab.br_ndec (fun _ => ?_) (fun _ => ?_)) <;> try (exfalso; omega)) | ((with_reducible refine Ab.gd_dec (fun _ => ?_) (fun _ => ?_)) <;> try (exfalso; omega)) | ((with_reducible refine Ab.br_dec (fun _ => ?_) (fun _ => ?_)) <;> try (exfalso; omega)) | (refine And.intro (by omega) ?_) | (refine gd_split (fun _ => ?_) (fun _ => ?_)) | (refine br_split (fun _ => ?_) (fun _ => ?_)) | (refine cl_same (hsz) ?_) | omega)

theorem say_nestP {α : Type} {g : α × Nat → List AV} {inn : α → List AV} {es : Nat} {P : α → Prop} (hpos : 0 < es) (hg : ∀ p, (g p).length = es) {R : Say} {h : Heap}
    (hR : ∀ cs, R h cs → ∃ a i, cs = g (a, i) ∧ rd h i (inn a).length = some (inn a) ∧ P a) {av : List AV} (hs : (SaySl es fun _ => R) h av) :
    ∃ (xs : List α) (id : Nat), av = [.sub id (xs.length * es) es 0 xs.length] ∧ xs.length ≤ maxLen ∧ NOk g inn es h id xs ∧ ∀ a ∈ xs, P a := by
  obtain ⟨id, cells, len, h1, h2, h3, h4⟩ := hs
  have key : ∃ ps : List { p : α × Nat // rd h p.2 (inn p.1).length = some (inn p.1) ∧ P p.1 }, ps.length = len ∧ cells = rowOf (fun p => g p.1) ps :=
    rows_of_each (f := fun p : { p : α × Nat // rd h p.2 (inn p.1).length = some (inn p.1) ∧ P p.1 } => g p.1) hpos (fun p => hg p.1) (fun cs hcs => by
      obtain ⟨a, i, rfl, hr, hm⟩ := hR cs hcs
      exact ⟨⟨(a, i), hr, hm⟩, rfl⟩) len cells (rd_spec h2).1 h4
  obtain ⟨ps, rfl, rfl⟩ := key
  refine ⟨ps.map (·.1.1), id, by simpa using h1, by simpa using h3, ⟨ps.map (·.1.2), by simp, ?_, fun k a i hk hi => ?_⟩, fun a ha => ?_⟩
  · rw [List.length_map, h2]
    congr 1
    clear h1 h2 h3 h4
    induction ps with
    | nil => rfl
    | cons p ps ih => rw [rowOf_cons, List.map_cons, List.map_cons, List.zip_cons_cons, rowOf_cons, ih]
  · simp only [List.getElem?_map, Option.map_eq_some_iff] at hk hi
    obtain ⟨p, hp, rfl⟩ := hk
    obtain ⟨q, hq, rfl⟩ := hi
    rw [hp] at hq; injection hq with hq; subst hq
    exact p.2.1
  · simp only [List.mem_map] at ha
    obtain ⟨p, _, rfl⟩ := ha
    exact p.2.2
theorem say_items {h : Heap} {c : AV} (hs : (SaySl 4 fun _ => SayF [(1, SayS), (3, SayF [(1, SayI .i64), (1, SayI .i64), (1, SaySl 1 fun _ => SayS)])]) h [c]) :
    ∃ (cs : List It) (id : Nat), c = .sub id (cs.length * 4) 4 0 cs.length ∧ cs.length ≤ maxLen ∧ NOk gI inI 4 h id cs ∧ ∀ a ∈ cs, a.1.size ≤ maxLen ∧ a.2.2.2.length ≤ maxLen ∧ ∀ x ∈ a.2.2.2, x.size ≤ maxLen := by
  obtain ⟨cs, id, h1, h2, h3, h4⟩ := say_nestP (g := gI) (inn := inI) (P := fun a : It => a.1.size ≤ maxLen ∧ a.2.2.2.length ≤ maxLen ∧ ∀ x ∈ a.2.2.2, x.size ≤ maxLen) (by decide) gI_len (fun cs hcs => by
    obtain ⟨_, _, rfl, l1, ⟨nm, rfl, hnm⟩, c2, _, rfl, l2, h2, rfl⟩ := hcs
    obtain ⟨d, f, xs, i, e, m, z, r⟩ := say_card h2
    injection e with e
    exact ⟨(nm, d, f, xs), i, by rw [e]; rfl, by rw [rowS_len]; exact r, hnm, m, z⟩) hs
  exact ⟨cs, id, List.head_eq_of_cons_eq h1, h2, h3, h4⟩
end Go.Proofs.Ytfcbjeciogfmeaa
