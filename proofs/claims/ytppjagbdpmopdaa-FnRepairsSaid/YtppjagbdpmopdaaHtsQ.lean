/- The heights under a strip; the area between two. -/
import Derived.Test.YtppjagbdpmopdaaAb32
import Derived.Test.YtppjagbdpmopdaaMixBQ
import Derived.Test.YtppjagbdpmopdaaAb30
namespace Go.Proofs.Ytppjagbdpmopdaa
set_option maxRecDepth 20000
set_option linter.unusedSimpArgs false
set_option linter.unusedVariables false
open Go Go.Ab
abbrev rowW (xs : List Int) : Blk := ⟨.row 3 1, rowI xs⟩
theorem rowW_end (xs : List Int) (n : Int) : rowW (xs ++ [n]) = ⟨.row 3 1, rowI xs ++ [VI n]⟩ := by rw [rowW, ← rowI_snoc]
/-- the height before the k-th step -/
def hgt (b : ByteArray) (k : Nat) : Int := (cA 100 b : Nat) - ((k : Int) - (cK 102 b k : Nat))
def htG (b : ByteArray) : Nat → List Int
  | 0 => []
  | k + 1 => if byAt b k = 102 then htG b k ++ [hgt b k] else htG b k
def htL (b : ByteArray) : List Int := htG b b.size
theorem htG_len (b : ByteArray) {k : Nat} (hk : k ≤ b.size) : (htG b k).length = cK 102 b k := by
  induction k with
  | zero => simp [htG, cK_zero]
  | succ k ih =>
    rw [cK_succ 102 b (by omega), htG]
    have := ih (by omega)
    split <;> simp [this]
theorem htL_len (b : ByteArray) : (htL b).length = cA 102 b := by rw [htL, htG_len b (Nat.le_refl _), cK_all (Nat.le_refl _)]
theorem htG_f {b : ByteArray} {k : Nat} (h : byAt b k = 102) : htG b (k + 1) = htG b k ++ [hgt b k] := by rw [htG, if_pos h]
theorem htG_d {b : ByteArray} {k : Nat} (h : byAt b k ≠ 102) : htG b (k + 1) = htG b k := by rw [htG, if_neg h]
theorem hgt_zero (b : ByteArray) : hgt b 0 = (cA 100 b : Nat) := by simp [hgt, cK_zero]
theorem hgt_f {b : ByteArray} {k : Nat} (hk : k < b.size) (h : byAt b k = 102) : hgt b (k + 1) = hgt b k := by unfold hgt; rw [cK_hit hk h]; omega
theorem hgt_d {b : ByteArray} {k : Nat} (hk : k < b.size) (h : byAt b k ≠ 102) : hgt b (k + 1) = hgt b k - 1 := by unfold hgt; rw [cK_miss hk h]; omega
theorem hgt_lo {b : ByteArray} {k : Nat} (hk : k ≤ b.size) (hb : b.size ≤ 1048576) : -1048576 ≤ hgt b k ∧ hgt b k ≤ 1048576 := by
  have h1 := cA_le 100 b
  have h2 := cK_le 102 b k
  unfold hgt; omega
theorem specHts_ok (b : ByteArray) (hb : b.size ≤ 1048576) (h : Heap) : AC Try.prog 69 [VS b] h fun r h' => r = .own h.length 1 (htL b).length ∧ h' = h ++ [rowW (htL b)] := by
  refine AC.row1 0 (fun i => .own i 1 (htL b).length) (rowW (htL b)) (fun _ _ => rfl) (by simp [AV.ok, refOk, csz, rowI_len]) (fun h => rowI_ok h _) (fun ρ => ren_rowI ρ _) ?_
  refine AC_go mixed ok69 (by simp) fun hc _ => ?_
  unfold L69
  have hcnt := fun h => specCnt_ok b 100 hb h
  have hz := hgt_zero b
  repeat' (first | simp -implicitDefEqProofs only [Ab.R1, Ab.R2, Ab.R3, Ab.R4, Ab.R5, Ab.RH, Ab.RM, Ab.binV, Ab.binC, Nat.reduceLT, Nat.reduceBEq, Nat.reduceAdd, Nat.reduceMul, Nat.reduceEqDiff, Nat.reduceLeDiff, Nat.reduceSub, List.getElem?_cons_zero, List.getElem?_cons_succ, List.getElem?_nil, Option.getD_some, Option.getD_none, if_true, if_false, reduceIte, Option.map_some, Option.map_none, Option.bind_some, Option.bind_none, Option.isSome_some, List.map_cons, List.map_nil, AV.cells, List.length_cons, List.length_nil, List.all_cons, List.all_nil, AV.one, Value.oneCell', ne_eq, reduceCtorEq, Int.reduceNeg, Int.reduceEq, Int.reduceNe, Int.reduceAdd, Int.reduceSub, Int.reduceMul, Int.reduceLT, Int.reduceLE, Int.reduceToNat, List.drop_zero, List.take_zero, List.drop_succ_cons, List.take_succ_cons, List.nil_append, List.cons_append, List.append_nil, List.replicate_zero, List.flatten_nil, List.flatten_cons, List.reduceReplicate, ge_iff_le, gt_iff_lt, eq_self, Nat.add_assoc, facts, *] | simp (disch := omega) only [Ab.wrap_i64] | ((with_reducible refine Ab.gd_ndec (fun _ => ?_) (fun _ => ?_)) <;> try (exfalso; omega)) | ((with_reducible refine Ab.br_ndec (fun _ => ?_) (fun _ => ?_)) <;> try (exfalso; omega)) | ((with_reducible refine Ab.gd_dec (fun _ => ?_) (fun _ => ?_)) <;> try (exfalso; omega)) | ((with_reducible refine Ab.br_dec (fun _ => ?_) (fun _ => ?_)) <;> try (exfalso; omega)) | (with_reducible refine Ab.run_alt ?_ ?_) | (refine And.intro (by omega) ?_) | (refine gd_split (fun _ => ?_) (fun _ => ?_)) | (refine br_split (fun _ => ?_) (fun _ => ?_)) | (refine cl_same (hcnt _) ?_) | omega)
  refine lw_loopS K69b0 (fun i : Nat => [(3, .own h.length 1 (htG b i).length), (4, VI (hgt b i)), (5, VI i)]) (fun i => h ++ [rowW (htG b i)]) (fun i => i ≤ b.size) (fun i => b.size - i) 0 (by omega) rfl (by (simp -implicitDefEqProofs only [Ab.R1, Ab.R2, Ab.R3, Ab.R4, Ab.R5, Ab.RH, Ab.RM, Ab.binV, Ab.binC, Nat.reduceLT, Nat.reduceBEq, Nat.reduceAdd, Nat.reduceMul, Nat.reduceEqDiff, Nat.reduceLeDiff, Nat.reduceSub, List.getElem?_cons_zero, List.getElem?_cons_succ, List.getElem?_nil, Option.getD_some, Option.getD_none, if_true, if_false, reduceIte, Option.map_some, Option.map_none, Option.bind_some, Option.bind_none, Option.isSome_some, List.map_cons, List.map_nil, AV.cells, List.length_cons, List.length_nil, List.all_cons, List.all_nil, AV.one, Value.oneCell', ne_eq, reduceCtorEq, Int.reduceNeg, Int.reduceEq, Int.reduceNe, Int.reduceAdd, Int.reduceSub, Int.reduceMul, Int.reduceLT, Int.reduceLE, Int.reduceToNat, List.drop_zero, List.take_zero, List.drop_succ_cons, List.take_succ_cons, List.nil_append, List.cons_append, List.append_nil, List.replicate_zero, List.flatten_nil, List.flatten_cons, List.reduceReplicate, ge_iff_le, gt_iff_lt, eq_self, Nat.add_assoc, facts] <;> first | rfl | exact ⟨rfl, rfl⟩ | exact ⟨rfl, rfl, rfl⟩ | (simp; done))) (fun _ k hk => .app hc (by simp only [Ab.leB_cons, Ab.leB_nil, Ab.ok_raw, Ab.ok_own, Ab.ok_ptr, Ab.ok_sub, Ab.okAll_nil, Ab.okAll_cons, Ab.refOk_app, Ab.refOk_app0, Ab.okB_zero, Ab.okB_succ, Ab.rowI_ok, Ab.rowB_ok, Ab.rowS_ok, Ab.rowU_ok, Ab.rowI_len, Ab.rowB_len, Ab.rowS_len, Ab.rowU_len, List.mem_cons, List.not_mem_nil, or_false, forall_eq, forall_eq_or_imp, List.forall_mem_cons, List.length_replicate, and_true, true_and, and_self, Nat.le_refl, Nat.zero_le, implies_true, List.length_set, List.length_append, List.length_cons, List.length_nil, List.length_map, Bool.and_true, Bool.true_and, Bool.and_self, decide_true, decide_eq_true_eq, Nat.mul_one, Nat.mul_one] <;> omega) (by simp only [Ab.leB_cons, Ab.leB_nil, Ab.ok_raw, Ab.ok_own, Ab.ok_ptr, Ab.ok_sub, Ab.okAll_nil, Ab.okAll_cons, Ab.refOk_app, Ab.refOk_app0, Ab.okB_zero, Ab.okB_succ, Ab.rowI_ok, Ab.rowB_ok, Ab.rowS_ok, Ab.rowU_ok, Ab.rowI_len, Ab.rowB_len, Ab.rowS_len, Ab.rowU_len, List.mem_cons, List.not_mem_nil, or_false, forall_eq, forall_eq_or_imp, List.forall_mem_cons, List.length_replicate, and_true, true_and, and_self, Nat.le_refl, Nat.zero_le, implies_true, List.length_set, List.length_append, List.length_cons, List.length_nil, List.length_map, Bool.and_true, Bool.true_and, Bool.and_self, decide_true, decide_eq_true_eq, Nat.mul_one, Nat.mul_one] <;> omega) (by simp only [Ab.leB_cons, Ab.leB_nil, Ab.ok_raw, Ab.ok_own, Ab.ok_ptr, Ab.ok_sub, Ab.okAll_nil, Ab.okAll_cons, Ab.refOk_app, Ab.refOk_app0, Ab.okB_zero, Ab.okB_succ, Ab.rowI_ok, Ab.rowB_ok, Ab.rowS_ok, Ab.rowU_ok, Ab.rowI_len, Ab.rowB_len, Ab.rowS_len, Ab.rowU_len, List.mem_cons, List.not_mem_nil, or_false, forall_eq, forall_eq_or_imp, List.forall_mem_cons, List.length_replicate, and_true, true_and, and_self, Nat.le_refl, Nat.zero_le, implies_true, List.length_set, List.length_append, List.length_cons, List.length_nil, List.length_map, Bool.and_true, Bool.true_and, Bool.and_self, decide_true, decide_eq_true_eq, Nat.mul_one, Nat.mul_one] <;> omega)) ?_
  intro i hi _
  refine lw_run mixed ?_
  unfold L69b0 K69b0
  have hlen := htG_len b hi
  have hle := cK_le 102 b i
  have hcr := rowI_len (htG b i)
  have hlo := hgt_lo hi hb
  rcases Nat.lt_or_ge i b.size with hlt | hge
  · by_cases hf : ((byAt b i).toNat : Int) = 102
    · have e := htG_f (at_f hf)
      have e2 := hgt_f hlt (at_f hf)
      repeat' (first | simp -implicitDefEqProofs only [Ab.R1, Ab.R2, Ab.R3, Ab.R4, Ab.R5, Ab.RH, Ab.RM, Ab.binV, Ab.binC, Nat.reduceLT, Nat.reduceBEq, Nat.reduceAdd, Nat.reduceMul, Nat.reduceEqDiff, Nat.reduceLeDiff, Nat.reduceSub, List.getElem?_cons_zero, List.getElem?_cons_succ, List.getElem?_nil, Option.getD_some, Option.getD_none, if_true, if_false, reduceIte, Option.map_some, Option.map_none, Option.bind_some, Option.bind_none, Option.isSome_some, List.map_cons, List.map_nil, AV.cells, List.length_cons, List.length_nil, List.all_cons, List.all_nil, AV.one, Value.oneCell', ne_eq, reduceCtorEq, Int.reduceNeg, Int.reduceEq, Int.reduceNe, Int.reduceAdd, Int.reduceSub, Int.reduceMul, Int.reduceLT, Int.reduceLE, Int.reduceToNat, List.drop_zero, List.take_zero, List.drop_succ_cons, List.take_succ_cons, List.nil_append, List.cons_append, List.append_nil, List.replicate_zero, List.flatten_nil, List.flatten_cons, List.reduceReplicate, ge_iff_le, gt_iff_lt, eq_self, Nat.add_assoc, facts, *] | simp (disch := omega) only [Ab.wrap_i64] | ((with_reducible refine Ab.gd_ndec (fun _ => ?_) (fun _ => ?_)) <;> try (exfalso; omega)) | ((with_reducible refine Ab.br_ndec (fun _ => ?_) (fun _ => ?_)) <;> try (exfalso; omega)) | ((with_reducible refine Ab.gd_dec (fun _ => ?_) (fun _ => ?_)) <;> try (exfalso; omega)) | ((with_reducible refine Ab.br_dec (fun _ => ?_) (fun _ => ?_)) <;> try (exfalso; omega)) | (with_reducible refine Ab.run_alt ?_ ?_) | (refine And.intro (by omega) ?_) | (refine gd_split (fun _ => ?_) (fun _ => ?_)) | (refine br_split (fun _ => ?_) (fun _ => ?_)) | omega)
      refine ⟨i + 1, [⟨.row 3 1, [VI (hgt b i)]⟩], by omega, by omega, ?_, ?_, by omega⟩
      · rw [e, rowW_end]; try simp
      · rw [e]; simp [hlen]
    · have e := htG_d (not_f hf)
      have e2 := hgt_d hlt (not_f hf)
      repeat' (first | simp -implicitDefEqProofs only [Ab.R1, Ab.R2, Ab.R3, Ab.R4, Ab.R5, Ab.RH, Ab.RM, Ab.binV, Ab.binC, Nat.reduceLT, Nat.reduceBEq, Nat.reduceAdd, Nat.reduceMul, Nat.reduceEqDiff, Nat.reduceLeDiff, Nat.reduceSub, List.getElem?_cons_zero, List.getElem?_cons_succ, List.getElem?_nil, Option.getD_some, Option.getD_none, if_true, if_false, reduceIte, Option.map_some, Option.map_none, Option.bind_some, Option.bind_none, Option.isSome_some, List.map_cons, List.map_nil, AV.cells, List.length_cons, List.length_nil, List.all_cons, List.all_nil, AV.one, Value.oneCell', ne_eq, reduceCtorEq, Int.reduceNeg, Int.reduceEq, Int.reduceNe, Int.reduceAdd, Int.reduceSub, Int.reduceMul, Int.reduceLT, Int.reduceLE, Int.reduceToNat, List.drop_zero, List.take_zero, List.drop_succ_cons, List.take_succ_cons, List.nil_append, List.cons_append, List.append_nil, List.replicate_zero, List.flatten_nil, List.flatten_cons, List.reduceReplicate, ge_iff_le, gt_iff_lt, eq_self, Nat.add_assoc, facts, *] | simp (disch := omega) only [Ab.wrap_i64] | ((with_reducible refine Ab.gd_ndec (fun _ => ?_) (fun _ => ?_)) <;> try (exfalso; omega)) | ((with_reducible refine Ab.br_ndec (fun _ => ?_) (fun _ => ?_)) <;> try (exfalso; omega)) | ((with_reducible refine Ab.gd_dec (fun _ => ?_) (fun _ => ?_)) <;> try (exfalso; omega)) | ((with_reducible refine Ab.br_dec (fun _ => ?_) (fun _ => ?_)) <;> try (exfalso; omega)) | (with_reducible refine Ab.run_alt ?_ ?_) | (refine And.intro (by omega) ?_) | (refine gd_split (fun _ => ?_) (fun _ => ?_)) | (refine br_split (fun _ => ?_) (fun _ => ?_)) | omega)
      refine ⟨i + 1, [], by omega, by omega, ?_, ?_, by omega⟩
      · rw [e]; try simp
      · rw [e]; simp [hlen]
  · obtain rfl : i = b.size := by omega
    repeat' (first | simp -implicitDefEqProofs only [Ab.R1, Ab.R2, Ab.R3, Ab.R4, Ab.R5, Ab.RH, Ab.RM, Ab.binV, Ab.binC, Nat.reduceLT, Nat.reduceBEq, Nat.reduceAdd, Nat.reduceMul, Nat.reduceEqDiff, Nat.reduceLeDiff, Nat.reduceSub, List.getElem?_cons_zero, List.getElem?_cons_succ, List.getElem?_nil, Option.getD_some, Option.getD_none, if_true, if_false, reduceIte, Option.map_some, Option.map_none, Option.bind_some, Option.bind_none, Option.isSome_some, List.map_cons, List.map_nil, AV.cells, List.length_cons, List.length_nil, List.all_cons, List.all_nil, AV.one, Value.oneCell', ne_eq, reduceCtorEq, Int.reduceNeg, Int.reduceEq, Int.reduceNe, Int.reduceAdd, Int.reduceSub, Int.reduceMul, Int.reduceLT, Int.reduceLE, Int.reduceToNat, List.drop_zero, List.take_zero, List.drop_succ_cons, List.take_succ_cons, List.nil_append, List.cons_append, List.append_nil, List.replicate_zero, List.flatten_nil, List.flatten_cons, List.reduceReplicate, ge_iff_le, gt_iff_lt, eq_self, Nat.add_assoc, facts, *] | simp (disch := omega) only [Ab.wrap_i64] | ((with_reducible refine Ab.gd_ndec (fun _ => ?_) (fun _ => ?_)) <;> try (exfalso; omega)) | ((with_reducible refine Ab.br_ndec (fun _ => ?_) (fun _ => ?_)) <;> try (exfalso; omega)) | ((with_reducible refine Ab.gd_dec (fun _ => ?_) (fun _ => ?_)) <;> try (exfalso; omega)) | ((with_reducible refine Ab.br_dec (fun _ => ?_) (fun _ => ?_)) <;> try (exfalso; omega)) | (with_reducible refine Ab.run_alt ?_ ?_) | (refine And.intro (by omega) ?_) | (refine gd_split (fun _ => ?_) (fun _ => ?_)) | (refine br_split (fun _ => ?_) (fun _ => ?_)) | omega)
    all_goals exact ⟨by rw [htL, hlen], _, rfl, rfl⟩
theorem implHts_ok (b : ByteArray) (hb : b.size ≤ 1048576) (hS : stripB b = true) (h : Heap) : AC Try.prog 109 [VS b] h fun r h' => r = .own h.length 1 (htL b).length ∧ h' = h ++ [rowW (htL b)] := by
  refine AC.row1 0 (fun i => .own i 1 (htL b).length) (rowW (htL b)) (fun _ _ => rfl) (by simp [AV.ok, refOk, csz, rowI_len]) (fun h => rowI_ok h _) (fun ρ => ren_rowI ρ _) ?_
  refine AC_go mixed ok109 (by simp) fun hc _ => ?_
  unfold L109
  have hz := hgt_zero b
  have hd := downI_yes hS
  repeat' (first | simp -implicitDefEqProofs only [Ab.R1, Ab.R2, Ab.R3, Ab.R4, Ab.R5, Ab.RH, Ab.RM, Ab.binV, Ab.binC, Nat.reduceLT, Nat.reduceBEq, Nat.reduceAdd, Nat.reduceMul, Nat.reduceEqDiff, Nat.reduceLeDiff, Nat.reduceSub, List.getElem?_cons_zero, List.getElem?_cons_succ, List.getElem?_nil, Option.getD_some, Option.getD_none, if_true, if_false, reduceIte, Option.map_some, Option.map_none, Option.bind_some, Option.bind_none, Option.isSome_some, List.map_cons, List.map_nil, AV.cells, List.length_cons, List.length_nil, List.all_cons, List.all_nil, AV.one, Value.oneCell', ne_eq, reduceCtorEq, Int.reduceNeg, Int.reduceEq, Int.reduceNe, Int.reduceAdd, Int.reduceSub, Int.reduceMul, Int.reduceLT, Int.reduceLE, Int.reduceToNat, List.drop_zero, List.take_zero, List.drop_succ_cons, List.take_succ_cons, List.nil_append, List.cons_append, List.append_nil, List.replicate_zero, List.flatten_nil, List.flatten_cons, List.reduceReplicate, ge_iff_le, gt_iff_lt, eq_self, Nat.add_assoc, facts, *] | simp (disch := omega) only [Ab.wrap_i64] | ((with_reducible refine Ab.gd_ndec (fun _ => ?_) (fun _ => ?_)) <;> try (exfalso; omega)) | ((with_reducible refine Ab.br_ndec (fun _ => ?_) (fun _ => ?_)) <;> try (exfalso; omega)) | ((with_reducible refine Ab.gd_dec (fun _ => ?_) (fun _ => ?_)) <;> try (exfalso; omega)) | ((with_reducible refine Ab.br_dec (fun _ => ?_) (fun _ => ?_)) <;> try (exfalso; omega)) | (with_reducible refine Ab.run_alt ?_ ?_) | (refine And.intro (by omega) ?_) | (refine gd_split (fun _ => ?_) (fun _ => ?_)) | (refine br_split (fun _ => ?_) (fun _ => ?_)) | (refine cl_same (implStrip_ok b hb _) ?_) | (refine cl_same (implDown_ok b hb _) ?_) | omega)
  refine lw_loopS K109b0 (fun i : Nat => [(3, .own h.length 1 (htG b i).length), (4, VI (hgt b i)), (14, VI i)]) (fun i => h ++ [rowW (htG b i)]) (fun i => i ≤ b.size) (fun i => b.size - i) 0 (by omega) rfl (by (simp -implicitDefEqProofs only [Ab.R1, Ab.R2, Ab.R3, Ab.R4, Ab.R5, Ab.RH, Ab.RM, Ab.binV, Ab.binC, Nat.reduceLT, Nat.reduceBEq, Nat.reduceAdd, Nat.reduceMul, Nat.reduceEqDiff, Nat.reduceLeDiff, Nat.reduceSub, List.getElem?_cons_zero, List.getElem?_cons_succ, List.getElem?_nil, Option.getD_some, Option.getD_none, if_true, if_false, reduceIte, Option.map_some, Option.map_none, Option.bind_some, Option.bind_none, Option.isSome_some, List.map_cons, List.map_nil, AV.cells, List.length_cons, List.length_nil, List.all_cons, List.all_nil, AV.one, Value.oneCell', ne_eq, reduceCtorEq, Int.reduceNeg, Int.reduceEq, Int.reduceNe, Int.reduceAdd, Int.reduceSub, Int.reduceMul, Int.reduceLT, Int.reduceLE, Int.reduceToNat, List.drop_zero, List.take_zero, List.drop_succ_cons, List.take_succ_cons, List.nil_append, List.cons_append, List.append_nil, List.replicate_zero, List.flatten_nil, List.flatten_cons, List.reduceReplicate, ge_iff_le, gt_iff_lt, eq_self, Nat.add_assoc, facts] <;> first | rfl | exact ⟨rfl, rfl⟩ | exact ⟨rfl, rfl, rfl⟩ | (simp; done))) (fun _ k hk => .app hc (by simp only [Ab.leB_cons, Ab.leB_nil, Ab.ok_raw, Ab.ok_own, Ab.ok_ptr, Ab.ok_sub, Ab.okAll_nil, Ab.okAll_cons, Ab.refOk_app, Ab.refOk_app0, Ab.okB_zero, Ab.okB_succ, Ab.rowI_ok, Ab.rowB_ok, Ab.rowS_ok, Ab.rowU_ok, Ab.rowI_len, Ab.rowB_len, Ab.rowS_len, Ab.rowU_len, List.mem_cons, List.not_mem_nil, or_false, forall_eq, forall_eq_or_imp, List.forall_mem_cons, List.length_replicate, and_true, true_and, and_self, Nat.le_refl, Nat.zero_le, implies_true, List.length_set, List.length_append, List.length_cons, List.length_nil, List.length_map, Bool.and_true, Bool.true_and, Bool.and_self, decide_true, decide_eq_true_eq, Nat.mul_one, Nat.mul_one] <;> omega) (by simp only [Ab.leB_cons, Ab.leB_nil, Ab.ok_raw, Ab.ok_own, Ab.ok_ptr, Ab.ok_sub, Ab.okAll_nil, Ab.okAll_cons, Ab.refOk_app, Ab.refOk_app0, Ab.okB_zero, Ab.okB_succ, Ab.rowI_ok, Ab.rowB_ok, Ab.rowS_ok, Ab.rowU_ok, Ab.rowI_len, Ab.rowB_len, Ab.rowS_len, Ab.rowU_len, List.mem_cons, List.not_mem_nil, or_false, forall_eq, forall_eq_or_imp, List.forall_mem_cons, List.length_replicate, and_true, true_and, and_self, Nat.le_refl, Nat.zero_le, implies_true, List.length_set, List.length_append, List.length_cons, List.length_nil, List.length_map, Bool.and_true, Bool.true_and, Bool.and_self, decide_true, decide_eq_true_eq, Nat.mul_one, Nat.mul_one] <;> omega) (by simp only [Ab.leB_cons, Ab.leB_nil, Ab.ok_raw, Ab.ok_own, Ab.ok_ptr, Ab.ok_sub, Ab.okAll_nil, Ab.okAll_cons, Ab.refOk_app, Ab.refOk_app0, Ab.okB_zero, Ab.okB_succ, Ab.rowI_ok, Ab.rowB_ok, Ab.rowS_ok, Ab.rowU_ok, Ab.rowI_len, Ab.rowB_len, Ab.rowS_len, Ab.rowU_len, List.mem_cons, List.not_mem_nil, or_false, forall_eq, forall_eq_or_imp, List.forall_mem_cons, List.length_replicate, and_true, true_and, and_self, Nat.le_refl, Nat.zero_le, implies_true, List.length_set, List.length_append, List.length_cons, List.length_nil, List.length_map, Bool.and_true, Bool.true_and, Bool.and_self, decide_true, decide_eq_true_eq, Nat.mul_one, Nat.mul_one] <;> omega)) ?_
  intro i hi _
  refine lw_run mixed ?_
  unfold L109b0 K109b0
  have hlen := htG_len b hi
  have hle := cK_le 102 b i
  have hcr := rowI_len (htG b i)
  have hlo := hgt_lo hi hb
  rcases Nat.lt_or_ge i b.size with hlt | hge
  · by_cases hf : ((byAt b i).toNat : Int) = 102
    · have e := htG_f (at_f hf)
      have e2 := hgt_f hlt (at_f hf)
      repeat' (first | simp -implicitDefEqProofs only [Ab.R1, Ab.R2, Ab.R3, Ab.R4, Ab.R5, Ab.RH, Ab.RM, Ab.binV, Ab.binC, Nat.reduceLT, Nat.reduceBEq, Nat.reduceAdd, Nat.reduceMul, Nat.reduceEqDiff, Nat.reduceLeDiff, Nat.reduceSub, List.getElem?_cons_zero, List.getElem?_cons_succ, List.getElem?_nil, Option.getD_some, Option.getD_none, if_true, if_false, reduceIte, Option.map_some, Option.map_none, Option.bind_some, Option.bind_none, Option.isSome_some, List.map_cons, List.map_nil, AV.cells, List.length_cons, List.length_nil, List.all_cons, List.all_nil, AV.one, Value.oneCell', ne_eq, reduceCtorEq, Int.reduceNeg, Int.reduceEq, Int.reduceNe, Int.reduceAdd, Int.reduceSub, Int.reduceMul, Int.reduceLT, Int.reduceLE, Int.reduceToNat, List.drop_zero, List.take_zero, List.drop_succ_cons, List.take_succ_cons, List.nil_append, List.cons_append, List.append_nil, List.replicate_zero, List.flatten_nil, List.flatten_cons, List.reduceReplicate, ge_iff_le, gt_iff_lt, eq_self, Nat.add_assoc, facts, *] | simp (disch := omega) only [Ab.wrap_i64] | ((with_reducible refine Ab.gd_ndec (fun _ => ?_) (fun _ => ?_)) <;> try (exfalso; omega)) | ((with_reducible refine Ab.br_ndec (fun _ => ?_) (fun _ => ?_)) <;> try (exfalso; omega)) | ((with_reducible refine Ab.gd_dec (fun _ => ?_) (fun _ => ?_)) <;> try (exfalso; omega)) | ((with_reducible refine Ab.br_dec (fun _ => ?_) (fun _ => ?_)) <;> try (exfalso; omega)) | (with_reducible refine Ab.run_alt ?_ ?_) | (refine And.intro (by omega) ?_) | (refine gd_split (fun _ => ?_) (fun _ => ?_)) | (refine br_split (fun _ => ?_) (fun _ => ?_)) | omega)
      refine ⟨i + 1, [⟨.row 3 1, [VI (hgt b i)]⟩], by omega, by omega, ?_, ?_, by omega⟩
      · rw [e, rowW_end]; try simp
      · rw [e]; simp [hlen]
    · have e := htG_d (not_f hf)
      have e2 := hgt_d hlt (not_f hf)
      repeat' (first | simp -implicitDefEqProofs only [Ab.R1, Ab.R2, Ab.R3, Ab.R4, Ab.R5, Ab.RH, Ab.RM, Ab.binV, Ab.binC, Nat.reduceLT, Nat.reduceBEq, Nat.reduceAdd, Nat.reduceMul, Nat.reduceEqDiff, Nat.reduceLeDiff, Nat.reduceSub, List.getElem?_cons_zero, List.getElem?_cons_succ, List.getElem?_nil, Option.getD_some, Option.getD_none, if_true, if_false, reduceIte, Option.map_some, Option.map_none, Option.bind_some, Option.bind_none, Option.isSome_some, List.map_cons, List.map_nil, AV.cells, List.length_cons, List.length_nil, List.all_cons, List.all_nil, AV.one, Value.oneCell', ne_eq, reduceCtorEq, Int.reduceNeg, Int.reduceEq, Int.reduceNe, Int.reduceAdd, Int.reduceSub, Int.reduceMul, Int.reduceLT, Int.reduceLE, Int.reduceToNat, List.drop_zero, List.take_zero, List.drop_succ_cons, List.take_succ_cons, List.nil_append, List.cons_append, List.append_nil, List.replicate_zero, List.flatten_nil, List.flatten_cons, List.reduceReplicate, ge_iff_le, gt_iff_lt, eq_self, Nat.add_assoc, facts, *] | simp (disch := omega) only [Ab.wrap_i64] | ((with_reducible refine Ab.gd_ndec (fun _ => ?_) (fun _ => ?_)) <;> try (exfalso; omega)) | ((with_reducible refine Ab.br_ndec (fun _ => ?_) (fun _ => ?_)) <;> try (exfalso; omega)) | ((with_reducible refine Ab.gd_dec (fun _ => ?_) (fun _ => ?_)) <;> try (exfalso; omega)) | ((with_reducible refine Ab.br_dec (fun _ => ?_) (fun _ => ?_)) <;> try (exfalso; omega)) | (with_reducible refine Ab.run_alt ?_ ?_) | (refine And.intro (by omega) ?_) | (refine gd_split (fun _ => ?_) (fun _ => ?_)) | (refine br_split (fun _ => ?_) (fun _ => ?_)) | omega)
      refine ⟨i + 1, [], by omega, by omega, ?_, ?_, by omega⟩
      · rw [e]; try simp
      · rw [e]; simp [hlen]
  · obtain rfl : i = b.size := by omega
    repeat' (first | simp -implicitDefEqProofs only [Ab.R1, Ab.R2, Ab.R3, Ab.R4, Ab.R5, Ab.RH, Ab.RM, Ab.binV, Ab.binC, Nat.reduceLT, Nat.reduceBEq, Nat.reduceAdd, Nat.reduceMul, Nat.reduceEqDiff, Nat.reduceLeDiff, Nat.reduceSub, List.getElem?_cons_zero, List.getElem?_cons_succ, List.getElem?_nil, Option.getD_some, Option.getD_none, if_true, if_false, reduceIte, Option.map_some, Option.map_none, Option.bind_some, Option.bind_none, Option.isSome_some, List.map_cons, List.map_nil, AV.cells, List.length_cons, List.length_nil, List.all_cons, List.all_nil, AV.one, Value.oneCell', ne_eq, reduceCtorEq, Int.reduceNeg, Int.reduceEq, Int.reduceNe, Int.reduceAdd, Int.reduceSub, Int.reduceMul, Int.reduceLT, Int.reduceLE, Int.reduceToNat, List.drop_zero, List.take_zero, List.drop_succ_cons, List.take_succ_cons, List.nil_append, List.cons_append, List.append_nil, List.replicate_zero, List.flatten_nil, List.flatten_cons, List.reduceReplicate, ge_iff_le, gt_iff_lt, eq_self, Nat.add_assoc, facts, *] | simp (disch := omega) only [Ab.wrap_i64] | ((with_reducible refine Ab.gd_ndec (fun _ => ?_) (fun _ => ?_)) <;> try (exfalso; omega)) | ((with_reducible refine Ab.br_ndec (fun _ => ?_) (fun _ => ?_)) <;> try (exfalso; omega)) | ((with_reducible refine Ab.gd_dec (fun _ => ?_) (fun _ => ?_)) <;> try (exfalso; omega)) | ((with_reducible refine Ab.br_dec (fun _ => ?_) (fun _ => ?_)) <;> try (exfalso; omega)) | (with_reducible refine Ab.run_alt ?_ ?_) | (refine And.intro (by omega) ?_) | (refine gd_split (fun _ => ?_) (fun _ => ?_)) | (refine br_split (fun _ => ?_) (fun _ => ?_)) | omega)
    all_goals exact ⟨by rw [htL, hlen], _, rfl, rfl⟩
theorem htG_bnd {b : ByteArray} (hS : Strip b) {k : Nat} (hk : k ≤ b.size) : ∀ x ∈ htG b k, (0 : Int) ≤ x ∧ x ≤ 8 := by
  have key : ∀ j, j ≤ b.size → (0 : Int) ≤ hgt b j ∧ hgt b j ≤ 8 := by
    intro j hj
    have h1 := hS.3
    have h2 := hS.1
    have h3 := cK_le 102 b j
    have h5 : (j - cK 102 b j) ≤ cA 100 b := by
      have key2 : ∀ m, m ≤ b.size → cK 100 b m + cK 102 b m = m := by
        intro m
        induction m with
        | zero => intro _; simp [cK_zero]
        | succ m ih =>
          intro hm
          have := ih (by omega)
          rcases hS.byte (show m < b.size by omega) with e | e
          · rw [cK_hit (by omega) e, cK_miss (by omega) (d_not_f e)]; omega
          · rw [cK_miss (by omega) (f_not_d e), cK_hit (by omega) e]; omega
      have := key2 j hj
      have h6 : cK 100 b j ≤ cA 100 b := by
        rw [← cK_all (c := 100) (Nat.le_refl b.size)]; exact cK_mono hj
      omega
    unfold hgt; omega
  induction k with
  | zero => simp [htG]
  | succ k ih =>
    intro x hx
    rw [htG] at hx
    split at hx
    · rw [List.mem_append] at hx
      rcases hx with hx | hx
      · exact ih (by omega) x hx
      · simp at hx; rw [hx]; exact key k (by omega)
    · exact ih (by omega) x hx
theorem htL_bnd {b : ByteArray} (hS : Strip b) : ∀ x ∈ htL b, (0 : Int) ≤ x ∧ x ≤ 8 := htG_bnd hS (Nat.le_refl _)
def areaL (a b : List Int) : Nat → Int
  | 0 => 0
  | k + 1 => areaL a b k + max (a.getD k 0 - b.getD k 0) (b.getD k 0 - a.getD k 0)
theorem areaL_succ {a b : List Int} {k : Nat} {x y : Int} (hx : a[k]? = some x) (hy : b[k]? = some y) : areaL a b (k + 1) = areaL a b k + max (x - y) (y - x) := by
  rw [areaL]; simp [List.getD, hx, hy]
theorem areaL_bnd {a b : List Int} (ha : ∀ x ∈ a, (0 : Int) ≤ x ∧ x ≤ 8) (hb : ∀ x ∈ b, (0 : Int) ≤ x ∧ x ≤ 8) : ∀ {k : Nat}, k ≤ a.length → k ≤ b.length → 0 ≤ areaL a b k ∧ areaL a b k ≤ 8 * k
  | 0, _, _ => by simp [areaL]
  | k + 1, h1, h2 => by
    have ih := areaL_bnd ha hb (k := k) (by omega) (by omega)
    obtain ⟨x, hx⟩ := some_at (show k < a.length by omega)
    obtain ⟨y, hy⟩ := some_at (show k < b.length by omega)
    have h3 := ha x (List.mem_of_getElem? hx)
    have h4 := hb y (List.mem_of_getElem? hy)
    rw [areaL_succ hx hy]; omega
def areaI (s t : ByteArray) : Int := if frameB s t = true then areaL (htL s) (htL t) (htL s).length else -1
theorem areaI_bnd (s t : ByteArray) : -1 ≤ areaI s t ∧ areaI s t ≤ 64 := by
  unfold areaI
  split
  · rename_i h
    have hf := frame_iff.1 h
    have h1 := htL_len s
    have h2 := htL_len t
    have := areaL_bnd (htL_bnd hf.1) (htL_bnd hf.2) (k := (htL s).length) (Nat.le_refl _) (by have := hf.4; omega)
    have := hf.1.5
    omega
  · omega
theorem specArea_ok (s t : ByteArray) (hs : s.size ≤ 1048576) (ht : t.size ≤ 1048576) (h : Heap) : AC Try.prog 22 [VS s, VS t] h fun r h' => r = VI (areaI s t) ∧ h' = h := by
  refine AC.plain ?_
  refine AC_go mixed ok22 (by simp) fun hc _ => ?_
  unfold L22
  cases hF : frameB s t with
  | false =>
    have hh : areaI s t = -1 := if_neg (by rw [hF]; decide)
    repeat' (first | simp -implicitDefEqProofs only [Ab.R1, Ab.R2, Ab.R3, Ab.R4, Ab.R5, Ab.RH, Ab.RM, Ab.binV, Ab.binC, Nat.reduceLT, Nat.reduceBEq, Nat.reduceAdd, Nat.reduceMul, Nat.reduceEqDiff, Nat.reduceLeDiff, Nat.reduceSub, List.getElem?_cons_zero, List.getElem?_cons_succ, List.getElem?_nil, Option.getD_some, Option.getD_none, if_true, if_false, reduceIte, Option.map_some, Option.map_none, Option.bind_some, Option.bind_none, Option.isSome_some, List.map_cons, List.map_nil, AV.cells, List.length_cons, List.length_nil, List.all_cons, List.all_nil, AV.one, Value.oneCell', ne_eq, reduceCtorEq, Int.reduceNeg, Int.reduceEq, Int.reduceNe, Int.reduceAdd, Int.reduceSub, Int.reduceMul, Int.reduceLT, Int.reduceLE, Int.reduceToNat, List.drop_zero, List.take_zero, List.drop_succ_cons, List.take_succ_cons, List.nil_append, List.cons_append, List.append_nil, List.replicate_zero, List.flatten_nil, List.flatten_cons, List.reduceReplicate, ge_iff_le, gt_iff_lt, eq_self, Nat.add_assoc, facts, *] | simp (disch := omega) only [Ab.wrap_i64] | ((with_reducible refine Ab.gd_ndec (fun _ => ?_) (fun _ => ?_)) <;> try (exfalso; omega)) | ((with_reducible refine Ab.br_ndec (fun _ => ?_) (fun _ => ?_)) <;> try (exfalso; omega)) | ((with_reducible refine Ab.gd_dec (fun _ => ?_) (fun _ => ?_)) <;> try (exfalso; omega)) | ((with_reducible refine Ab.br_dec (fun _ => ?_) (fun _ => ?_)) <;> try (exfalso; omega)) | (with_reducible refine Ab.run_alt ?_ ?_) | (refine And.intro (by omega) ?_) | (refine gd_split (fun _ => ?_) (fun _ => ?_)) | (refine br_split (fun _ => ?_) (fun _ => ?_)) | (refine cl_same (specFrame_ok _ _ hs ht _) ?_) | omega)
    all_goals exact ⟨_, (List.append_nil _).symm⟩
  | true =>
    have hh : areaI s t = areaL (htL s) (htL t) (htL s).length := if_pos hF
    have hf := frame_iff.1 hF
    have l1 := htL_len s
    have l2 := htL_len t
    have l3 := hf.4
    have l4 := hf.1.5
    have q1 := rowI_len (htL s)
    have q2 := rowI_len (htL t)
    have b1 := htL_bnd hf.1
    have b2 := htL_bnd hf.2
    rw [← l1, ← l2] at l3
    rw [← l1] at l4
    clear l1 l2
    repeat' (first | simp -implicitDefEqProofs only [Ab.R1, Ab.R2, Ab.R3, Ab.R4, Ab.R5, Ab.RH, Ab.RM, Ab.binV, Ab.binC, Nat.reduceLT, Nat.reduceBEq, Nat.reduceAdd, Nat.reduceMul, Nat.reduceEqDiff, Nat.reduceLeDiff, Nat.reduceSub, List.getElem?_cons_zero, List.getElem?_cons_succ, List.getElem?_nil, Option.getD_some, Option.getD_none, if_true, if_false, reduceIte, Option.map_some, Option.map_none, Option.bind_some, Option.bind_none, Option.isSome_some, List.map_cons, List.map_nil, AV.cells, List.length_cons, List.length_nil, List.all_cons, List.all_nil, AV.one, Value.oneCell', ne_eq, reduceCtorEq, Int.reduceNeg, Int.reduceEq, Int.reduceNe, Int.reduceAdd, Int.reduceSub, Int.reduceMul, Int.reduceLT, Int.reduceLE, Int.reduceToNat, List.drop_zero, List.take_zero, List.drop_succ_cons, List.take_succ_cons, List.nil_append, List.cons_append, List.append_nil, List.replicate_zero, List.flatten_nil, List.flatten_cons, List.reduceReplicate, ge_iff_le, gt_iff_lt, eq_self, Nat.add_assoc, facts, *] | simp (disch := omega) only [Ab.wrap_i64] | ((with_reducible refine Ab.gd_ndec (fun _ => ?_) (fun _ => ?_)) <;> try (exfalso; omega)) | ((with_reducible refine Ab.br_ndec (fun _ => ?_) (fun _ => ?_)) <;> try (exfalso; omega)) | ((with_reducible refine Ab.gd_dec (fun _ => ?_) (fun _ => ?_)) <;> try (exfalso; omega)) | ((with_reducible refine Ab.br_dec (fun _ => ?_) (fun _ => ?_)) <;> try (exfalso; omega)) | (with_reducible refine Ab.run_alt ?_ ?_) | (refine And.intro (by omega) ?_) | (refine gd_split (fun _ => ?_) (fun _ => ?_)) | (refine br_split (fun _ => ?_) (fun _ => ?_)) | (refine cl_same (specFrame_ok _ _ hs ht _) ?_) | (refine cl_more ( specHts_ok _ (by assumption) _) ?_) | omega)
    refine lw_loopS K22b0 (fun i : Nat => [(7, VI (areaL (htL s) (htL t) i)), (8, VI i)]) (fun _ => h ++ [rowW (htL s), rowW (htL t)]) (fun i => i ≤ (htL s).length) (fun i => (htL s).length - i) 0 (by omega) rfl (by (simp -implicitDefEqProofs only [Ab.R1, Ab.R2, Ab.R3, Ab.R4, Ab.R5, Ab.RH, Ab.RM, Ab.binV, Ab.binC, Nat.reduceLT, Nat.reduceBEq, Nat.reduceAdd, Nat.reduceMul, Nat.reduceEqDiff, Nat.reduceLeDiff, Nat.reduceSub, List.getElem?_cons_zero, List.getElem?_cons_succ, List.getElem?_nil, Option.getD_some, Option.getD_none, if_true, if_false, reduceIte, Option.map_some, Option.map_none, Option.bind_some, Option.bind_none, Option.isSome_some, List.map_cons, List.map_nil, AV.cells, List.length_cons, List.length_nil, List.all_cons, List.all_nil, AV.one, Value.oneCell', ne_eq, reduceCtorEq, Int.reduceNeg, Int.reduceEq, Int.reduceNe, Int.reduceAdd, Int.reduceSub, Int.reduceMul, Int.reduceLT, Int.reduceLE, Int.reduceToNat, List.drop_zero, List.take_zero, List.drop_succ_cons, List.take_succ_cons, List.nil_append, List.cons_append, List.append_nil, List.replicate_zero, List.flatten_nil, List.flatten_cons, List.reduceReplicate, ge_iff_le, gt_iff_lt, eq_self, Nat.add_assoc, facts, areaL] <;> first | rfl | exact ⟨rfl, rfl⟩ | exact ⟨rfl, rfl, rfl⟩ | (simp; done))) (fun hc' _ _ => .same hc' (by simp [AV.ok])) ?_
    intro i hi _
    refine lw_run mixed ?_
    unfold L22b0 K22b0
    have ha := areaL_bnd b1 b2 (k := i) (by omega) (by omega)
    rcases Nat.lt_or_ge i (htL s).length with hlt | hge
    · obtain ⟨x, hx⟩ := some_at hlt
      obtain ⟨y, hy⟩ := some_at (show i < (htL t).length by omega)
      have h3 := b1 x (List.mem_of_getElem? hx)
      have h4 := b2 y (List.mem_of_getElem? hy)
      have hsu := areaL_succ hx hy
      clear b1 b2
      repeat' (first | simp -implicitDefEqProofs only [Ab.R1, Ab.R2, Ab.R3, Ab.R4, Ab.R5, Ab.RH, Ab.RM, Ab.binV, Ab.binC, Nat.reduceLT, Nat.reduceBEq, Nat.reduceAdd, Nat.reduceMul, Nat.reduceEqDiff, Nat.reduceLeDiff, Nat.reduceSub, List.getElem?_cons_zero, List.getElem?_cons_succ, List.getElem?_nil, Option.getD_some, Option.getD_none, if_true, if_false, reduceIte, Option.map_some, Option.map_none, Option.bind_some, Option.bind_none, Option.isSome_some, List.map_cons, List.map_nil, AV.cells, List.length_cons, List.length_nil, List.all_cons, List.all_nil, AV.one, Value.oneCell', ne_eq, reduceCtorEq, Int.reduceNeg, Int.reduceEq, Int.reduceNe, Int.reduceAdd, Int.reduceSub, Int.reduceMul, Int.reduceLT, Int.reduceLE, Int.reduceToNat, List.drop_zero, List.take_zero, List.drop_succ_cons, List.take_succ_cons, List.nil_append, List.cons_append, List.append_nil, List.replicate_zero, List.flatten_nil, List.flatten_cons, List.reduceReplicate, ge_iff_le, gt_iff_lt, eq_self, Nat.add_assoc, facts, *, rowI_at] | simp (disch := omega) only [Ab.wrap_i64] | ((with_reducible refine Ab.gd_ndec (fun _ => ?_) (fun _ => ?_)) <;> try (exfalso; omega)) | ((with_reducible refine Ab.br_ndec (fun _ => ?_) (fun _ => ?_)) <;> try (exfalso; omega)) | ((with_reducible refine Ab.gd_dec (fun _ => ?_) (fun _ => ?_)) <;> try (exfalso; omega)) | ((with_reducible refine Ab.br_dec (fun _ => ?_) (fun _ => ?_)) <;> try (exfalso; omega)) | (with_reducible refine Ab.run_alt ?_ ?_) | (refine And.intro (by omega) ?_) | (refine gd_split (fun _ => ?_) (fun _ => ?_)) | (refine br_split (fun _ => ?_) (fun _ => ?_)) | omega)
      exact ⟨i + 1, [], by omega, by omega, by simp, by omega⟩
    · obtain rfl : i = (htL s).length := by omega
      clear b1 b2
      repeat' (first | simp -implicitDefEqProofs only [Ab.R1, Ab.R2, Ab.R3, Ab.R4, Ab.R5, Ab.RH, Ab.RM, Ab.binV, Ab.binC, Nat.reduceLT, Nat.reduceBEq, Nat.reduceAdd, Nat.reduceMul, Nat.reduceEqDiff, Nat.reduceLeDiff, Nat.reduceSub, List.getElem?_cons_zero, List.getElem?_cons_succ, List.getElem?_nil, Option.getD_some, Option.getD_none, if_true, if_false, reduceIte, Option.map_some, Option.map_none, Option.bind_some, Option.bind_none, Option.isSome_some, List.map_cons, List.map_nil, AV.cells, List.length_cons, List.length_nil, List.all_cons, List.all_nil, AV.one, Value.oneCell', ne_eq, reduceCtorEq, Int.reduceNeg, Int.reduceEq, Int.reduceNe, Int.reduceAdd, Int.reduceSub, Int.reduceMul, Int.reduceLT, Int.reduceLE, Int.reduceToNat, List.drop_zero, List.take_zero, List.drop_succ_cons, List.take_succ_cons, List.nil_append, List.cons_append, List.append_nil, List.replicate_zero, List.flatten_nil, List.flatten_cons, List.reduceReplicate, ge_iff_le, gt_iff_lt, eq_self, Nat.add_assoc, facts, *] | simp (disch := omega) only [Ab.wrap_i64] | ((with_reducible refine Ab.gd_ndec (fun _ => ?_) (fun _ => ?_)) <;> try (exfalso; omega)) | ((with_reducible refine Ab.br_ndec (fun _ => ?_) (fun _ => ?_)) <;> try (exfalso; omega)) | ((with_reducible refine Ab.gd_dec (fun _ => ?_) (fun _ => ?_)) <;> try (exfalso; omega)) | ((with_reducible refine Ab.br_dec (fun _ => ?_) (fun _ => ?_)) <;> try (exfalso; omega)) | (with_reducible refine Ab.run_alt ?_ ?_) | (refine And.intro (by omega) ?_) | (refine gd_split (fun _ => ?_) (fun _ => ?_)) | (refine br_split (fun _ => ?_) (fun _ => ?_)) | omega)
      all_goals exact ⟨_, rfl⟩
theorem implArea_ok (s t : ByteArray) (hs : s.size ≤ 1048576) (ht : t.size ≤ 1048576) (h : Heap) : AC Try.prog 75 [VS s, VS t] h fun r h' => r = VI (areaI s t) ∧ h' = h := by
  refine AC.plain ?_
  refine AC_go mixed ok75 (by simp) fun hc _ => ?_
  unfold L75
  cases hF : frameB s t with
  | false =>
    have hh : areaI s t = -1 := if_neg (by rw [hF]; decide)
    repeat' (first | simp -implicitDefEqProofs only [Ab.R1, Ab.R2, Ab.R3, Ab.R4, Ab.R5, Ab.RH, Ab.RM, Ab.binV, Ab.binC, Nat.reduceLT, Nat.reduceBEq, Nat.reduceAdd, Nat.reduceMul, Nat.reduceEqDiff, Nat.reduceLeDiff, Nat.reduceSub, List.getElem?_cons_zero, List.getElem?_cons_succ, List.getElem?_nil, Option.getD_some, Option.getD_none, if_true, if_false, reduceIte, Option.map_some, Option.map_none, Option.bind_some, Option.bind_none, Option.isSome_some, List.map_cons, List.map_nil, AV.cells, List.length_cons, List.length_nil, List.all_cons, List.all_nil, AV.one, Value.oneCell', ne_eq, reduceCtorEq, Int.reduceNeg, Int.reduceEq, Int.reduceNe, Int.reduceAdd, Int.reduceSub, Int.reduceMul, Int.reduceLT, Int.reduceLE, Int.reduceToNat, List.drop_zero, List.take_zero, List.drop_succ_cons, List.take_succ_cons, List.nil_append, List.cons_append, List.append_nil, List.replicate_zero, List.flatten_nil, List.flatten_cons, List.reduceReplicate, ge_iff_le, gt_iff_lt, eq_self, Nat.add_assoc, facts, *] | simp (disch := omega) only [Ab.wrap_i64] | ((with_reducible refine Ab.gd_ndec (fun _ => ?_) (fun _ => ?_)) <;> try (exfalso; omega)) | ((with_reducible refine Ab.br_ndec (fun _ => ?_) (fun _ => ?_)) <;> try (exfalso; omega)) | ((with_reducible refine Ab.gd_dec (fun _ => ?_) (fun _ => ?_)) <;> try (exfalso; omega)) | ((with_reducible refine Ab.br_dec (fun _ => ?_) (fun _ => ?_)) <;> try (exfalso; omega)) | (with_reducible refine Ab.run_alt ?_ ?_) | (refine And.intro (by omega) ?_) | (refine gd_split (fun _ => ?_) (fun _ => ?_)) | (refine br_split (fun _ => ?_) (fun _ => ?_)) | (refine cl_same (implFrame_ok _ _ hs ht _) ?_) | omega)
    all_goals exact ⟨_, (List.append_nil _).symm⟩
  | true =>
    have hh : areaI s t = areaL (htL s) (htL t) (htL s).length := if_pos hF
    have hf := frame_iff.1 hF
    have sS := strip_iff.2 hf.1
    have sT := strip_iff.2 hf.2
    have l1 := htL_len s
    have l2 := htL_len t
    have l3 := hf.4
    have l4 := hf.1.5
    have q1 := rowI_len (htL s)
    have q2 := rowI_len (htL t)
    have b1 := htL_bnd hf.1
    have b2 := htL_bnd hf.2
    rw [← l1, ← l2] at l3
    rw [← l1] at l4
    clear l1 l2
    repeat' (first | simp -implicitDefEqProofs only [Ab.R1, Ab.R2, Ab.R3, Ab.R4, Ab.R5, Ab.RH, Ab.RM, Ab.binV, Ab.binC, Nat.reduceLT, Nat.reduceBEq, Nat.reduceAdd, Nat.reduceMul, Nat.reduceEqDiff, Nat.reduceLeDiff, Nat.reduceSub, List.getElem?_cons_zero, List.getElem?_cons_succ, List.getElem?_nil, Option.getD_some, Option.getD_none, if_true, if_false, reduceIte, Option.map_some, Option.map_none, Option.bind_some, Option.bind_none, Option.isSome_some, List.map_cons, List.map_nil, AV.cells, List.length_cons, List.length_nil, List.all_cons, List.all_nil, AV.one, Value.oneCell', ne_eq, reduceCtorEq, Int.reduceNeg, Int.reduceEq, Int.reduceNe, Int.reduceAdd, Int.reduceSub, Int.reduceMul, Int.reduceLT, Int.reduceLE, Int.reduceToNat, List.drop_zero, List.take_zero, List.drop_succ_cons, List.take_succ_cons, List.nil_append, List.cons_append, List.append_nil, List.replicate_zero, List.flatten_nil, List.flatten_cons, List.reduceReplicate, ge_iff_le, gt_iff_lt, eq_self, Nat.add_assoc, facts, *] | simp (disch := omega) only [Ab.wrap_i64] | ((with_reducible refine Ab.gd_ndec (fun _ => ?_) (fun _ => ?_)) <;> try (exfalso; omega)) | ((with_reducible refine Ab.br_ndec (fun _ => ?_) (fun _ => ?_)) <;> try (exfalso; omega)) | ((with_reducible refine Ab.gd_dec (fun _ => ?_) (fun _ => ?_)) <;> try (exfalso; omega)) | ((with_reducible refine Ab.br_dec (fun _ => ?_) (fun _ => ?_)) <;> try (exfalso; omega)) | (with_reducible refine Ab.run_alt ?_ ?_) | (refine And.intro (by omega) ?_) | (refine gd_split (fun _ => ?_) (fun _ => ?_)) | (refine br_split (fun _ => ?_) (fun _ => ?_)) | (refine cl_same (implFrame_ok _ _ hs ht _) ?_) | (refine cl_more ( implHts_ok _ (by assumption) (by assumption) _) ?_) | omega)
    refine lw_loopS K75b0 (fun i : Nat => [(5, VI (areaL (htL s) (htL t) i)), (18, VI i)]) (fun _ => h ++ [rowW (htL t), rowW (htL s)]) (fun i => i ≤ (htL s).length) (fun i => (htL s).length - i) 0 (by omega) rfl (by (simp -implicitDefEqProofs only [Ab.R1, Ab.R2, Ab.R3, Ab.R4, Ab.R5, Ab.RH, Ab.RM, Ab.binV, Ab.binC, Nat.reduceLT, Nat.reduceBEq, Nat.reduceAdd, Nat.reduceMul, Nat.reduceEqDiff, Nat.reduceLeDiff, Nat.reduceSub, List.getElem?_cons_zero, List.getElem?_cons_succ, List.getElem?_nil, Option.getD_some, Option.getD_none, if_true, if_false, reduceIte, Option.map_some, Option.map_none, Option.bind_some, Option.bind_none, Option.isSome_some, List.map_cons, List.map_nil, AV.cells, List.length_cons, List.length_nil, List.all_cons, List.all_nil, AV.one, Value.oneCell', ne_eq, reduceCtorEq, Int.reduceNeg, Int.reduceEq, Int.reduceNe, Int.reduceAdd, Int.reduceSub, Int.reduceMul, Int.reduceLT, Int.reduceLE, Int.reduceToNat, List.drop_zero, List.take_zero, List.drop_succ_cons, List.take_succ_cons, List.nil_append, List.cons_append, List.append_nil, List.replicate_zero, List.flatten_nil, List.flatten_cons, List.reduceReplicate, ge_iff_le, gt_iff_lt, eq_self, Nat.add_assoc, facts, areaL] <;> first | rfl | exact ⟨rfl, rfl⟩ | exact ⟨rfl, rfl, rfl⟩ | (simp; done))) (fun hc' _ _ => .same hc' (by simp [AV.ok])) ?_
    intro i hi _
    refine lw_run mixed ?_
    unfold L75b0 K75b0
    have ha := areaL_bnd b1 b2 (k := i) (by omega) (by omega)
    rcases Nat.lt_or_ge i (htL s).length with hlt | hge
    · obtain ⟨x, hx⟩ := some_at hlt
      obtain ⟨y, hy⟩ := some_at (show i < (htL t).length by omega)
      have h3 := b1 x (List.mem_of_getElem? hx)
      have h4 := b2 y (List.mem_of_getElem? hy)
      have hsu := areaL_succ hx hy
      clear b1 b2
      repeat' (first | simp -implicitDefEqProofs only [Ab.R1, Ab.R2, Ab.R3, Ab.R4, Ab.R5, Ab.RH, Ab.RM, Ab.binV, Ab.binC, Nat.reduceLT, Nat.reduceBEq, Nat.reduceAdd, Nat.reduceMul, Nat.reduceEqDiff, Nat.reduceLeDiff, Nat.reduceSub, List.getElem?_cons_zero, List.getElem?_cons_succ, List.getElem?_nil, Option.getD_some, Option.getD_none, if_true, if_false, reduceIte, Option.map_some, Option.map_none, Option.bind_some, Option.bind_none, Option.isSome_some, List.map_cons, List.map_nil, AV.cells, List.length_cons, List.length_nil, List.all_cons, List.all_nil, AV.one, Value.oneCell', ne_eq, reduceCtorEq, Int.reduceNeg, Int.reduceEq, Int.reduceNe, Int.reduceAdd, Int.reduceSub, Int.reduceMul, Int.reduceLT, Int.reduceLE, Int.reduceToNat, List.drop_zero, List.take_zero, List.drop_succ_cons, List.take_succ_cons, List.nil_append, List.cons_append, List.append_nil, List.replicate_zero, List.flatten_nil, List.flatten_cons, List.reduceReplicate, ge_iff_le, gt_iff_lt, eq_self, Nat.add_assoc, facts, *, rowI_at] | simp (disch := omega) only [Ab.wrap_i64] | ((with_reducible refine Ab.gd_ndec (fun _ => ?_) (fun _ => ?_)) <;> try (exfalso; omega)) | ((with_reducible refine Ab.br_ndec (fun _ => ?_) (fun _ => ?_)) <;> try (exfalso; omega)) | ((with_reducible refine Ab.gd_dec (fun _ => ?_) (fun _ => ?_)) <;> try (exfalso; omega)) | ((with_reducible refine Ab.br_dec (fun _ => ?_) (fun _ => ?_)) <;> try (exfalso; omega)) | (with_reducible refine Ab.run_alt ?_ ?_) | (refine And.intro (by omega) ?_) | (refine gd_split (fun _ => ?_) (fun _ => ?_)) | (refine br_split (fun _ => ?_) (fun _ => ?_)) | omega)
      exact ⟨i + 1, [], by omega, by omega, by simp, by omega⟩
    · obtain rfl : i = (htL s).length := by omega
      clear b1 b2
      repeat' (first | simp -implicitDefEqProofs only [Ab.R1, Ab.R2, Ab.R3, Ab.R4, Ab.R5, Ab.RH, Ab.RM, Ab.binV, Ab.binC, Nat.reduceLT, Nat.reduceBEq, Nat.reduceAdd, Nat.reduceMul, Nat.reduceEqDiff, Nat.reduceLeDiff, Nat.reduceSub, List.getElem?_cons_zero, List.getElem?_cons_succ, List.getElem?_nil, Option.getD_some, Option.getD_none, if_true, if_false, reduceIte, Option.map_some, Option.map_none, Option.bind_some, Option.bind_none, Option.isSome_some, List.map_cons, List.map_nil, AV.cells, List.length_cons, List.length_nil, List.all_cons, List.all_nil, AV.one, Value.oneCell', ne_eq, reduceCtorEq, Int.reduceNeg, Int.reduceEq, Int.reduceNe, Int.reduceAdd, Int.reduceSub, Int.reduceMul, Int.reduceLT, Int.reduceLE, Int.reduceToNat, List.drop_zero, List.take_zero, List.drop_succ_cons, List.take_succ_cons, List.nil_append, List.cons_append, List.append_nil, List.replicate_zero, List.flatten_nil, List.flatten_cons, List.reduceReplicate, ge_iff_le, gt_iff_lt, eq_self, Nat.add_assoc, facts, *] | simp (disch := omega) only [Ab.wrap_i64] | ((with_reducible refine Ab.gd_ndec (fun _ => ?_) (fun _ => ?_)) <;> try (exfalso; omega)) | ((with_reducible refine Ab.br_ndec (fun _ => ?_) (fun _ => ?_)) <;> try (exfalso; omega)) | ((with_reducible refine Ab.gd_dec (fun _ => ?_) (fun _ => ?_)) <;> try (exfalso; omega)) | ((with_reducible refine Ab.br_dec (fun _ => ?_) (fun _ => ?_)) <;> try (exfalso; omega)) | (with_reducible refine Ab.run_alt ?_ ?_) | (refine And.intro (by omega) ?_) | (refine gd_split (fun _ => ?_) (fun _ => ?_)) | (refine br_split (fun _ => ?_) (fun _ => ?_)) | omega)
      all_goals exact ⟨_, rfl⟩
end Go.Proofs.Ytppjagbdpmopdaa
