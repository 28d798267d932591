/- HangCard and WaitHours. -/
import Derived.Test.YteoihmajnpleoaaAb32
import Derived.Test.YteoihmajnpleoaaRack
import Derived.Test.YteoihmajnpleoaaClone
namespace Go.Proofs.Yteoihmajnpleoaa
set_option maxRecDepth 20000
set_option linter.unusedSimpArgs false
set_option linter.unusedVariables false
open Go Go.Ab

abbrev rkR (p : Int) (n : Nat) : Nat → AV := fun i => rkV p i n

theorem l36Copy_ok (p : Int) (xs : List Int) (id : Nat) (hn : xs.length ≤ 1048576) (h : Heap) (hr : rd h id xs.length = some (rowI xs)) :
    AC Try.prog 36 [rkV p id xs.length] h fun r h' => r = rkV p h.length xs.length ∧ h' = h ++ [rowW xs] := by
  refine AC.row1 2 (fun i => rkV p i xs.length) (rowW xs) (fun _ _ => rfl) (by simp [AV.ok, okAll, refOk, csz, rowI_len]) (fun h => rowI_ok h _) (fun ρ => ren_rowI ρ xs) ?_
  refine AC_go mixed ok36 (by simp) fun hc _ => ?_
  unfold L36
  have hrd : ∀ l, rd (h ++ l) id xs.length = some (rowI xs) := fun l => rd_old hr l
  have hsd : ∀ l, sz (h ++ l) id = some xs.length := fun l => sz_old hr l
  repeat' (first | simp -implicitDefEqProofs only [Ab.R1, Ab.R2, Ab.R3, Ab.R4, Ab.R5, Ab.RH, Ab.RM, Ab.binV, Ab.binC, Nat.reduceLT, Nat.reduceBEq, Nat.reduceAdd, Nat.reduceMul, Nat.reduceEqDiff, Nat.reduceLeDiff, Nat.reduceSub, List.getElem?_cons_zero, List.getElem?_cons_succ, List.getElem?_nil, Option.getD_some, Option.getD_none, if_true, if_false, reduceIte, Option.map_some, Option.map_none, Option.bind_some, Option.bind_none, Option.isSome_some, List.map_cons, List.map_nil, AV.cells, List.length_cons, List.length_nil, List.all_cons, List.all_nil, AV.one, Value.oneCell', ne_eq, reduceCtorEq, Int.reduceNeg, Int.reduceEq, Int.reduceNe, Int.reduceAdd, Int.reduceSub, Int.reduceMul, Int.reduceLT, Int.reduceLE, Int.reduceToNat, List.drop_zero, List.take_zero, List.drop_succ_cons, List.take_succ_cons, List.nil_append, List.cons_append, List.append_nil, List.replicate_zero, List.flatten_nil, List.flatten_cons, List.reduceReplicate, ge_iff_le, gt_iff_lt, eq_self, Nat.add_assoc, facts, *] | simp (disch := omega) only [Ab.wrap_i64] | ((with_reducible refine Ab.gd_ndec (fun _ => ?_) (fun _ => ?_)) <;> try (exfalso; omega)) | ((with_reducible refine Ab.br_ndec (fun _ => ?_) (fun _ => ?_)) <;> try (exfalso; omega)) | ((with_reducible refine Ab.gd_dec (fun _ => ?_) (fun _ => ?_)) <;> try (exfalso; omega)) | ((with_reducible refine Ab.br_dec (fun _ => ?_) (fun _ => ?_)) <;> try (exfalso; omega)) | (refine And.intro (by omega) ?_) | (refine gd_split (fun _ => ?_) (fun _ => ?_)) | (refine br_split (fun _ => ?_) (fun _ => ?_)) | omega)
  exact ⟨_, rfl, rfl⟩

theorem copied_ok (p : Int) (xs : List Int) (id : Nat) (hn : xs.length ≤ 1048576) (h : Heap) (hr : rd h id xs.length = some (rowI xs)) :
    AC Try.prog 37 [rkV p id xs.length] h fun r h' => r = rkV p h.length xs.length ∧ h' = h ++ [rowW xs] := by
  refine AC.row1 2 (fun i => rkV p i xs.length) (rowW xs) (fun _ _ => rfl) (by simp [AV.ok, okAll, refOk, csz, rowI_len]) (fun h => rowI_ok h _) (fun ρ => ren_rowI ρ xs) ?_
  refine AC_go mixed ok37 (by simp) fun hc _ => ?_
  unfold L37
  have hrd : ∀ l, rd (h ++ l) id xs.length = some (rowI xs) := fun l => rd_old hr l
  have hsd : ∀ l, sz (h ++ l) id = some xs.length := fun l => sz_old hr l
  repeat' (first | simp -implicitDefEqProofs only [Ab.R1, Ab.R2, Ab.R3, Ab.R4, Ab.R5, Ab.RH, Ab.RM, Ab.binV, Ab.binC, Nat.reduceLT, Nat.reduceBEq, Nat.reduceAdd, Nat.reduceMul, Nat.reduceEqDiff, Nat.reduceLeDiff, Nat.reduceSub, List.getElem?_cons_zero, List.getElem?_cons_succ, List.getElem?_nil, Option.getD_some, Option.getD_none, if_true, if_false, reduceIte, Option.map_some, Option.map_none, Option.bind_some, Option.bind_none, Option.isSome_some, List.map_cons, List.map_nil, AV.cells, List.length_cons, List.length_nil, List.all_cons, List.all_nil, AV.one, Value.oneCell', ne_eq, reduceCtorEq, Int.reduceNeg, Int.reduceEq, Int.reduceNe, Int.reduceAdd, Int.reduceSub, Int.reduceMul, Int.reduceLT, Int.reduceLE, Int.reduceToNat, List.drop_zero, List.take_zero, List.drop_succ_cons, List.take_succ_cons, List.nil_append, List.cons_append, List.append_nil, List.replicate_zero, List.flatten_nil, List.flatten_cons, List.reduceReplicate, ge_iff_le, gt_iff_lt, eq_self, Nat.add_assoc, facts, *] | simp (disch := omega) only [Ab.wrap_i64] | ((with_reducible refine Ab.gd_ndec (fun _ => ?_) (fun _ => ?_)) <;> try (exfalso; omega)) | ((with_reducible refine Ab.br_ndec (fun _ => ?_) (fun _ => ?_)) <;> try (exfalso; omega)) | ((with_reducible refine Ab.gd_dec (fun _ => ?_) (fun _ => ?_)) <;> try (exfalso; omega)) | ((with_reducible refine Ab.br_dec (fun _ => ?_) (fun _ => ?_)) <;> try (exfalso; omega)) | (refine And.intro (by omega) ?_) | (refine gd_split (fun _ => ?_) (fun _ => ?_)) | (refine br_split (fun _ => ?_) (fun _ => ?_)) | (refine cl_more ( clone_ok id _ _ hn _ (hrd _)) ?_) | omega)
  exact ⟨_, rfl, rfl⟩

def hangB (p : Int) (xs : List Int) (n : Int) : Bool := rackOk p xs && rackOk p (xs ++ [n])
def hangX (p : Int) (xs : List Int) (n : Int) : List Int := if hangB p xs n = true then xs ++ [n] else xs
theorem len_snoc (xs : List Int) (n : Int) : (xs ++ [n]).length = xs.length + 1 := by simp
theorem rowI_end (xs : List Int) (n : Int) : rowI (xs ++ [n]) = rowI xs ++ [VI n] := (rowI_snoc xs n).symm
theorem rowI_endlen (xs : List Int) (n : Int) : (rowI xs ++ [VI n]).length = xs.length + 1 := by simp [rowI_len]
theorem hangX_ok {p : Int} {xs : List Int} {n : Int} (h : hangB p xs n = true) : hangX p xs n = xs ++ [n] := if_pos h
theorem hangX_not {p : Int} {xs : List Int} {n : Int} (h : ¬ hangB p xs n = true) : hangX p xs n = xs := if_neg h

theorem specHang_ok (p : Int) (xs : List Int) (n : Int) (id : Nat) (hn : xs.length ≤ 1048576) (h : Heap) (hr : rd h id xs.length = some (rowI xs)) :
    AC Try.prog 14 [rkV p id xs.length, VI n] h fun r h' => r = .tup [rkV p h.length (hangX p xs n).length, VB (hangB p xs n)] ∧ h' = h ++ [rowW (hangX p xs n)] := by
  have hrd : ∀ l, rd (h ++ l) id xs.length = some (rowI xs) := fun l => rd_old hr l
  have hsd : ∀ l, sz (h ++ l) id = some xs.length := fun l => sz_old hr l
  have hout := specRackOk_ok p (xs ++ [n])
  rw [len_snoc, rowI_end] at hout
  have hrl := rowI_len xs
  have hre := rowI_endlen xs n
  by_cases hv : hangB p xs n = true
  · rw [hangX_ok hv, hv, len_snoc]
    have h1 : rackOk p xs = true := by simp [hangB] at hv; exact hv.1
    have h2 : rackOk p (xs ++ [n]) = true := by simp [hangB] at hv; exact hv.2
    refine AC.row1 2 (fun i => .tup [rkV p i (xs.length + 1), VB true]) (rowW (xs ++ [n])) (fun _ _ => rfl) (by simp [AV.ok, okAll, refOk, csz, rowI_len]) (fun h => rowI_ok h _) (fun ρ => ren_rowI ρ _) ?_
    refine AC_go mixed ok14 (by simp) fun hc _ => ?_
    unfold L14
    clear hv
    repeat' (first | simp -implicitDefEqProofs only [Ab.R1, Ab.R2, Ab.R3, Ab.R4, Ab.R5, Ab.RH, Ab.RM, Ab.binV, Ab.binC, Nat.reduceLT, Nat.reduceBEq, Nat.reduceAdd, Nat.reduceMul, Nat.reduceEqDiff, Nat.reduceLeDiff, Nat.reduceSub, List.getElem?_cons_zero, List.getElem?_cons_succ, List.getElem?_nil, Option.getD_some, Option.getD_none, if_true, if_false, reduceIte, Option.map_some, Option.map_none, Option.bind_some, Option.bind_none, Option.isSome_some, List.map_cons, List.map_nil, AV.cells, List.length_cons, List.length_nil, List.all_cons, List.all_nil, AV.one, Value.oneCell', ne_eq, reduceCtorEq, Int.reduceNeg, Int.reduceEq, Int.reduceNe, Int.reduceAdd, Int.reduceSub, Int.reduceMul, Int.reduceLT, Int.reduceLE, Int.reduceToNat, List.drop_zero, List.take_zero, List.drop_succ_cons, List.take_succ_cons, List.nil_append, List.cons_append, List.append_nil, List.replicate_zero, List.flatten_nil, List.flatten_cons, List.reduceReplicate, ge_iff_le, gt_iff_lt, eq_self, Nat.add_assoc, facts, *] | simp (disch := omega) only [Ab.wrap_i64] | ((with_reducible refine Ab.gd_ndec (fun _ => ?_) (fun _ => ?_)) <;> try (exfalso; omega)) | ((with_reducible refine Ab.br_ndec (fun _ => ?_) (fun _ => ?_)) <;> try (exfalso; omega)) | ((with_reducible refine Ab.gd_dec (fun _ => ?_) (fun _ => ?_)) <;> try (exfalso; omega)) | ((with_reducible refine Ab.br_dec (fun _ => ?_) (fun _ => ?_)) <;> try (exfalso; omega)) | (refine And.intro (by omega) ?_) | (refine gd_split (fun _ => ?_) (fun _ => ?_)) | (refine br_split (fun _ => ?_) (fun _ => ?_)) | (refine cl_more ( l36Copy_ok p xs id hn _ (hrd _)) ?_) | (refine cl_same (specRackOk_ok p xs id (by omega) _ (hrd _)) ?_) | (refine cl_same (hout _ (by omega) _ (by simp -implicitDefEqProofs only [Ab.app_assoc, Ab.len_app, Ab.sz_newk, Ab.sz_new0, Ab.rd_newk, Ab.rd_new0, Ab.wr_newk, Ab.wr_new0, Ab.set_newk, Ab.set_new0, Ab.sz_cons, Ab.sz_row0, Ab.sz_ro0, Ab.rd_cons, Ab.rd_row, Ab.rd_ro0, Ab.wr_cons, Ab.wr_row, Ab.set_cons_zero, Ab.set_cons_succ, Ab.rowI_len, Ab.rowB_len, Ab.rowS_len, Ab.rowU_len, Nat.add_assoc, List.cons_append, List.nil_append, List.append_nil, List.length_cons, List.length_nil, Nat.reduceAdd, Nat.reduceSub, Nat.reduceEqDiff, Nat.zero_add, Nat.add_zero, Nat.mul_one, Nat.one_mul, if_true, if_false, reduceIte, reduceCtorEq, eq_self, hre])) ?_) | omega)
    exact ⟨_, rfl, by rw [rowW, rowI_end]; rfl⟩
  · rw [hangX_not hv]
    have hf : hangB p xs n = false := by simpa using hv
    rw [hf]
    refine AC.row1 5 (fun i => .tup [rkV p i (xs.length), VB false]) (rowW xs) (fun _ _ => rfl) (by simp [AV.ok, okAll, refOk, csz, rowI_len]) (fun h => rowI_ok h _) (fun ρ => ren_rowI ρ _) ?_
    refine AC_go mixed ok14 (by simp) fun hc _ => ?_
    unfold L14
    clear hv
    repeat' (first | simp -implicitDefEqProofs only [Ab.R1, Ab.R2, Ab.R3, Ab.R4, Ab.R5, Ab.RH, Ab.RM, Ab.binV, Ab.binC, Nat.reduceLT, Nat.reduceBEq, Nat.reduceAdd, Nat.reduceMul, Nat.reduceEqDiff, Nat.reduceLeDiff, Nat.reduceSub, List.getElem?_cons_zero, List.getElem?_cons_succ, List.getElem?_nil, Option.getD_some, Option.getD_none, if_true, if_false, reduceIte, Option.map_some, Option.map_none, Option.bind_some, Option.bind_none, Option.isSome_some, List.map_cons, List.map_nil, AV.cells, List.length_cons, List.length_nil, List.all_cons, List.all_nil, AV.one, Value.oneCell', ne_eq, reduceCtorEq, Int.reduceNeg, Int.reduceEq, Int.reduceNe, Int.reduceAdd, Int.reduceSub, Int.reduceMul, Int.reduceLT, Int.reduceLE, Int.reduceToNat, List.drop_zero, List.take_zero, List.drop_succ_cons, List.take_succ_cons, List.nil_append, List.cons_append, List.append_nil, List.replicate_zero, List.flatten_nil, List.flatten_cons, List.reduceReplicate, ge_iff_le, gt_iff_lt, eq_self, Nat.add_assoc, facts, *] | simp (disch := omega) only [Ab.wrap_i64] | ((with_reducible refine Ab.gd_ndec (fun _ => ?_) (fun _ => ?_)) <;> try (exfalso; omega)) | ((with_reducible refine Ab.br_ndec (fun _ => ?_) (fun _ => ?_)) <;> try (exfalso; omega)) | ((with_reducible refine Ab.gd_dec (fun _ => ?_) (fun _ => ?_)) <;> try (exfalso; omega)) | ((with_reducible refine Ab.br_dec (fun _ => ?_) (fun _ => ?_)) <;> try (exfalso; omega)) | (refine And.intro (by omega) ?_) | (refine gd_split (fun _ => ?_) (fun _ => ?_)) | (refine br_split (fun _ => ?_) (fun _ => ?_)) | (refine cl_more ( l36Copy_ok p xs id hn _ (hrd _)) ?_) | (refine cl_same (specRackOk_ok p xs id (by omega) _ (hrd _)) ?_) | (refine cl_same (hout _ (by omega) _ (by simp -implicitDefEqProofs only [Ab.app_assoc, Ab.len_app, Ab.sz_newk, Ab.sz_new0, Ab.rd_newk, Ab.rd_new0, Ab.wr_newk, Ab.wr_new0, Ab.set_newk, Ab.set_new0, Ab.sz_cons, Ab.sz_row0, Ab.sz_ro0, Ab.rd_cons, Ab.rd_row, Ab.rd_ro0, Ab.wr_cons, Ab.wr_row, Ab.set_cons_zero, Ab.set_cons_succ, Ab.rowI_len, Ab.rowB_len, Ab.rowS_len, Ab.rowU_len, Nat.add_assoc, List.cons_append, List.nil_append, List.append_nil, List.length_cons, List.length_nil, Nat.reduceAdd, Nat.reduceSub, Nat.reduceEqDiff, Nat.zero_add, Nat.add_zero, Nat.mul_one, Nat.one_mul, if_true, if_false, reduceIte, reduceCtorEq, eq_self, hre])) ?_) | omega)
    all_goals first
      | exact ⟨_, rfl, rfl⟩
      | (exfalso; simp_all [hangB]; done)

theorem implHang_ok (p : Int) (xs : List Int) (n : Int) (id : Nat) (hn : xs.length ≤ 1048576) (h : Heap) (hr : rd h id xs.length = some (rowI xs)) :
    AC Try.prog 15 [rkV p id xs.length, VI n] h fun r h' => r = .tup [rkV p h.length (hangX p xs n).length, VB (hangB p xs n)] ∧ h' = h ++ [rowW (hangX p xs n)] := by
  have hrd : ∀ l, rd (h ++ l) id xs.length = some (rowI xs) := fun l => rd_old hr l
  have hsd : ∀ l, sz (h ++ l) id = some xs.length := fun l => sz_old hr l
  have hout := implRackOk_ok p (xs ++ [n])
  rw [len_snoc, rowI_end] at hout
  have hrl := rowI_len xs
  have hre := rowI_endlen xs n
  by_cases hv : hangB p xs n = true
  · rw [hangX_ok hv, hv, len_snoc]
    have h1 : rackOk p xs = true := by simp [hangB] at hv; exact hv.1
    have h2 : rackOk p (xs ++ [n]) = true := by simp [hangB] at hv; exact hv.2
    refine AC.row1 2 (fun i => .tup [rkV p i (xs.length + 1), VB true]) (rowW (xs ++ [n])) (fun _ _ => rfl) (by simp [AV.ok, okAll, refOk, csz, rowI_len]) (fun h => rowI_ok h _) (fun ρ => ren_rowI ρ _) ?_
    refine AC_go mixed ok15 (by simp) fun hc _ => ?_
    unfold L15
    clear hv
    repeat' (first | simp -implicitDefEqProofs only [Ab.R1, Ab.R2, Ab.R3, Ab.R4, Ab.R5, Ab.RH, Ab.RM, Ab.binV, Ab.binC, Nat.reduceLT, Nat.reduceBEq, Nat.reduceAdd, Nat.reduceMul, Nat.reduceEqDiff, Nat.reduceLeDiff, Nat.reduceSub, List.getElem?_cons_zero, List.getElem?_cons_succ, List.getElem?_nil, Option.getD_some, Option.getD_none, if_true, if_false, reduceIte, Option.map_some, Option.map_none, Option.bind_some, Option.bind_none, Option.isSome_some, List.map_cons, List.map_nil, AV.cells, List.length_cons, List.length_nil, List.all_cons, List.all_nil, AV.one, Value.oneCell', ne_eq, reduceCtorEq, Int.reduceNeg, Int.reduceEq, Int.reduceNe, Int.reduceAdd, Int.reduceSub, Int.reduceMul, Int.reduceLT, Int.reduceLE, Int.reduceToNat, List.drop_zero, List.take_zero, List.drop_succ_cons, List.take_succ_cons, List.nil_append, List.cons_append, List.append_nil, List.replicate_zero, List.flatten_nil, List.flatten_cons, List.reduceReplicate, ge_iff_le, gt_iff_lt, eq_self, Nat.add_assoc, facts, *] | simp (disch := omega) only [Ab.wrap_i64] | ((with_reducible refine Ab.gd_ndec (fun _ => ?_) (fun _ => ?_)) <;> try (exfalso; omega)) | ((with_reducible refine Ab.br_ndec (fun _ => ?_) (fun _ => ?_)) <;> try (exfalso; omega)) | ((with_reducible refine Ab.gd_dec (fun _ => ?_) (fun _ => ?_)) <;> try (exfalso; omega)) | ((with_reducible refine Ab.br_dec (fun _ => ?_) (fun _ => ?_)) <;> try (exfalso; omega)) | (refine And.intro (by omega) ?_) | (refine gd_split (fun _ => ?_) (fun _ => ?_)) | (refine br_split (fun _ => ?_) (fun _ => ?_)) | (refine cl_more ( copied_ok p xs id hn _ (hrd _)) ?_) | (refine cl_same (implRackOk_ok p xs id (by omega) _ (hrd _)) ?_) | (refine cl_same (hout _ (by omega) _ (by simp -implicitDefEqProofs only [Ab.app_assoc, Ab.len_app, Ab.sz_newk, Ab.sz_new0, Ab.rd_newk, Ab.rd_new0, Ab.wr_newk, Ab.wr_new0, Ab.set_newk, Ab.set_new0, Ab.sz_cons, Ab.sz_row0, Ab.sz_ro0, Ab.rd_cons, Ab.rd_row, Ab.rd_ro0, Ab.wr_cons, Ab.wr_row, Ab.set_cons_zero, Ab.set_cons_succ, Ab.rowI_len, Ab.rowB_len, Ab.rowS_len, Ab.rowU_len, Nat.add_assoc, List.cons_append, List.nil_append, List.append_nil, List.length_cons, List.length_nil, Nat.reduceAdd, Nat.reduceSub, Nat.reduceEqDiff, Nat.zero_add, Nat.add_zero, Nat.mul_one, Nat.one_mul, if_true, if_false, reduceIte, reduceCtorEq, eq_self, hre])) ?_) | omega)
    exact ⟨_, rfl, by rw [rowW, rowI_end]; rfl⟩
  · rw [hangX_not hv]
    have hf : hangB p xs n = false := by simpa using hv
    rw [hf]
    refine AC.row1 5 (fun i => .tup [rkV p i (xs.length), VB false]) (rowW xs) (fun _ _ => rfl) (by simp [AV.ok, okAll, refOk, csz, rowI_len]) (fun h => rowI_ok h _) (fun ρ => ren_rowI ρ _) ?_
    refine AC_go mixed ok15 (by simp) fun hc _ => ?_
    unfold L15
    clear hv
    repeat' (first | simp -implicitDefEqProofs only [Ab.R1, Ab.R2, Ab.R3, Ab.R4, Ab.R5, Ab.RH, Ab.RM, Ab.binV, Ab.binC, Nat.reduceLT, Nat.reduceBEq, Nat.reduceAdd, Nat.reduceMul, Nat.reduceEqDiff, Nat.reduceLeDiff, Nat.reduceSub, List.getElem?_cons_zero, List.getElem?_cons_succ, List.getElem?_nil, Option.getD_some, Option.getD_none, if_true, if_false, reduceIte, Option.map_some, Option.map_none, Option.bind_some, Option.bind_none, Option.isSome_some, List.map_cons, List.map_nil, AV.cells, List.length_cons, List.length_nil, List.all_cons, List.all_nil, AV.one, Value.oneCell', ne_eq, reduceCtorEq, Int.reduceNeg, Int.reduceEq, Int.reduceNe, Int.reduceAdd, Int.reduceSub, Int.reduceMul, Int.reduceLT, Int.reduceLE, Int.reduceToNat, List.drop_zero, List.take_zero, List.drop_succ_cons, List.take_succ_cons, List.nil_append, List.cons_append, List.append_nil, List.replicate_zero, List.flatten_nil, List.flatten_cons, List.reduceReplicate, ge_iff_le, gt_iff_lt, eq_self, Nat.add_assoc, facts, *] | simp (disch := omega) only [Ab.wrap_i64] | ((with_reducible refine Ab.gd_ndec (fun _ => ?_) (fun _ => ?_)) <;> try (exfalso; omega)) | ((with_reducible refine Ab.br_ndec (fun _ => ?_) (fun _ => ?_)) <;> try (exfalso; omega)) | ((with_reducible refine Ab.gd_dec (fun _ => ?_) (fun _ => ?_)) <;> try (exfalso; omega)) | ((with_reducible refine Ab.br_dec (fun _ => ?_) (fun _ => ?_)) <;> try (exfalso; omega)) | (refine And.intro (by omega) ?_) | (refine gd_split (fun _ => ?_) (fun _ => ?_)) | (refine br_split (fun _ => ?_) (fun _ => ?_)) | (refine cl_more ( copied_ok p xs id hn _ (hrd _)) ?_) | (refine cl_same (implRackOk_ok p xs id (by omega) _ (hrd _)) ?_) | (refine cl_same (hout _ (by omega) _ (by simp -implicitDefEqProofs only [Ab.app_assoc, Ab.len_app, Ab.sz_newk, Ab.sz_new0, Ab.rd_newk, Ab.rd_new0, Ab.wr_newk, Ab.wr_new0, Ab.set_newk, Ab.set_new0, Ab.sz_cons, Ab.sz_row0, Ab.sz_ro0, Ab.rd_cons, Ab.rd_row, Ab.rd_ro0, Ab.wr_cons, Ab.wr_row, Ab.set_cons_zero, Ab.set_cons_succ, Ab.rowI_len, Ab.rowB_len, Ab.rowS_len, Ab.rowU_len, Nat.add_assoc, List.cons_append, List.nil_append, List.append_nil, List.length_cons, List.length_nil, Nat.reduceAdd, Nat.reduceSub, Nat.reduceEqDiff, Nat.zero_add, Nat.add_zero, Nat.mul_one, Nat.one_mul, if_true, if_false, reduceIte, reduceCtorEq, eq_self, hre])) ?_) | omega)
    all_goals first
      | exact ⟨_, rfl, rfl⟩
      | (exfalso; simp_all [hangB]; done)

theorem plainSet {P : Program} {h : Heap} {g : FuncId} {args : List AV} {v : Value} {e e' : TypeId} {es es' st id : Nat} {cells cells' : List AV} (hw : wr h id st = some (e, es, cells)) (hl : st ≤ cells'.length) (hp : ∀ h, okAll h cells' = true)
    (hc : AC P g args h fun c h' => c = .raw v ∧ ∃ ext, h' = List.set h id ⟨.row e' es', cells'⟩ ++ ext) : AC P g args h fun c h' => c = .raw v ∧ h' = List.set h id ⟨.row e' es', cells'⟩ :=
  hc.front fun hcl c h' ⟨hcv, ext, he⟩ =>
    have hs := Side.set (V := []) (e' := e') (es' := es') hcl hw hl hp (fun _ h => by cases h)
    ⟨_, ext, he, hs.1, hs.2, by rw [hcv]; rfl, hcv, rfl⟩

theorem markRack_ok (p : Int) (xs : List Int) (id : Nat) (hx : xs.length ≤ 1048577) (h : Heap) (hw : wr h id xs.length = some (3, 1, rowI xs)) :
    AC Try.prog 16 [rkV p id xs.length, VI 1] h fun r h' => r = VI (1 + xs.length) ∧ h' = List.set h id ⟨.row 3 1, rowI (iotaI 1 xs.length)⟩ := by
  refine plainSet hw (by rw [rowI_len, iotaI_len]; exact Nat.le_refl _) (fun h => rowI_ok h _) ?_
  refine AC_go mixed ok16 (by simp) fun hc _ => ?_
  unfold L16
  have hrd : ∀ l, rd (h ++ l) id xs.length = some (rowI xs) := fun l => rd_old (wr_rd hw) l
  have hwd : ∀ l, wr (h ++ l) id xs.length = some (3, 1, rowI xs) := fun l => wr_old hw l
  have hst : ∀ (l : List Blk) b, List.set (h ++ l) id b = List.set h id b ++ l := fun l b => List.set_append_left _ _ (wr_lt hw)
  repeat' (first | simp -implicitDefEqProofs only [Ab.R1, Ab.R2, Ab.R3, Ab.R4, Ab.R5, Ab.RH, Ab.RM, Ab.binV, Ab.binC, Nat.reduceLT, Nat.reduceBEq, Nat.reduceAdd, Nat.reduceMul, Nat.reduceEqDiff, Nat.reduceLeDiff, Nat.reduceSub, List.getElem?_cons_zero, List.getElem?_cons_succ, List.getElem?_nil, Option.getD_some, Option.getD_none, if_true, if_false, reduceIte, Option.map_some, Option.map_none, Option.bind_some, Option.bind_none, Option.isSome_some, List.map_cons, List.map_nil, AV.cells, List.length_cons, List.length_nil, List.all_cons, List.all_nil, AV.one, Value.oneCell', ne_eq, reduceCtorEq, Int.reduceNeg, Int.reduceEq, Int.reduceNe, Int.reduceAdd, Int.reduceSub, Int.reduceMul, Int.reduceLT, Int.reduceLE, Int.reduceToNat, List.drop_zero, List.take_zero, List.drop_succ_cons, List.take_succ_cons, List.nil_append, List.cons_append, List.append_nil, List.replicate_zero, List.flatten_nil, List.flatten_cons, List.reduceReplicate, ge_iff_le, gt_iff_lt, eq_self, Nat.add_assoc, facts, *] | simp (disch := omega) only [Ab.wrap_i64] | ((with_reducible refine Ab.gd_ndec (fun _ => ?_) (fun _ => ?_)) <;> try (exfalso; omega)) | ((with_reducible refine Ab.br_ndec (fun _ => ?_) (fun _ => ?_)) <;> try (exfalso; omega)) | ((with_reducible refine Ab.gd_dec (fun _ => ?_) (fun _ => ?_)) <;> try (exfalso; omega)) | ((with_reducible refine Ab.br_dec (fun _ => ?_) (fun _ => ?_)) <;> try (exfalso; omega)) | (refine And.intro (by omega) ?_) | (refine gd_split (fun _ => ?_) (fun _ => ?_)) | (refine br_split (fun _ => ?_) (fun _ => ?_)) | (refine cl_use ( markIntS_ok xs id _ (by omega) (by omega) _ (hwd _)) (fun hd => by cases hd) ?_) | omega)
  all_goals exact ⟨_, rfl⟩

theorem heldRack_ok (p : Int) (n id : Nat) (hn : n ≤ 1048577) (h : Heap) (hr : rd h id n = some (rowI (iotaI 1 n))) :
    AC Try.prog 17 [rkV p id n, VI 1] h fun r h' => r = VI (1 + n) ∧ h' = h := by
  refine AC.plain ?_
  refine AC_go mixed ok17 (by simp) fun hc _ => ?_
  unfold L17
  have hrd : ∀ l, rd (h ++ l) id n = some (rowI (iotaI 1 n)) := fun l => rd_old hr l
  repeat' (first | simp -implicitDefEqProofs only [Ab.R1, Ab.R2, Ab.R3, Ab.R4, Ab.R5, Ab.RH, Ab.RM, Ab.binV, Ab.binC, Nat.reduceLT, Nat.reduceBEq, Nat.reduceAdd, Nat.reduceMul, Nat.reduceEqDiff, Nat.reduceLeDiff, Nat.reduceSub, List.getElem?_cons_zero, List.getElem?_cons_succ, List.getElem?_nil, Option.getD_some, Option.getD_none, if_true, if_false, reduceIte, Option.map_some, Option.map_none, Option.bind_some, Option.bind_none, Option.isSome_some, List.map_cons, List.map_nil, AV.cells, List.length_cons, List.length_nil, List.all_cons, List.all_nil, AV.one, Value.oneCell', ne_eq, reduceCtorEq, Int.reduceNeg, Int.reduceEq, Int.reduceNe, Int.reduceAdd, Int.reduceSub, Int.reduceMul, Int.reduceLT, Int.reduceLE, Int.reduceToNat, List.drop_zero, List.take_zero, List.drop_succ_cons, List.take_succ_cons, List.nil_append, List.cons_append, List.append_nil, List.replicate_zero, List.flatten_nil, List.flatten_cons, List.reduceReplicate, ge_iff_le, gt_iff_lt, eq_self, Nat.add_assoc, facts, *] | simp (disch := omega) only [Ab.wrap_i64] | ((with_reducible refine Ab.gd_ndec (fun _ => ?_) (fun _ => ?_)) <;> try (exfalso; omega)) | ((with_reducible refine Ab.br_ndec (fun _ => ?_) (fun _ => ?_)) <;> try (exfalso; omega)) | ((with_reducible refine Ab.gd_dec (fun _ => ?_) (fun _ => ?_)) <;> try (exfalso; omega)) | ((with_reducible refine Ab.br_dec (fun _ => ?_) (fun _ => ?_)) <;> try (exfalso; omega)) | (refine And.intro (by omega) ?_) | (refine gd_split (fun _ => ?_) (fun _ => ?_)) | (refine br_split (fun _ => ?_) (fun _ => ?_)) | (refine cl_same (heldIntS_ok n id _ (by omega) (by omega) _ (hrd _)) ?_) | omega)
  all_goals exact ⟨_, rfl⟩
end Go.Proofs.Yteoihmajnpleoaa
