/- Selling: SellNumber, SellNext. -/
import Derived.Test.YtdpopimpdhgfaaaAb32
import Derived.Test.YtdpopimpdhgfaaaFreeN
import Derived.Test.YtdpopimpdhgfaaaClone
namespace Go.Proofs.Ytdpopimpdhgfaaa
set_option maxRecDepth 20000
set_option linter.unusedSimpArgs false
set_option linter.unusedVariables false
open Go Go.Ab

/-- Of the rows that a call has made one, of plain cells, is kept: whichever it was. -/
theorem AC_row1x {P : Program} {g : FuncId} {args : List AV} {h : Heap} (F : Nat → AV) (b : Blk) (hF : ∀ ρ i, (F i).ren ρ = F (ρ i)) (hok : (F h.length).ok (h ++ [b]) = true) (hb : ∀ h, okAll h b.cells = true) (hr : ∀ ρ, renL ρ b.cells = b.cells)
    (hc : AC P g args h fun c h' => ∃ p junk, c = F (h.length + p) ∧ h' = h ++ junk ∧ junk[p]? = some b) : AC P g args h fun c h' => c = F h.length ∧ h' = h ++ [b] :=
  hc.keep fun hcl c h' ⟨p, junk, hce, hh, hp⟩ => by
    subst hh; subst hce
    refine ⟨plc h [p], h ++ [b], F h.length, keeps_list hcl (by simp) rfl (fun j b' p' hb' hp' => ?_), closedH_append hcl (fun b' hb' => ?_), Heap.le_append _ _, hok, ?_, rfl, rfl⟩
    · cases j with
      | zero => simp at hb' hp'; subst hb'; subst hp'; rw [hp, hr]
      | succ j => simp at hb'
    · simp at hb'; subst hb'; exact hb _
    · rw [hF]; simp [plc]

theorem with_ok (s : Int) (i m j n : Nat) (h : Heap) : AC Try.prog 59 [edV s i m, .own j 1 n] h fun r h' => r = edV s j n ∧ h' = h := by
  refine AC.closed fun _ ha => ?_
  have hok : (edV s j n).ok h = true := by simp [AV.ok, okAll] at ha ⊢; exact ha.2
  refine AC.front (Q := fun r h' => r = edV s j n ∧ ∃ ext, h' = h ++ ext) ?_ fun hcl c h' ⟨hc, ext, he⟩ => ⟨h, ext, he, hcl, Heap.le_refl _, by rw [hc]; exact hok, hc, rfl⟩
  refine AC_go mixed ok59 (by simp) fun hc _ => ?_
  unfold L59
  repeat' (first | simp -implicitDefEqProofs only [Ab.R1, Ab.R2, Ab.R3, Ab.R4, Ab.R5, Ab.RH, Ab.RM, Ab.binV, Ab.binC, Nat.reduceLT, Nat.reduceBEq, Nat.reduceAdd, Nat.reduceMul, Nat.reduceEqDiff, Nat.reduceLeDiff, Nat.reduceSub, List.getElem?_cons_zero, List.getElem?_cons_succ, List.getElem?_nil, Option.getD_some, Option.getD_none, if_true, if_false, reduceIte, Option.map_some, Option.map_none, Option.bind_some, Option.bind_none, Option.isSome_some, List.map_cons, List.map_nil, AV.cells, List.length_cons, List.length_nil, List.all_cons, List.all_nil, AV.one, Value.oneCell', ne_eq, reduceCtorEq, Int.reduceNeg, Int.reduceEq, Int.reduceNe, Int.reduceAdd, Int.reduceSub, Int.reduceMul, Int.reduceLT, Int.reduceLE, Int.reduceToNat, List.drop_zero, List.take_zero, List.drop_succ_cons, List.take_succ_cons, List.nil_append, List.cons_append, List.append_nil, List.replicate_zero, List.flatten_nil, List.flatten_cons, List.reduceReplicate, ge_iff_le, gt_iff_lt, eq_self, Nat.add_assoc, facts, *] | simp (disch := omega) only [Ab.wrap_i64] | ((with_reducible refine Ab.gd_ndec (fun _ => ?_) (fun _ => ?_)) <;> try (exfalso; omega)) | ((with_reducible refine Ab.br_ndec (fun _ => ?_) (fun _ => ?_)) <;> try (exfalso; omega)) | ((with_reducible refine Ab.gd_dec (fun _ => ?_) (fun _ => ?_)) <;> try (exfalso; omega)) | ((with_reducible refine Ab.br_dec (fun _ => ?_) (fun _ => ?_)) <;> try (exfalso; omega)) | (with_reducible refine Ab.run_alt ?_ ?_) | (refine And.intro (by omega) ?_) | (refine gd_split (fun _ => ?_) (fun _ => ?_)) | (refine br_split (fun _ => ?_) (fun _ => ?_)) | omega)
  exact ⟨_, rfl⟩
theorem copyEd_ok (s : Int) (xs : List Int) (id : Nat) (hn : xs.length ≤ 4194304) (h : Heap) (hr : rd h id xs.length = some (rowI xs)) :
    AC Try.prog 58 [edV s id xs.length] h fun r h' => r = edV s h.length xs.length ∧ h' = h ++ [rowW xs] := by
  refine AC_row1x (fun i => edV s i xs.length) (rowW xs) (fun _ _ => rfl) (by simp [AV.ok, okAll, refOk, csz, rowI_len]) (fun h => rowI_ok h _) (fun ρ => ren_rowI ρ xs) ?_
  refine AC_go mixed ok58 (by simp) fun hc _ => ?_
  unfold L58
  have hrd : ∀ l, rd (h ++ l) id xs.length = some (rowI xs) := fun l => rd_old hr l
  have hsd : ∀ l, sz (h ++ l) id = some xs.length := fun l => sz_old hr l
  repeat' (first | simp -implicitDefEqProofs only [Ab.R1, Ab.R2, Ab.R3, Ab.R4, Ab.R5, Ab.RH, Ab.RM, Ab.binV, Ab.binC, Nat.reduceLT, Nat.reduceBEq, Nat.reduceAdd, Nat.reduceMul, Nat.reduceEqDiff, Nat.reduceLeDiff, Nat.reduceSub, List.getElem?_cons_zero, List.getElem?_cons_succ, List.getElem?_nil, Option.getD_some, Option.getD_none, if_true, if_false, reduceIte, Option.map_some, Option.map_none, Option.bind_some, Option.bind_none, Option.isSome_some, List.map_cons, List.map_nil, AV.cells, List.length_cons, List.length_nil, List.all_cons, List.all_nil, AV.one, Value.oneCell', ne_eq, reduceCtorEq, Int.reduceNeg, Int.reduceEq, Int.reduceNe, Int.reduceAdd, Int.reduceSub, Int.reduceMul, Int.reduceLT, Int.reduceLE, Int.reduceToNat, List.drop_zero, List.take_zero, List.drop_succ_cons, List.take_succ_cons, List.nil_append, List.cons_append, List.append_nil, List.replicate_zero, List.flatten_nil, List.flatten_cons, List.reduceReplicate, ge_iff_le, gt_iff_lt, eq_self, Nat.add_assoc, facts, *] | simp (disch := omega) only [Ab.wrap_i64] | ((with_reducible refine Ab.gd_ndec (fun _ => ?_) (fun _ => ?_)) <;> try (exfalso; omega)) | ((with_reducible refine Ab.br_ndec (fun _ => ?_) (fun _ => ?_)) <;> try (exfalso; omega)) | ((with_reducible refine Ab.gd_dec (fun _ => ?_) (fun _ => ?_)) <;> try (exfalso; omega)) | ((with_reducible refine Ab.br_dec (fun _ => ?_) (fun _ => ?_)) <;> try (exfalso; omega)) | (with_reducible refine Ab.run_alt ?_ ?_) | (refine And.intro (by omega) ?_) | (refine gd_split (fun _ => ?_) (fun _ => ?_)) | (refine br_split (fun _ => ?_) (fun _ => ?_)) | omega)
  exact ⟨_, _, rfl, rfl, rfl⟩

def sellB (s : Int) (xs : List Int) (n : Int) : Bool := edB s xs && edB s (xs ++ [n])
def sellX (s : Int) (xs : List Int) (n : Int) : List Int := if sellB s xs n = true then xs ++ [n] else xs
abbrev resE (s : Int) (i n : Nat) (b : Bool) : AV := .tup [edV s i n, VB b]

theorem specSell_ok (s : Int) (xs : List Int) (n : Int) (id : Nat) (hn : xs.length ≤ 1048576) (h : Heap) (hr : rd h id xs.length = some (rowI xs)) :
    AC Try.prog 19 [edV s id xs.length, VI n] h fun r h' => r = resE s h.length (sellX s xs n).length (sellB s xs n) ∧ h' = h ++ [rowW (sellX s xs n)] := by
  refine AC_row1x (fun i => resE s i (sellX s xs n).length (sellB s xs n)) (rowW (sellX s xs n)) (fun _ _ => rfl) (by simp [AV.ok, okAll, refOk, csz, rowI_len]) (fun h => rowI_ok h _) (fun ρ => ren_rowI ρ _) ?_
  refine AC_go mixed ok19 (by simp) fun hc _ => ?_
  unfold L19
  have hrd : ∀ l, rd (h ++ l) id xs.length = some (rowI xs) := fun l => rd_old hr l
  have hsd : ∀ l, sz (h ++ l) id = some xs.length := fun l => sz_old hr l
  have c1 := fun H hH => specEd_ok s xs id (by omega) H hH
  have c2 := fun i H hH => specEd_ok s (xs ++ [n]) i (by simp; omega) H hH
  have hl : (xs ++ [n]).length = xs.length + 1 := by simp
  have hl2 : (rowI (xs ++ [n])).length = xs.length + 1 := by rw [rowI_len, hl]
  have hsn := rowI_snoc xs n
  have q1 := rowI_len xs
  simp only [hl] at c2
  have cc := fun H hH => copyEd_ok s xs id (by omega) H hH
  have hB : sellB s xs n = (edB s xs && edB s (xs ++ [n])) := rfl
  cases e1 : edB s xs with
  | false =>
    rw [e1, Bool.false_and] at hB
    have hX : sellX s xs n = xs := if_neg (by rw [hB]; decide)
    rw [hB, hX]
    rw [e1] at c1
    repeat' (first | simp -implicitDefEqProofs only [Ab.R1, Ab.R2, Ab.R3, Ab.R4, Ab.R5, Ab.RH, Ab.RM, Ab.binV, Ab.binC, Nat.reduceLT, Nat.reduceBEq, Nat.reduceAdd, Nat.reduceMul, Nat.reduceEqDiff, Nat.reduceLeDiff, Nat.reduceSub, List.getElem?_cons_zero, List.getElem?_cons_succ, List.getElem?_nil, Option.getD_some, Option.getD_none, if_true, if_false, reduceIte, Option.map_some, Option.map_none, Option.bind_some, Option.bind_none, Option.isSome_some, List.map_cons, List.map_nil, AV.cells, List.length_cons, List.length_nil, List.all_cons, List.all_nil, AV.one, Value.oneCell', ne_eq, reduceCtorEq, Int.reduceNeg, Int.reduceEq, Int.reduceNe, Int.reduceAdd, Int.reduceSub, Int.reduceMul, Int.reduceLT, Int.reduceLE, Int.reduceToNat, List.drop_zero, List.take_zero, List.drop_succ_cons, List.take_succ_cons, List.nil_append, List.cons_append, List.append_nil, List.replicate_zero, List.flatten_nil, List.flatten_cons, List.reduceReplicate, ge_iff_le, gt_iff_lt, eq_self, Nat.add_assoc, facts, *] | simp (disch := omega) only [Ab.wrap_i64] | ((with_reducible refine Ab.gd_ndec (fun _ => ?_) (fun _ => ?_)) <;> try (exfalso; omega)) | ((with_reducible refine Ab.br_ndec (fun _ => ?_) (fun _ => ?_)) <;> try (exfalso; omega)) | ((with_reducible refine Ab.gd_dec (fun _ => ?_) (fun _ => ?_)) <;> try (exfalso; omega)) | ((with_reducible refine Ab.br_dec (fun _ => ?_) (fun _ => ?_)) <;> try (exfalso; omega)) | (with_reducible refine Ab.run_alt ?_ ?_) | (refine And.intro (by omega) ?_) | (refine gd_split (fun _ => ?_) (fun _ => ?_)) | (refine br_split (fun _ => ?_) (fun _ => ?_)) | (refine cl_more ( cc _ (hrd _)) ?_) | (refine cl_same (c1 _ (hrd _)) ?_) | omega)
    all_goals first | exact ⟨_, _, rfl, rfl, rfl⟩
  | true =>
    rw [e1, Bool.true_and] at hB
    rw [e1] at c1
    cases e2 : edB s (xs ++ [n]) with
    | false =>
      rw [e2] at hB c2
      have hX : sellX s xs n = xs := if_neg (by rw [hB]; decide)
      rw [hB, hX]
      repeat' (first | simp -implicitDefEqProofs only [Ab.R1, Ab.R2, Ab.R3, Ab.R4, Ab.R5, Ab.RH, Ab.RM, Ab.binV, Ab.binC, Nat.reduceLT, Nat.reduceBEq, Nat.reduceAdd, Nat.reduceMul, Nat.reduceEqDiff, Nat.reduceLeDiff, Nat.reduceSub, List.getElem?_cons_zero, List.getElem?_cons_succ, List.getElem?_nil, Option.getD_some, Option.getD_none, if_true, if_false, reduceIte, Option.map_some, Option.map_none, Option.bind_some, Option.bind_none, Option.isSome_some, List.map_cons, List.map_nil, AV.cells, List.length_cons, List.length_nil, List.all_cons, List.all_nil, AV.one, Value.oneCell', ne_eq, reduceCtorEq, Int.reduceNeg, Int.reduceEq, Int.reduceNe, Int.reduceAdd, Int.reduceSub, Int.reduceMul, Int.reduceLT, Int.reduceLE, Int.reduceToNat, List.drop_zero, List.take_zero, List.drop_succ_cons, List.take_succ_cons, List.nil_append, List.cons_append, List.append_nil, List.replicate_zero, List.flatten_nil, List.flatten_cons, List.reduceReplicate, ge_iff_le, gt_iff_lt, eq_self, Nat.add_assoc, facts, *] | simp (disch := omega) only [Ab.wrap_i64] | ((with_reducible refine Ab.gd_ndec (fun _ => ?_) (fun _ => ?_)) <;> try (exfalso; omega)) | ((with_reducible refine Ab.br_ndec (fun _ => ?_) (fun _ => ?_)) <;> try (exfalso; omega)) | ((with_reducible refine Ab.gd_dec (fun _ => ?_) (fun _ => ?_)) <;> try (exfalso; omega)) | ((with_reducible refine Ab.br_dec (fun _ => ?_) (fun _ => ?_)) <;> try (exfalso; omega)) | (with_reducible refine Ab.run_alt ?_ ?_) | (refine And.intro (by omega) ?_) | (refine gd_split (fun _ => ?_) (fun _ => ?_)) | (refine br_split (fun _ => ?_) (fun _ => ?_)) | (refine cl_more ( cc _ (hrd _)) ?_) | (refine cl_same (c1 _ (hrd _)) ?_) | (refine cl_same (c2 _ _ (by simp -implicitDefEqProofs only [Ab.app_assoc, Ab.len_app, Ab.sz_newk, Ab.sz_new0, Ab.rd_newk, Ab.rd_new0, Ab.wr_newk, Ab.wr_new0, Ab.set_newk, Ab.set_new0, Ab.sz_cons, Ab.sz_row0, Ab.sz_ro0, Ab.rd_cons, Ab.rd_row, Ab.rd_ro0, Ab.wr_cons, Ab.wr_row, Ab.set_cons_zero, Ab.set_cons_succ, Ab.rowI_len, Ab.rowB_len, Ab.rowS_len, Ab.rowU_len, Nat.add_assoc, List.cons_append, List.nil_append, List.append_nil, List.length_cons, List.length_nil, Nat.reduceAdd, Nat.reduceSub, Nat.reduceEqDiff, Nat.zero_add, Nat.add_zero, Nat.mul_one, Nat.one_mul, if_true, if_false, reduceIte, reduceCtorEq, eq_self, hsn, hl2, q1])) ?_) | omega)
      all_goals first | exact ⟨_, _, rfl, rfl, rfl⟩
    | true =>
      rw [e2] at hB c2
      have hX : sellX s xs n = xs ++ [n] := if_pos hB
      rw [hB, hX]
      repeat' (first | simp -implicitDefEqProofs only [Ab.R1, Ab.R2, Ab.R3, Ab.R4, Ab.R5, Ab.RH, Ab.RM, Ab.binV, Ab.binC, Nat.reduceLT, Nat.reduceBEq, Nat.reduceAdd, Nat.reduceMul, Nat.reduceEqDiff, Nat.reduceLeDiff, Nat.reduceSub, List.getElem?_cons_zero, List.getElem?_cons_succ, List.getElem?_nil, Option.getD_some, Option.getD_none, if_true, if_false, reduceIte, Option.map_some, Option.map_none, Option.bind_some, Option.bind_none, Option.isSome_some, List.map_cons, List.map_nil, AV.cells, List.length_cons, List.length_nil, List.all_cons, List.all_nil, AV.one, Value.oneCell', ne_eq, reduceCtorEq, Int.reduceNeg, Int.reduceEq, Int.reduceNe, Int.reduceAdd, Int.reduceSub, Int.reduceMul, Int.reduceLT, Int.reduceLE, Int.reduceToNat, List.drop_zero, List.take_zero, List.drop_succ_cons, List.take_succ_cons, List.nil_append, List.cons_append, List.append_nil, List.replicate_zero, List.flatten_nil, List.flatten_cons, List.reduceReplicate, ge_iff_le, gt_iff_lt, eq_self, Nat.add_assoc, facts, *] | simp (disch := omega) only [Ab.wrap_i64] | ((with_reducible refine Ab.gd_ndec (fun _ => ?_) (fun _ => ?_)) <;> try (exfalso; omega)) | ((with_reducible refine Ab.br_ndec (fun _ => ?_) (fun _ => ?_)) <;> try (exfalso; omega)) | ((with_reducible refine Ab.gd_dec (fun _ => ?_) (fun _ => ?_)) <;> try (exfalso; omega)) | ((with_reducible refine Ab.br_dec (fun _ => ?_) (fun _ => ?_)) <;> try (exfalso; omega)) | (with_reducible refine Ab.run_alt ?_ ?_) | (refine And.intro (by omega) ?_) | (refine gd_split (fun _ => ?_) (fun _ => ?_)) | (refine br_split (fun _ => ?_) (fun _ => ?_)) | (refine cl_more ( cc _ (hrd _)) ?_) | (refine cl_same (c1 _ (hrd _)) ?_) | (refine cl_same (c2 _ _ (by simp -implicitDefEqProofs only [Ab.app_assoc, Ab.len_app, Ab.sz_newk, Ab.sz_new0, Ab.rd_newk, Ab.rd_new0, Ab.wr_newk, Ab.wr_new0, Ab.set_newk, Ab.set_new0, Ab.sz_cons, Ab.sz_row0, Ab.sz_ro0, Ab.rd_cons, Ab.rd_row, Ab.rd_ro0, Ab.wr_cons, Ab.wr_row, Ab.set_cons_zero, Ab.set_cons_succ, Ab.rowI_len, Ab.rowB_len, Ab.rowS_len, Ab.rowU_len, Nat.add_assoc, List.cons_append, List.nil_append, List.append_nil, List.length_cons, List.length_nil, Nat.reduceAdd, Nat.reduceSub, Nat.reduceEqDiff, Nat.zero_add, Nat.add_zero, Nat.mul_one, Nat.one_mul, if_true, if_false, reduceIte, reduceCtorEq, eq_self, hsn, hl2, q1])) ?_) | omega)
      all_goals first | exact ⟨_, _, rfl, rfl, rfl⟩

theorem all64 {xs : List Int} {n : Int} (hx : ∀ x ∈ xs, int64 x) (hn : int64 n) : ∀ x ∈ xs ++ [n], int64 x := fun x hxm => by
  rcases List.mem_append.1 hxm with h1 | h1
  · exact hx x h1
  · rw [List.mem_singleton.1 h1]; exact hn
set_option maxHeartbeats 2000000 in
theorem implSell_ok (s : Int) (xs : List Int) (n : Int) (id : Nat) (hn : xs.length ≤ 1048576) (hx : ∀ x ∈ xs, int64 x) (hx2 : int64 n) (h : Heap) (hr : rd h id xs.length = some (rowI xs)) :
    AC Try.prog 20 [edV s id xs.length, VI n] h fun r h' => r = resE s h.length (sellX s xs n).length (sellB s xs n) ∧ h' = h ++ [rowW (sellX s xs n)] := by
  refine AC_row1x (fun i => resE s i (sellX s xs n).length (sellB s xs n)) (rowW (sellX s xs n)) (fun _ _ => rfl) (by simp [AV.ok, okAll, refOk, csz, rowI_len]) (fun h => rowI_ok h _) (fun ρ => ren_rowI ρ _) ?_
  refine AC_go mixed ok20 (by simp) fun hc _ => ?_
  unfold L20
  have hrd : ∀ l, rd (h ++ l) id xs.length = some (rowI xs) := fun l => rd_old hr l
  have hsd : ∀ l, sz (h ++ l) id = some xs.length := fun l => sz_old hr l
  have c1 := fun H hH => implEd_ok s xs id (by omega) hx H hH
  have c2 := fun i H hH => implEd_ok s (xs ++ [n]) i (by simp; omega) (all64 hx hx2) H hH
  have hl : (xs ++ [n]).length = xs.length + 1 := by simp
  have hl2 : (rowI (xs ++ [n])).length = xs.length + 1 := by rw [rowI_len, hl]
  have hsn := rowI_snoc xs n
  have q1 := rowI_len xs
  simp only [hl] at c2
  have cc := fun H hH => clone_ok id xs.length (rowI xs) hn H hH
  have hB : sellB s xs n = (edB s xs && edB s (xs ++ [n])) := rfl
  cases e1 : edB s xs with
  | false =>
    rw [e1, Bool.false_and] at hB
    have hX : sellX s xs n = xs := if_neg (by rw [hB]; decide)
    rw [hB, hX]
    rw [e1] at c1
    repeat' (first | simp -implicitDefEqProofs only [Ab.R1, Ab.R2, Ab.R3, Ab.R4, Ab.R5, Ab.RH, Ab.RM, Ab.binV, Ab.binC, Nat.reduceLT, Nat.reduceBEq, Nat.reduceAdd, Nat.reduceMul, Nat.reduceEqDiff, Nat.reduceLeDiff, Nat.reduceSub, List.getElem?_cons_zero, List.getElem?_cons_succ, List.getElem?_nil, Option.getD_some, Option.getD_none, if_true, if_false, reduceIte, Option.map_some, Option.map_none, Option.bind_some, Option.bind_none, Option.isSome_some, List.map_cons, List.map_nil, AV.cells, List.length_cons, List.length_nil, List.all_cons, List.all_nil, AV.one, Value.oneCell', ne_eq, reduceCtorEq, Int.reduceNeg, Int.reduceEq, Int.reduceNe, Int.reduceAdd, Int.reduceSub, Int.reduceMul, Int.reduceLT, Int.reduceLE, Int.reduceToNat, List.drop_zero, List.take_zero, List.drop_succ_cons, List.take_succ_cons, List.nil_append, List.cons_append, List.append_nil, List.replicate_zero, List.flatten_nil, List.flatten_cons, List.reduceReplicate, ge_iff_le, gt_iff_lt, eq_self, Nat.add_assoc, facts, *] | simp (disch := omega) only [Ab.wrap_i64] | ((with_reducible refine Ab.gd_ndec (fun _ => ?_) (fun _ => ?_)) <;> try (exfalso; omega)) | ((with_reducible refine Ab.br_ndec (fun _ => ?_) (fun _ => ?_)) <;> try (exfalso; omega)) | ((with_reducible refine Ab.gd_dec (fun _ => ?_) (fun _ => ?_)) <;> try (exfalso; omega)) | ((with_reducible refine Ab.br_dec (fun _ => ?_) (fun _ => ?_)) <;> try (exfalso; omega)) | (with_reducible refine Ab.run_alt ?_ ?_) | (refine And.intro (by omega) ?_) | (refine gd_split (fun _ => ?_) (fun _ => ?_)) | (refine br_split (fun _ => ?_) (fun _ => ?_)) | (refine cl_more ( cc _ (hrd _)) ?_) | (refine cl_same (c1 _ (hrd _)) ?_) | (refine cl_same (with_ok _ _ _ _ _ _) ?_) | omega)
    all_goals first | exact ⟨_, _, rfl, rfl, rfl⟩
  | true =>
    rw [e1, Bool.true_and] at hB
    rw [e1] at c1
    cases e2 : edB s (xs ++ [n]) with
    | false =>
      rw [e2] at hB c2
      have hX : sellX s xs n = xs := if_neg (by rw [hB]; decide)
      rw [hB, hX]
      repeat' (first | simp -implicitDefEqProofs only [Ab.R1, Ab.R2, Ab.R3, Ab.R4, Ab.R5, Ab.RH, Ab.RM, Ab.binV, Ab.binC, Nat.reduceLT, Nat.reduceBEq, Nat.reduceAdd, Nat.reduceMul, Nat.reduceEqDiff, Nat.reduceLeDiff, Nat.reduceSub, List.getElem?_cons_zero, List.getElem?_cons_succ, List.getElem?_nil, Option.getD_some, Option.getD_none, if_true, if_false, reduceIte, Option.map_some, Option.map_none, Option.bind_some, Option.bind_none, Option.isSome_some, List.map_cons, List.map_nil, AV.cells, List.length_cons, List.length_nil, List.all_cons, List.all_nil, AV.one, Value.oneCell', ne_eq, reduceCtorEq, Int.reduceNeg, Int.reduceEq, Int.reduceNe, Int.reduceAdd, Int.reduceSub, Int.reduceMul, Int.reduceLT, Int.reduceLE, Int.reduceToNat, List.drop_zero, List.take_zero, List.drop_succ_cons, List.take_succ_cons, List.nil_append, List.cons_append, List.append_nil, List.replicate_zero, List.flatten_nil, List.flatten_cons, List.reduceReplicate, ge_iff_le, gt_iff_lt, eq_self, Nat.add_assoc, facts, *] | simp (disch := omega) only [Ab.wrap_i64] | ((with_reducible refine Ab.gd_ndec (fun _ => ?_) (fun _ => ?_)) <;> try (exfalso; omega)) | ((with_reducible refine Ab.br_ndec (fun _ => ?_) (fun _ => ?_)) <;> try (exfalso; omega)) | ((with_reducible refine Ab.gd_dec (fun _ => ?_) (fun _ => ?_)) <;> try (exfalso; omega)) | ((with_reducible refine Ab.br_dec (fun _ => ?_) (fun _ => ?_)) <;> try (exfalso; omega)) | (with_reducible refine Ab.run_alt ?_ ?_) | (refine And.intro (by omega) ?_) | (refine gd_split (fun _ => ?_) (fun _ => ?_)) | (refine br_split (fun _ => ?_) (fun _ => ?_)) | (refine cl_more ( cc _ (hrd _)) ?_) | (refine cl_same (c1 _ (hrd _)) ?_) | (refine cl_same (c2 _ _ (by simp -implicitDefEqProofs only [Ab.app_assoc, Ab.len_app, Ab.sz_newk, Ab.sz_new0, Ab.rd_newk, Ab.rd_new0, Ab.wr_newk, Ab.wr_new0, Ab.set_newk, Ab.set_new0, Ab.sz_cons, Ab.sz_row0, Ab.sz_ro0, Ab.rd_cons, Ab.rd_row, Ab.rd_ro0, Ab.wr_cons, Ab.wr_row, Ab.set_cons_zero, Ab.set_cons_succ, Ab.rowI_len, Ab.rowB_len, Ab.rowS_len, Ab.rowU_len, Nat.add_assoc, List.cons_append, List.nil_append, List.append_nil, List.length_cons, List.length_nil, Nat.reduceAdd, Nat.reduceSub, Nat.reduceEqDiff, Nat.zero_add, Nat.add_zero, Nat.mul_one, Nat.one_mul, if_true, if_false, reduceIte, reduceCtorEq, eq_self, hsn, hl2, q1])) ?_) | (refine cl_same (with_ok _ _ _ _ _ _) ?_) | omega)
      all_goals first | exact ⟨_, _, rfl, rfl, rfl⟩
    | true =>
      rw [e2] at hB c2
      have hX : sellX s xs n = xs ++ [n] := if_pos hB
      rw [hB, hX]
      repeat' (first | simp -implicitDefEqProofs only [Ab.R1, Ab.R2, Ab.R3, Ab.R4, Ab.R5, Ab.RH, Ab.RM, Ab.binV, Ab.binC, Nat.reduceLT, Nat.reduceBEq, Nat.reduceAdd, Nat.reduceMul, Nat.reduceEqDiff, Nat.reduceLeDiff, Nat.reduceSub, List.getElem?_cons_zero, List.getElem?_cons_succ, List.getElem?_nil, Option.getD_some, Option.getD_none, if_true, if_false, reduceIte, Option.map_some, Option.map_none, Option.bind_some, Option.bind_none, Option.isSome_some, List.map_cons, List.map_nil, AV.cells, List.length_cons, List.length_nil, List.all_cons, List.all_nil, AV.one, Value.oneCell', ne_eq, reduceCtorEq, Int.reduceNeg, Int.reduceEq, Int.reduceNe, Int.reduceAdd, Int.reduceSub, Int.reduceMul, Int.reduceLT, Int.reduceLE, Int.reduceToNat, List.drop_zero, List.take_zero, List.drop_succ_cons, List.take_succ_cons, List.nil_append, List.cons_append, List.append_nil, List.replicate_zero, List.flatten_nil, List.flatten_cons, List.reduceReplicate, ge_iff_le, gt_iff_lt, eq_self, Nat.add_assoc, facts, *] | simp (disch := omega) only [Ab.wrap_i64] | ((with_reducible refine Ab.gd_ndec (fun _ => ?_) (fun _ => ?_)) <;> try (exfalso; omega)) | ((with_reducible refine Ab.br_ndec (fun _ => ?_) (fun _ => ?_)) <;> try (exfalso; omega)) | ((with_reducible refine Ab.gd_dec (fun _ => ?_) (fun _ => ?_)) <;> try (exfalso; omega)) | ((with_reducible refine Ab.br_dec (fun _ => ?_) (fun _ => ?_)) <;> try (exfalso; omega)) | (with_reducible refine Ab.run_alt ?_ ?_) | (refine And.intro (by omega) ?_) | (refine gd_split (fun _ => ?_) (fun _ => ?_)) | (refine br_split (fun _ => ?_) (fun _ => ?_)) | (refine cl_more ( cc _ (hrd _)) ?_) | (refine cl_same (c1 _ (hrd _)) ?_) | (refine cl_same (c2 _ _ (by simp -implicitDefEqProofs only [Ab.app_assoc, Ab.len_app, Ab.sz_newk, Ab.sz_new0, Ab.rd_newk, Ab.rd_new0, Ab.wr_newk, Ab.wr_new0, Ab.set_newk, Ab.set_new0, Ab.sz_cons, Ab.sz_row0, Ab.sz_ro0, Ab.rd_cons, Ab.rd_row, Ab.rd_ro0, Ab.wr_cons, Ab.wr_row, Ab.set_cons_zero, Ab.set_cons_succ, Ab.rowI_len, Ab.rowB_len, Ab.rowS_len, Ab.rowU_len, Nat.add_assoc, List.cons_append, List.nil_append, List.append_nil, List.length_cons, List.length_nil, Nat.reduceAdd, Nat.reduceSub, Nat.reduceEqDiff, Nat.zero_add, Nat.add_zero, Nat.mul_one, Nat.one_mul, if_true, if_false, reduceIte, reduceCtorEq, eq_self, hsn, hl2, q1])) ?_) | (refine cl_same (with_ok _ _ _ _ _ _) ?_) | omega)
      all_goals first | exact ⟨_, _, rfl, rfl, rfl⟩
end Go.Proofs.Ytdpopimpdhgfaaa
