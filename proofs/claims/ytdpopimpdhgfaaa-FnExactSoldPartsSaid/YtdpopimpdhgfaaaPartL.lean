/- SoldParts: the law. -/
import Derived.Test.YtdpopimpdhgfaaaAb32
import Derived.Test.YtdpopimpdhgfaaaPartI
namespace Go.Proofs.Ytdpopimpdhgfaaa
set_option maxRecDepth 20000
set_option linter.unusedSimpArgs false
set_option linter.unusedVariables false
open Go Go.Ab

def PE (n : Nat) (ps : List PT) (E : Heap) : Prop := E = outB (n + 1) ps.length :: inP ps
def ME (n m : Nat) : Heap := outB (n + 1) m :: inP (mkP m)
theorem PE.len {n : Nat} {ps : List PT} {E : Heap} (h : PE n ps E) : E.length = ps.length + 1 := by rw [h]; simp [inP_len]
theorem ME_len (n m : Nat) : (ME n m).length = m + 1 := by simp [ME, inP_len, mkP_len]
theorem np_of {n : Nat} {ps : List PT} (G l : Heap) (hG : G.length = n) : NP (G ++ ((outB (n + 1) ps.length :: inP ps) ++ l)) n (n + 1) ps := by
  subst hG
  have h1 : (G ++ [outB (G.length + 1) ps.length]).length = G.length + 1 := by simp
  have := NP_new (G ++ [outB (G.length + 1) ps.length]) l G.length ps fun l' => by
    rw [List.append_assoc, rd_new0, h1]
    simp [rd_row, oC_len]
  rw [h1, List.append_assoc] at this
  exact this
theorem PE.np {n : Nat} {ps : List PT} {E : Heap} (h : PE n ps E) (G l : Heap) (hG : G.length = n) : NP (G ++ (E ++ l)) n (n + 1) ps := by
  rw [h]; exact np_of G l hG
theorem ME.np {n m : Nat} (G l : Heap) (hG : G.length = n) : NP (G ++ (ME n m ++ l)) n (n + 1) (mkP m) := by
  have := np_of (ps := mkP m) G l hG
  rw [mkP_len] at this
  exact this
theorem PE.mark {n : Nat} {ps : List PT} {E : Heap} (h : PE n ps E) (hn : ps.length ≤ 1048576) (G l : Heap) (hG : G.length = n) :
    AC Try.prog 35 [.own n 1 ps.length, VI 1] (G ++ (E ++ l)) fun r h' => r = VI (1 + 2 * (ps.length : Int)) ∧ h' = G ++ (ME n ps.length ++ l) := by
  subst hG
  have h1 : (G ++ [outB (G.length + 1) ps.length]).length = G.length + 1 := by simp
  have := markIntSS_ok ps (G ++ [outB (G.length + 1) ps.length]) l G.length hn fun l' => by
    rw [List.append_assoc, rd_new0, h1]
    simp [rd_row, oC_len]
  rw [List.append_assoc, List.append_assoc] at this
  rw [h]
  exact this
theorem parts_ex {P : Program} {g : FuncId} {args : List AV} {H : Heap} {ps : List PT} (hc : AC P g args H fun r h' => r = .own H.length 1 ps.length ∧ h' = H ++ (outB (H.length + 1) ps.length :: inP ps)) :
    AC P g args H fun c h' => ∃ E, PE H.length ps E ∧ c = .own H.length 1 ps.length ∧ h' = H ++ E :=
  hc.mono fun c h' ⟨h1, h2⟩ => ⟨_, rfl, h1, h2⟩
theorem partL_le (s : Int) (xs : List Int) : (partL s xs).length ≤ 500 := by
  unfold partL
  split
  · rename_i h
    obtain ⟨⟨h1, h2⟩, _⟩ := edB_spec h
    have := partA_le xs s.toNat; omega
  · simp

set_option maxHeartbeats 2000000 in
theorem lawPart_ok (p : Int) (xs : List Int) (id : Nat) (hm : xs.length ≤ maxLen) (hx : ∀ x ∈ xs, int64 x) (h : Heap) (hr : rd h id xs.length = some (rowI xs)) :
    AC Try.prog 8 [edA p id xs.length] h fun r _ => r = VB true := by
  refine AC_go mixed ok8 (by simp) fun hc _ => ?_
  unfold L8
  unfold maxLen at hm
  have hrd : ∀ l, rd (h ++ l) id xs.length = some (rowI xs) := fun l => rd_old hr l
  have hsd : ∀ l, sz (h ++ l) id = some xs.length := fun l => sz_old hr l
  have hsz := fun H hH => szEd_ok p id xs.length H hH (by omega)
  have q1 := rowI_len xs
  by_cases hn : xs.length ≤ 1048576
  · rw [if_pos hn] at hsz
    have hs1 := specPart_ok p xs
    have hs2 := implPart_ok p xs
    have hX := partL_le p xs
    generalize partL p xs = X at hs1 hs2 hX
    have q4 := iotaI_len 1 xs.length
    have at_ : ∀ {n m : Nat} {E : Heap}, PE n X E → n = m → PE m X E := fun h e => e ▸ h
    have eqX := fun ida idb ba bb H ha hb => eqIntSS_ok X X ida idb ba bb (by omega) H ha hb
    simp only [decide_true] at eqX
    repeat' (first | simp -implicitDefEqProofs only [Ab.R1, Ab.R2, Ab.R3, Ab.R4, Ab.R5, Ab.RH, Ab.RM, Ab.binV, Ab.binC, Nat.reduceLT, Nat.reduceBEq, Nat.reduceAdd, Nat.reduceMul, Nat.reduceEqDiff, Nat.reduceLeDiff, Nat.reduceSub, List.getElem?_cons_zero, List.getElem?_cons_succ, List.getElem?_nil, Option.getD_some, Option.getD_none, if_true, if_false, reduceIte, Option.map_some, Option.map_none, Option.bind_some, Option.bind_none, Option.isSome_some, List.map_cons, List.map_nil, AV.cells, List.length_cons, List.length_nil, List.all_cons, List.all_nil, AV.one, Value.oneCell', ne_eq, reduceCtorEq, Int.reduceNeg, Int.reduceEq, Int.reduceNe, Int.reduceAdd, Int.reduceSub, Int.reduceMul, Int.reduceLT, Int.reduceLE, Int.reduceToNat, List.drop_zero, List.take_zero, List.drop_succ_cons, List.take_succ_cons, List.nil_append, List.cons_append, List.append_nil, List.replicate_zero, List.flatten_nil, List.flatten_cons, List.reduceReplicate, ge_iff_le, gt_iff_lt, eq_self, Nat.add_assoc, facts, *] | simp (disch := omega) only [Ab.wrap_i64] | ((with_reducible refine Ab.gd_ndec (fun _ => ?_) (fun _ => ?_)) <;> try (exfalso; omega)) | ((with_reducible refine Ab.br_ndec (fun _ => ?_) (fun _ => ?_)) <;> try (exfalso; omega)) | ((with_reducible refine Ab.gd_dec (fun _ => ?_) (fun _ => ?_)) <;> try (exfalso; omega)) | ((with_reducible refine Ab.br_dec (fun _ => ?_) (fun _ => ?_)) <;> try (exfalso; omega)) | (with_reducible refine Ab.run_alt ?_ ?_) | (refine And.intro (by omega) ?_) | (refine gd_split (fun _ => ?_) (fun _ => ?_)) | (refine br_split (fun _ => ?_) (fun _ => ?_)) | (refine cl_same (hsz _ (hsd _)) ?_) | (refine cl_more ( toEd_ok p xs id hn _ (hrd _)) ?_) | omega)
    refine cl_ex (parts_ex (hs1 _ hn _ ?_)) ?_
    · simp -implicitDefEqProofs only [Ab.app_assoc, Ab.len_app, Ab.sz_newk, Ab.sz_new0, Ab.rd_newk, Ab.rd_new0, Ab.wr_newk, Ab.wr_new0, Ab.set_newk, Ab.set_new0, Ab.sz_cons, Ab.sz_row0, Ab.sz_ro0, Ab.rd_cons, Ab.rd_row, Ab.rd_ro0, Ab.wr_cons, Ab.wr_row, Ab.set_cons_zero, Ab.set_cons_succ, Ab.rowI_len, Ab.rowB_len, Ab.rowS_len, Ab.rowU_len, Nat.add_assoc, List.cons_append, List.nil_append, List.append_nil, List.length_cons, List.length_nil, Nat.reduceAdd, Nat.reduceSub, Nat.reduceEqDiff, Nat.zero_add, Nat.add_zero, Nat.mul_one, Nat.one_mul, if_true, if_false, reduceIte, reduceCtorEq, eq_self, q1, rd_cons1, rd_cons2, rd_cons3, sz_cons1, sz_cons2, sz_cons3, wr_cons1, wr_cons2, wr_cons3, set_cons1, set_cons2, set_cons3]
    intro E1 hE1
    replace hE1 := at_ hE1 (m := h.length + 2) (by simp)
    have hN1 : ∀ r0 r1 l, NP (h ++ (r0 :: r1 :: (E1 ++ l))) (h.length + 2) (h.length + 2 + 1) X := fun r0 r1 l => by
      have := hE1.np (h ++ [r0, r1]) l (by simp)
      simpa only [List.append_assoc, List.cons_append, List.nil_append] using this
    repeat' (first | simp -implicitDefEqProofs only [Ab.R1, Ab.R2, Ab.R3, Ab.R4, Ab.R5, Ab.RH, Ab.RM, Ab.binV, Ab.binC, Nat.reduceLT, Nat.reduceBEq, Nat.reduceAdd, Nat.reduceMul, Nat.reduceEqDiff, Nat.reduceLeDiff, Nat.reduceSub, List.getElem?_cons_zero, List.getElem?_cons_succ, List.getElem?_nil, Option.getD_some, Option.getD_none, if_true, if_false, reduceIte, Option.map_some, Option.map_none, Option.bind_some, Option.bind_none, Option.isSome_some, List.map_cons, List.map_nil, AV.cells, List.length_cons, List.length_nil, List.all_cons, List.all_nil, AV.one, Value.oneCell', ne_eq, reduceCtorEq, Int.reduceNeg, Int.reduceEq, Int.reduceNe, Int.reduceAdd, Int.reduceSub, Int.reduceMul, Int.reduceLT, Int.reduceLE, Int.reduceToNat, List.drop_zero, List.take_zero, List.drop_succ_cons, List.take_succ_cons, List.nil_append, List.cons_append, List.append_nil, List.replicate_zero, List.flatten_nil, List.flatten_cons, List.reduceReplicate, ge_iff_le, gt_iff_lt, eq_self, Nat.add_assoc, facts, *] | simp (disch := omega) only [Ab.wrap_i64] | ((with_reducible refine Ab.gd_ndec (fun _ => ?_) (fun _ => ?_)) <;> try (exfalso; omega)) | ((with_reducible refine Ab.br_ndec (fun _ => ?_) (fun _ => ?_)) <;> try (exfalso; omega)) | ((with_reducible refine Ab.gd_dec (fun _ => ?_) (fun _ => ?_)) <;> try (exfalso; omega)) | ((with_reducible refine Ab.br_dec (fun _ => ?_) (fun _ => ?_)) <;> try (exfalso; omega)) | (with_reducible refine Ab.run_alt ?_ ?_) | (refine And.intro (by omega) ?_) | (refine gd_split (fun _ => ?_) (fun _ => ?_)) | (refine br_split (fun _ => ?_) (fun _ => ?_)) | (refine cl_more ( toEd_ok p xs id hn _ (hrd _)) ?_) | omega)
    refine cl_ex (parts_ex (hs2 _ hn hx _ ?_)) ?_
    · simp -implicitDefEqProofs only [Ab.app_assoc, Ab.len_app, Ab.sz_newk, Ab.sz_new0, Ab.rd_newk, Ab.rd_new0, Ab.wr_newk, Ab.wr_new0, Ab.set_newk, Ab.set_new0, Ab.sz_cons, Ab.sz_row0, Ab.sz_ro0, Ab.rd_cons, Ab.rd_row, Ab.rd_ro0, Ab.wr_cons, Ab.wr_row, Ab.set_cons_zero, Ab.set_cons_succ, Ab.rowI_len, Ab.rowB_len, Ab.rowS_len, Ab.rowU_len, Nat.add_assoc, List.cons_append, List.nil_append, List.append_nil, List.length_cons, List.length_nil, Nat.reduceAdd, Nat.reduceSub, Nat.reduceEqDiff, Nat.zero_add, Nat.add_zero, Nat.mul_one, Nat.one_mul, if_true, if_false, reduceIte, reduceCtorEq, eq_self, q1, rd_cons1, rd_cons2, rd_cons3, sz_cons1, sz_cons2, sz_cons3, wr_cons1, wr_cons2, wr_cons3, set_cons1, set_cons2, set_cons3]
    intro E2 hE2
    replace hE2 := at_ hE2 (m := h.length + (E1.length + 4)) (by simp; try omega)
    have hN2 : ∀ r0 r1 a b l, NP (h ++ (r0 :: r1 :: (E1 ++ (a :: b :: (E2 ++ l))))) (h.length + (E1.length + 4)) (h.length + (E1.length + 4) + 1) X := fun r0 r1 a b l => by
      have := hE2.np (h ++ (r0 :: r1 :: (E1 ++ [a, b]))) l (by simp; try omega)
      simpa only [List.append_assoc, List.cons_append, List.nil_append] using this
    have hN2z : ∀ r0 r1 a b, NP (h ++ (r0 :: r1 :: (E1 ++ (a :: b :: E2)))) (h.length + (E1.length + 4)) (h.length + (E1.length + 4) + 1) X := fun r0 r1 a b => by
      have := hN2 r0 r1 a b []
      simpa only [List.append_nil] using this
    have hM2 : ∀ r0 r1 a b l, AC Try.prog 35 [.own (h.length + (E1.length + 4)) 1 X.length, VI 1] (h ++ (r0 :: r1 :: (E1 ++ (a :: b :: (E2 ++ l))))) fun r h' => r = VI (1 + 2 * (X.length : Int)) ∧ h' = h ++ (r0 :: r1 :: (E1 ++ (a :: b :: (ME (h.length + (E1.length + 4)) X.length ++ l)))) := fun r0 r1 a b l => by
      have := hE2.mark (by omega) (h ++ (r0 :: r1 :: (E1 ++ [a, b]))) l (by simp; try omega)
      simpa only [List.append_assoc, List.cons_append, List.nil_append] using this
    have hN2m : ∀ r0 r1 a b l, NP (h ++ (r0 :: r1 :: (E1 ++ (a :: b :: (ME (h.length + (E1.length + 4)) X.length ++ l))))) (h.length + (E1.length + 4)) (h.length + (E1.length + 4) + 1) (mkP X.length) := fun r0 r1 a b l => by
      have := ME.np (n := h.length + (E1.length + 4)) (m := X.length) (h ++ (r0 :: r1 :: (E1 ++ [a, b]))) l (by simp; try omega)
      simpa only [List.append_assoc, List.cons_append, List.nil_append] using this
    have hLM := ME_len (h.length + (E1.length + 4)) X.length
    have hL2 := hE2.len
    generalize ME (h.length + (E1.length + 4)) X.length = M2 at hM2 hN2m hLM
    clear hL2 hLM
    repeat' (first | simp -implicitDefEqProofs only [Ab.R1, Ab.R2, Ab.R3, Ab.R4, Ab.R5, Ab.RH, Ab.RM, Ab.binV, Ab.binC, Nat.reduceLT, Nat.reduceBEq, Nat.reduceAdd, Nat.reduceMul, Nat.reduceEqDiff, Nat.reduceLeDiff, Nat.reduceSub, List.getElem?_cons_zero, List.getElem?_cons_succ, List.getElem?_nil, Option.getD_some, Option.getD_none, if_true, if_false, reduceIte, Option.map_some, Option.map_none, Option.bind_some, Option.bind_none, Option.isSome_some, List.map_cons, List.map_nil, AV.cells, List.length_cons, List.length_nil, List.all_cons, List.all_nil, AV.one, Value.oneCell', ne_eq, reduceCtorEq, Int.reduceNeg, Int.reduceEq, Int.reduceNe, Int.reduceAdd, Int.reduceSub, Int.reduceMul, Int.reduceLT, Int.reduceLE, Int.reduceToNat, List.drop_zero, List.take_zero, List.drop_succ_cons, List.take_succ_cons, List.nil_append, List.cons_append, List.append_nil, List.replicate_zero, List.flatten_nil, List.flatten_cons, List.reduceReplicate, ge_iff_le, gt_iff_lt, eq_self, Nat.add_assoc, facts, *, rd_cons1, rd_cons2, rd_cons3, sz_cons1, sz_cons2, sz_cons3, wr_cons1, wr_cons2, wr_cons3, set_cons1, set_cons2, set_cons3, iotaI_len] | simp (disch := omega) only [Ab.wrap_i64] | ((with_reducible refine Ab.gd_ndec (fun _ => ?_) (fun _ => ?_)) <;> try (exfalso; omega)) | ((with_reducible refine Ab.br_ndec (fun _ => ?_) (fun _ => ?_)) <;> try (exfalso; omega)) | ((with_reducible refine Ab.gd_dec (fun _ => ?_) (fun _ => ?_)) <;> try (exfalso; omega)) | ((with_reducible refine Ab.br_dec (fun _ => ?_) (fun _ => ?_)) <;> try (exfalso; omega)) | (with_reducible refine Ab.run_alt ?_ ?_) | (refine And.intro (by omega) ?_) | (refine gd_split (fun _ => ?_) (fun _ => ?_)) | (refine br_split (fun _ => ?_) (fun _ => ?_)) | (refine cl_same (eqX _ _ _ _ _ (hN2z _ _ _ _) (hN1 _ _ _)) ?_) | (refine cl_same (eqX _ _ _ _ _ (hN2 _ _ _ _ _) (hN1 _ _ _)) ?_) | (refine cl_more ( toEd_ok p xs id hn _ (hrd _)) ?_) | (refine cl_same (eqEd_ok p p xs xs _ _ (by omega) _ (by simp -implicitDefEqProofs only [Ab.app_assoc, Ab.len_app, Ab.sz_newk, Ab.sz_new0, Ab.rd_newk, Ab.rd_new0, Ab.wr_newk, Ab.wr_new0, Ab.set_newk, Ab.set_new0, Ab.sz_cons, Ab.sz_row0, Ab.sz_ro0, Ab.rd_cons, Ab.rd_row, Ab.rd_ro0, Ab.wr_cons, Ab.wr_row, Ab.set_cons_zero, Ab.set_cons_succ, Ab.rowI_len, Ab.rowB_len, Ab.rowS_len, Ab.rowU_len, Nat.add_assoc, List.cons_append, List.nil_append, List.append_nil, List.length_cons, List.length_nil, Nat.reduceAdd, Nat.reduceSub, Nat.reduceEqDiff, Nat.zero_add, Nat.add_zero, Nat.mul_one, Nat.one_mul, if_true, if_false, reduceIte, reduceCtorEq, eq_self, q1, rd_cons1, rd_cons2, rd_cons3, sz_cons1, sz_cons2, sz_cons3, wr_cons1, wr_cons2, wr_cons3, set_cons1, set_cons2, set_cons3]) (by simp -implicitDefEqProofs only [Ab.app_assoc, Ab.len_app, Ab.sz_newk, Ab.sz_new0, Ab.rd_newk, Ab.rd_new0, Ab.wr_newk, Ab.wr_new0, Ab.set_newk, Ab.set_new0, Ab.sz_cons, Ab.sz_row0, Ab.sz_ro0, Ab.rd_cons, Ab.rd_row, Ab.rd_ro0, Ab.wr_cons, Ab.wr_row, Ab.set_cons_zero, Ab.set_cons_succ, Ab.rowI_len, Ab.rowB_len, Ab.rowS_len, Ab.rowU_len, Nat.add_assoc, List.cons_append, List.nil_append, List.append_nil, List.length_cons, List.length_nil, Nat.reduceAdd, Nat.reduceSub, Nat.reduceEqDiff, Nat.zero_add, Nat.add_zero, Nat.mul_one, Nat.one_mul, if_true, if_false, reduceIte, reduceCtorEq, eq_self, q1, rd_cons1, rd_cons2, rd_cons3, sz_cons1, sz_cons2, sz_cons3, wr_cons1, wr_cons2, wr_cons3, set_cons1, set_cons2, set_cons3])) ?_) | (refine cl_use ( markEd_ok p xs _ 1 (by omega) (by omega) _ (by simp -implicitDefEqProofs only [Ab.app_assoc, Ab.len_app, Ab.sz_newk, Ab.sz_new0, Ab.rd_newk, Ab.rd_new0, Ab.wr_newk, Ab.wr_new0, Ab.set_newk, Ab.set_new0, Ab.sz_cons, Ab.sz_row0, Ab.sz_ro0, Ab.rd_cons, Ab.rd_row, Ab.rd_ro0, Ab.wr_cons, Ab.wr_row, Ab.set_cons_zero, Ab.set_cons_succ, Ab.rowI_len, Ab.rowB_len, Ab.rowS_len, Ab.rowU_len, Nat.add_assoc, List.cons_append, List.nil_append, List.append_nil, List.length_cons, List.length_nil, Nat.reduceAdd, Nat.reduceSub, Nat.reduceEqDiff, Nat.zero_add, Nat.add_zero, Nat.mul_one, Nat.one_mul, if_true, if_false, reduceIte, reduceCtorEq, eq_self, q1, rd_cons1, rd_cons2, rd_cons3, sz_cons1, sz_cons2, sz_cons3, wr_cons1, wr_cons2, wr_cons3, set_cons1, set_cons2, set_cons3])) (fun hd => by cases hd) ?_) | (refine cl_use ( hM2 _ _ _ _ _) (fun hd => by cases hd) ?_) | (refine cl_same (heldIntSS_ok X.length _ _ (by omega) _ (hN2m _ _ _ _ _)) ?_) | omega)
    refine cl_ex (parts_ex (hs2 _ hn hx _ ?_)) ?_
    · simp -implicitDefEqProofs only [Ab.app_assoc, Ab.len_app, Ab.sz_newk, Ab.sz_new0, Ab.rd_newk, Ab.rd_new0, Ab.wr_newk, Ab.wr_new0, Ab.set_newk, Ab.set_new0, Ab.sz_cons, Ab.sz_row0, Ab.sz_ro0, Ab.rd_cons, Ab.rd_row, Ab.rd_ro0, Ab.wr_cons, Ab.wr_row, Ab.set_cons_zero, Ab.set_cons_succ, Ab.rowI_len, Ab.rowB_len, Ab.rowS_len, Ab.rowU_len, Nat.add_assoc, List.cons_append, List.nil_append, List.append_nil, List.length_cons, List.length_nil, Nat.reduceAdd, Nat.reduceSub, Nat.reduceEqDiff, Nat.zero_add, Nat.add_zero, Nat.mul_one, Nat.one_mul, if_true, if_false, reduceIte, reduceCtorEq, eq_self, q1, rd_cons1, rd_cons2, rd_cons3, sz_cons1, sz_cons2, sz_cons3, wr_cons1, wr_cons2, wr_cons3, set_cons1, set_cons2, set_cons3]
    intro E3 hE3
    replace hE3 := at_ hE3 (m := h.length + (E1.length + (M2.length + 6))) (by simp; try omega)
    have hN3 : ∀ r0 r1 a b c d, NP (h ++ (r0 :: r1 :: (E1 ++ (a :: b :: (M2 ++ (c :: d :: E3)))))) (h.length + (E1.length + (M2.length + 6))) (h.length + (E1.length + (M2.length + 6)) + 1) X := fun r0 r1 a b c d => by
      have := hE3.np (h ++ (r0 :: r1 :: (E1 ++ (a :: b :: (M2 ++ [c, d]))))) [] (by simp; try omega)
      simpa only [List.append_assoc, List.cons_append, List.nil_append, List.append_nil] using this
    repeat' (first | simp -implicitDefEqProofs only [Ab.R1, Ab.R2, Ab.R3, Ab.R4, Ab.R5, Ab.RH, Ab.RM, Ab.binV, Ab.binC, Nat.reduceLT, Nat.reduceBEq, Nat.reduceAdd, Nat.reduceMul, Nat.reduceEqDiff, Nat.reduceLeDiff, Nat.reduceSub, List.getElem?_cons_zero, List.getElem?_cons_succ, List.getElem?_nil, Option.getD_some, Option.getD_none, if_true, if_false, reduceIte, Option.map_some, Option.map_none, Option.bind_some, Option.bind_none, Option.isSome_some, List.map_cons, List.map_nil, AV.cells, List.length_cons, List.length_nil, List.all_cons, List.all_nil, AV.one, Value.oneCell', ne_eq, reduceCtorEq, Int.reduceNeg, Int.reduceEq, Int.reduceNe, Int.reduceAdd, Int.reduceSub, Int.reduceMul, Int.reduceLT, Int.reduceLE, Int.reduceToNat, List.drop_zero, List.take_zero, List.drop_succ_cons, List.take_succ_cons, List.nil_append, List.cons_append, List.append_nil, List.replicate_zero, List.flatten_nil, List.flatten_cons, List.reduceReplicate, ge_iff_le, gt_iff_lt, eq_self, Nat.add_assoc, facts, *, rd_cons1, rd_cons2, rd_cons3, sz_cons1, sz_cons2, sz_cons3, wr_cons1, wr_cons2, wr_cons3, set_cons1, set_cons2, set_cons3, iotaI_len] | simp (disch := omega) only [Ab.wrap_i64] | ((with_reducible refine Ab.gd_ndec (fun _ => ?_) (fun _ => ?_)) <;> try (exfalso; omega)) | ((with_reducible refine Ab.br_ndec (fun _ => ?_) (fun _ => ?_)) <;> try (exfalso; omega)) | ((with_reducible refine Ab.gd_dec (fun _ => ?_) (fun _ => ?_)) <;> try (exfalso; omega)) | ((with_reducible refine Ab.br_dec (fun _ => ?_) (fun _ => ?_)) <;> try (exfalso; omega)) | (with_reducible refine Ab.run_alt ?_ ?_) | (refine And.intro (by omega) ?_) | (refine gd_split (fun _ => ?_) (fun _ => ?_)) | (refine br_split (fun _ => ?_) (fun _ => ?_)) | (refine cl_same (eqX _ _ _ _ _ (hN3 _ _ _ _ _ _) (hN1 _ _ _)) ?_) | (refine cl_same (heldIntSS_ok X.length _ _ (by omega) _ (hN2m _ _ _ _ _)) ?_) | omega)
    all_goals simp_all
  · rw [if_neg hn] at hsz
    repeat' (first | simp -implicitDefEqProofs only [Ab.R1, Ab.R2, Ab.R3, Ab.R4, Ab.R5, Ab.RH, Ab.RM, Ab.binV, Ab.binC, Nat.reduceLT, Nat.reduceBEq, Nat.reduceAdd, Nat.reduceMul, Nat.reduceEqDiff, Nat.reduceLeDiff, Nat.reduceSub, List.getElem?_cons_zero, List.getElem?_cons_succ, List.getElem?_nil, Option.getD_some, Option.getD_none, if_true, if_false, reduceIte, Option.map_some, Option.map_none, Option.bind_some, Option.bind_none, Option.isSome_some, List.map_cons, List.map_nil, AV.cells, List.length_cons, List.length_nil, List.all_cons, List.all_nil, AV.one, Value.oneCell', ne_eq, reduceCtorEq, Int.reduceNeg, Int.reduceEq, Int.reduceNe, Int.reduceAdd, Int.reduceSub, Int.reduceMul, Int.reduceLT, Int.reduceLE, Int.reduceToNat, List.drop_zero, List.take_zero, List.drop_succ_cons, List.take_succ_cons, List.nil_append, List.cons_append, List.append_nil, List.replicate_zero, List.flatten_nil, List.flatten_cons, List.reduceReplicate, ge_iff_le, gt_iff_lt, eq_self, Nat.add_assoc, facts, *] | simp (disch := omega) only [Ab.wrap_i64] | ((with_reducible refine Ab.gd_ndec (fun _ => ?_) (fun _ => ?_)) <;> try (exfalso; omega)) | ((with_reducible refine Ab.br_ndec (fun _ => ?_) (fun _ => ?_)) <;> try (exfalso; omega)) | ((with_reducible refine Ab.gd_dec (fun _ => ?_) (fun _ => ?_)) <;> try (exfalso; omega)) | ((with_reducible refine Ab.br_dec (fun _ => ?_) (fun _ => ?_)) <;> try (exfalso; omega)) | (with_reducible refine Ab.run_alt ?_ ?_) | (refine And.intro (by omega) ?_) | (refine gd_split (fun _ => ?_) (fun _ => ?_)) | (refine br_split (fun _ => ?_) (fun _ => ?_)) | (refine cl_same (hsz _ (hsd _)) ?_) | omega)
end Go.Proofs.Ytdpopimpdhgfaaa
