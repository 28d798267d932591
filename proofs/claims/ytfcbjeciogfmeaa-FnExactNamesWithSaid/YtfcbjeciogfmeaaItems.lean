/- Lists of items of a catalog: copying, comparing. -/
import Derived.Test.YtfcbjeciogfmeaaAb32
import Derived.Test.YtfcbjeciogfmeaaSzC
namespace Go.Proofs.Ytfcbjeciogfmeaa
set_option maxRecDepth 20000
set_option linter.unusedSimpArgs false
set_option linter.unusedVariables false
open Go Go.Ab

abbrev It := ByteArray × Int × Int × List ByteArray
abbrev fI (p : It × Nat) : List AV := [VS p.1.1, VI p.1.2.1, VI p.1.2.2.1, .own p.2 1 p.1.2.2.2.length]
abbrev gI (p : It × Nat) : List AV := [VS p.1.1, VI p.1.2.1, VI p.1.2.2.1, .sub p.2 p.1.2.2.2.length 1 0 p.1.2.2.2.length]
abbrev inI (j : It) : List AV := rowS j.2.2.2
theorem fI_len (p : It × Nat) : (fI p).length = 4 := rfl
theorem gI_len (p : It × Nat) : (gI p).length = 4 := rfl
abbrev NI (h : Heap) (id : Nat) (js : List It) : Prop := NOk fI inI 4 h id js
theorem fI_seg {zs : List (It × Nat)} {k : Nat} : List.take 4 (List.drop (k * 4) (rowOf fI zs)) = (zs[k]?.map fI).getD [] := rowOf_seg2 fI_len
theorem fI_at {zs : List (It × Nat)} {k j : Nat} (hj : j < 4) : (rowOf fI zs)[k * 4 + j]? = zs[k]?.bind fun a => (fI a)[j]? := rowOf_at fI_len hj
theorem fI_at0 {zs : List (It × Nat)} {k : Nat} : (rowOf fI zs)[k * 4]? = zs[k]?.bind fun a => (fI a)[0]? := rowOf_at0 fI_len (by decide)
theorem gI_seg {zs : List (It × Nat)} {k : Nat} : List.take 4 (List.drop (k * 4) (rowOf gI zs)) = (zs[k]?.map gI).getD [] := rowOf_seg2 gI_len
theorem fI_row (zs : List (It × Nat)) : (rowOf fI zs).length = zs.length * 4 := rowOf_len fI_len zs
abbrev blkI (b : Nat) (js : List It) : Heap := blksN fI inI 65 4 9 b js


theorem toItem_ok (j : It) (i : Nat) (hn : j.2.2.2.length ≤ 1048576) (h : Heap) (hr : rd h i j.2.2.2.length = some (rowS j.2.2.2)) :
    AC Try.prog 41 [.agg (gI (j, i))] h fun r h' => r = .agg (fI (j, h.length)) ∧ h' = h ++ [rowT j.2.2.2] := by
  obtain ⟨nm, d, f, xs⟩ := j
  dsimp only at hn hr ⊢
  refine AC.row1 3 (fun i => .agg (fI ((nm, d, f, xs), i))) (rowT xs) (fun _ _ => rfl) (by simp [AV.ok, okAll, refOk, csz, rowS_len]) (fun h => rowS_ok h _) (fun ρ => ren_rowS ρ xs) ?_
  refine AC_go mixed ok41 (by simp) fun hc _ => ?_
  unfold L41
  have hrd : ∀ l, rd (h ++ l) i xs.length = some (rowS xs) := fun l => rd_old hr l
  have hsd : ∀ l, sz (h ++ l) i = some xs.length := fun l => sz_old hr l
  repeat' (first | simp -implicitDefEqProofs only [Ab.R1, Ab.R2, Ab.R3, Ab.R4, Ab.R5, Ab.RH, Ab.RM, Ab.binV, Ab.binC, Nat.reduceLT, Nat.reduceBEq, Nat.reduceAdd, Nat.reduceMul, Nat.reduceEqDiff, Nat.reduceLeDiff, Nat.reduceSub, List.getElem?_cons_zero, List.getElem?_cons_succ, List.getElem?_nil, Option.getD_some, Option.getD_none, if_true, if_false, reduceIte, Option.map_some, Option.map_none, Option.bind_some, Option.bind_none, Option.isSome_some, List.map_cons, List.map_nil, AV.cells, List.length_cons, List.length_nil, List.all_cons, List.all_nil, AV.one, Value.oneCell', ne_eq, reduceCtorEq, Int.reduceNeg, Int.reduceEq, Int.reduceNe, Int.reduceAdd, Int.reduceSub, Int.reduceMul, Int.reduceLT, Int.reduceLE, Int.reduceToNat, List.drop_zero, List.take_zero, List.drop_succ_cons, List.take_succ_cons, List.nil_append, List.cons_append, List.append_nil, List.replicate_zero, List.flatten_nil, List.flatten_cons, List.reduceReplicate, ge_iff_le, gt_iff_lt, eq_self, Nat.add_assoc, facts, *] | simp (disch := omega) only [Ab.wrap_i64] | ((with_reducible refine Ab.gd_ndec (fun _ => ?_) (fun _ => ?_)) <;> try (exfalso; omega)) | ((with_reducible refine Ab.br_ndec (fun _ => ?_) (fun _ => ?_)) <;> try (exfalso; omega)) | ((with_reducible refine Ab.gd_dec (fun _ => ?_) (fun _ => ?_)) <;> try (exfalso; omega)) | ((with_reducible refine Ab.br_dec (fun _ => ?_) (fun _ => ?_)) <;> try (exfalso; omega)) | (refine And.intro (by omega) ?_) | (refine gd_split (fun _ => ?_) (fun _ => ?_)) | (refine br_split (fun _ => ?_) (fun _ => ?_)) | (refine cl_more ( toCard_ok d f xs i hn _ (hrd _)) ?_) | omega)
  exact ⟨_, rfl, rfl⟩

abbrev zI : List AV := [VS ⟨#[]⟩, VI 0, VI 0, .raw (.slice none 0 0)]
theorem toItemS_ok (js : List It) (id : Nat) (hn : js.length ≤ 1048576) (hm : ∀ j ∈ js, j.2.2.2.length ≤ 1048576) (h : Heap) (hr : NOk gI inI 4 h id js) :
    AC Try.prog 19 [.sub id (js.length * 4) 4 0 js.length] h fun r h' => r = .own h.length 4 js.length ∧ h' = h ++ blkI h.length js := by
  obtain ⟨ids, hr⟩ := hr
  refine AC_go mixed ok19 (by simp) fun hc _ => ?_
  unfold L19
  have hsz := hr.sz
  repeat' (first | simp -implicitDefEqProofs only [Ab.R1, Ab.R2, Ab.R3, Ab.R4, Ab.R5, Ab.RH, Ab.RM, Ab.binV, Ab.binC, Nat.reduceLT, Nat.reduceBEq, Nat.reduceAdd, Nat.reduceMul, Nat.reduceEqDiff, Nat.reduceLeDiff, Nat.reduceSub, List.getElem?_cons_zero, List.getElem?_cons_succ, List.getElem?_nil, Option.getD_some, Option.getD_none, if_true, if_false, reduceIte, Option.map_some, Option.map_none, Option.bind_some, Option.bind_none, Option.isSome_some, List.map_cons, List.map_nil, AV.cells, List.length_cons, List.length_nil, List.all_cons, List.all_nil, AV.one, Value.oneCell', ne_eq, reduceCtorEq, Int.reduceNeg, Int.reduceEq, Int.reduceNe, Int.reduceAdd, Int.reduceSub, Int.reduceMul, Int.reduceLT, Int.reduceLE, Int.reduceToNat, List.drop_zero, List.take_zero, List.drop_succ_cons, List.take_succ_cons, List.nil_append, List.cons_append, List.append_nil, List.replicate_zero, List.flatten_nil, List.flatten_cons, List.reduceReplicate, ge_iff_le, gt_iff_lt, eq_self, Nat.add_assoc, facts, *] | simp (disch := omega) only [Ab.wrap_i64] | ((with_reducible refine Ab.gd_ndec (fun _ => ?_) (fun _ => ?_)) <;> try (exfalso; omega)) | ((with_reducible refine Ab.br_ndec (fun _ => ?_) (fun _ => ?_)) <;> try (exfalso; omega)) | ((with_reducible refine Ab.gd_dec (fun _ => ?_) (fun _ => ?_)) <;> try (exfalso; omega)) | ((with_reducible refine Ab.br_dec (fun _ => ?_) (fun _ => ?_)) <;> try (exfalso; omega)) | (refine And.intro (by omega) ?_) | (refine gd_split (fun _ => ?_) (fun _ => ?_)) | (refine br_split (fun _ => ?_) (fun _ => ?_)) | omega)
  rw [show (List.replicate js.length [VS ⟨#[]⟩, VI 0, VI 0, .raw (.slice none 0 0)]).flatten = rowOf (optF fI zI) (List.replicate js.length none) from optF_zeros (f := fI) (z := zI) js.length]
  have hzl : (js.zip (List.range' (h.length + 1) js.length)).length = js.length := zip_len
  generalize hzs : js.zip (List.range' (h.length + 1) js.length) = zs at hzl
  have hzg : ∀ (k : Nat) j, js[k]? = some j → zs[k]? = some (j, h.length + (k + 1)) := fun k j hk => by
    rw [← hzs, List.getElem?_zip_eq_some]
    refine ⟨hk, ?_⟩
    rw [List.getElem?_range' (some_lt hk)]
    simp; omega
  have hF : ∀ p, (optF fI zI p).length = 4 := optF_len fI_len rfl
  refine lw_loopS K19b0 (fun i : Nat => [(4, VI i)]) (fun i => h ++ (⟨.row 65 4, rowOf (optF fI zI) (front zs i)⟩ :: (js.take i).map fun j => rowT j.2.2.2)) (fun i => i ≤ js.length) (fun i => js.length - i)
    0 (by omega) (by rw [front_zero, hzl]; rfl) (by simp -implicitDefEqProofs only [Ab.R1, Ab.R2, Ab.R3, Ab.R4, Ab.R5, Ab.RH, Ab.RM, Ab.binV, Ab.binC, Nat.reduceLT, Nat.reduceBEq, Nat.reduceAdd, Nat.reduceMul, Nat.reduceEqDiff, Nat.reduceLeDiff, Nat.reduceSub, List.getElem?_cons_zero, List.getElem?_cons_succ, List.getElem?_nil, Option.getD_some, Option.getD_none, if_true, if_false, reduceIte, Option.map_some, Option.map_none, Option.bind_some, Option.bind_none, Option.isSome_some, List.map_cons, List.map_nil, AV.cells, List.length_cons, List.length_nil, List.all_cons, List.all_nil, AV.one, Value.oneCell', ne_eq, reduceCtorEq, Int.reduceNeg, Int.reduceEq, Int.reduceNe, Int.reduceAdd, Int.reduceSub, Int.reduceMul, Int.reduceLT, Int.reduceLE, Int.reduceToNat, List.drop_zero, List.take_zero, List.drop_succ_cons, List.take_succ_cons, List.nil_append, List.cons_append, List.append_nil, List.replicate_zero, List.flatten_nil, List.flatten_cons, List.reduceReplicate, ge_iff_le, gt_iff_lt, eq_self, Nat.add_assoc, facts]; rfl) ?_ ?_
  · intro hc' i hi
    refine ⟨closedH_append hc fun b hb => ?_, ?_, ?_⟩
    · rcases List.mem_cons.1 hb with rfl | hb
      · rw [okAll_iff]
        intro d hd
        simp only [rowOf, List.mem_flatMap] at hd
        obtain ⟨p, hp, hd⟩ := hd
        cases p with
        | none => simp [optF] at hd; first | (rcases hd with rfl | rfl | rfl | rfl <;> rfl) | (rcases hd with rfl | rfl | rfl <;> rfl) | (rcases hd with rfl | rfl <;> rfl)
        | some p =>
          simp only [front, List.mem_append, List.mem_map, Option.some.injEq, List.mem_replicate, reduceCtorEq, and_false, or_false, exists_eq_right] at hp
          obtain ⟨k, hk⟩ := List.getElem?_of_mem hp
          have hkl := some_lt hk
          simp only [List.length_take] at hkl
          rw [List.getElem?_take_of_lt (by omega)] at hk
          obtain ⟨j, hj⟩ := some_at (show k < js.length by omega)
          rw [hzg k j hj] at hk
          injection hk with hk; subst hk
          simp only [optF, List.mem_cons, List.not_mem_nil, or_false] at hd
          rcases hd with rfl | rfl | rfl | rfl
          · rfl
          · rfl
          · rfl
          · have hg : (List.take i (List.map (fun j : It => rowT j.2.2.2) js))[k]? = some (rowT j.2.2.2) := by
              rw [List.getElem?_take_of_lt (by omega), List.getElem?_map, hj]; rfl
            simp [AV.ok, refOk, csz, get_new, hg, rowS_len]
      · simp only [List.mem_map] at hb
        obtain ⟨j, _, rfl⟩ := hb
        exact rowS_ok _ _
    · refine LeB.le ?_
      rw [leB_cons, leB_nil]
      exact ⟨by simp only [rowOf_len hF, front_len (show i ≤ zs.length by omega), List.length_replicate, hzl]; exact Nat.le_refl _, trivial⟩
    · simp [AV.ok]
  · intro i hi _
    refine lw_run mixed ?_
    unfold L19b0 K19b0
    have hfl := front_len (show i ≤ zs.length by omega)
    have hRl : (rowOf (optF fI zI) (front zs i)).length = js.length * 4 := by rw [rowOf_len hF, hfl, hzl]
    have hsd : ∀ l, sz (h ++ l) id = some (js.length * 4) := fun l => sz_sub (Heap.sub_append _ _) hsz
    have hrd : ∀ l, rd (h ++ l) id (js.length * 4) = some (rowOf gI (js.zip ids)) := fun l => rd_old hr.row l
    have hGl : (rowOf gI (js.zip ids)).length = js.length * 4 := by rw [rowOf_len gI_len]; simp [hr.len]
    have hml : (List.map (fun j : It => rowT j.2.2.2) (List.take i js)).length = i := by simp; omega
    rcases Nat.lt_or_ge i js.length with hlt | hge
    · obtain ⟨j, hj⟩ := some_at hlt
      obtain ⟨i0, _, hz0, hr0⟩ := hr.elt hj
      rw [rowS_len] at hr0
      have hz1 := hzg i j hj
      have hset := rowOf_set hF (xs := front zs i) (k := i) (by omega) (some (j, h.length + (i + 1)))
      rw [front_set hz1] at hset
      have htk : (List.take (i + 1) js).map (fun j : It => rowT j.2.2.2) = (List.take i js).map (fun j : It => rowT j.2.2.2) ++ [rowT j.2.2.2] := by rw [take_snoc hj]; simp
      generalize hM : (List.take i js).map (fun j : It => rowT j.2.2.2) = M at *
      simp only [optF] at hset
      repeat' (first | simp -implicitDefEqProofs only [Ab.R1, Ab.R2, Ab.R3, Ab.R4, Ab.R5, Ab.RH, Ab.RM, Ab.binV, Ab.binC, Nat.reduceLT, Nat.reduceBEq, Nat.reduceAdd, Nat.reduceMul, Nat.reduceEqDiff, Nat.reduceLeDiff, Nat.reduceSub, List.getElem?_cons_zero, List.getElem?_cons_succ, List.getElem?_nil, Option.getD_some, Option.getD_none, if_true, if_false, reduceIte, Option.map_some, Option.map_none, Option.bind_some, Option.bind_none, Option.isSome_some, List.map_cons, List.map_nil, AV.cells, List.length_cons, List.length_nil, List.all_cons, List.all_nil, AV.one, Value.oneCell', ne_eq, reduceCtorEq, Int.reduceNeg, Int.reduceEq, Int.reduceNe, Int.reduceAdd, Int.reduceSub, Int.reduceMul, Int.reduceLT, Int.reduceLE, Int.reduceToNat, List.drop_zero, List.take_zero, List.drop_succ_cons, List.take_succ_cons, List.nil_append, List.cons_append, List.append_nil, List.replicate_zero, List.flatten_nil, List.flatten_cons, List.reduceReplicate, ge_iff_le, gt_iff_lt, eq_self, Nat.add_assoc, facts, *, gI_seg] | simp (disch := omega) only [Ab.wrap_i64] | ((with_reducible refine Ab.gd_ndec (fun _ => ?_) (fun _ => ?_)) <;> try (exfalso; omega)) | ((with_reducible refine Ab.br_ndec (fun _ => ?_) (fun _ => ?_)) <;> try (exfalso; omega)) | ((with_reducible refine Ab.gd_dec (fun _ => ?_) (fun _ => ?_)) <;> try (exfalso; omega)) | ((with_reducible refine Ab.br_dec (fun _ => ?_) (fun _ => ?_)) <;> try (exfalso; omega)) | (refine And.intro (by omega) ?_) | (refine gd_split (fun _ => ?_) (fun _ => ?_)) | (refine br_split (fun _ => ?_) (fun _ => ?_)) | (refine cl_more ( toItem_ok j i0 (hm j (List.mem_of_getElem? hj)) _ (rd_old hr0 _)) ?_) | omega)
      refine ⟨i + 1, [], by omega, by omega, ?_, by omega⟩
      rw [htk]; simp
    · obtain rfl : i = js.length := by omega
      repeat' (first | simp -implicitDefEqProofs only [Ab.R1, Ab.R2, Ab.R3, Ab.R4, Ab.R5, Ab.RH, Ab.RM, Ab.binV, Ab.binC, Nat.reduceLT, Nat.reduceBEq, Nat.reduceAdd, Nat.reduceMul, Nat.reduceEqDiff, Nat.reduceLeDiff, Nat.reduceSub, List.getElem?_cons_zero, List.getElem?_cons_succ, List.getElem?_nil, Option.getD_some, Option.getD_none, if_true, if_false, reduceIte, Option.map_some, Option.map_none, Option.bind_some, Option.bind_none, Option.isSome_some, List.map_cons, List.map_nil, AV.cells, List.length_cons, List.length_nil, List.all_cons, List.all_nil, AV.one, Value.oneCell', ne_eq, reduceCtorEq, Int.reduceNeg, Int.reduceEq, Int.reduceNe, Int.reduceAdd, Int.reduceSub, Int.reduceMul, Int.reduceLT, Int.reduceLE, Int.reduceToNat, List.drop_zero, List.take_zero, List.drop_succ_cons, List.take_succ_cons, List.nil_append, List.cons_append, List.append_nil, List.replicate_zero, List.flatten_nil, List.flatten_cons, List.reduceReplicate, ge_iff_le, gt_iff_lt, eq_self, Nat.add_assoc, facts, *] | simp (disch := omega) only [Ab.wrap_i64] | ((with_reducible refine Ab.gd_ndec (fun _ => ?_) (fun _ => ?_)) <;> try (exfalso; omega)) | ((with_reducible refine Ab.br_ndec (fun _ => ?_) (fun _ => ?_)) <;> try (exfalso; omega)) | ((with_reducible refine Ab.gd_dec (fun _ => ?_) (fun _ => ?_)) <;> try (exfalso; omega)) | ((with_reducible refine Ab.br_dec (fun _ => ?_) (fun _ => ?_)) <;> try (exfalso; omega)) | (refine And.intro (by omega) ?_) | (refine gd_split (fun _ => ?_) (fun _ => ?_)) | (refine br_split (fun _ => ?_) (fun _ => ?_)) | omega)
      rw [List.take_length, ← hzl, front_all, optF_row, ← hzs]
      rfl

theorem NI_new (js : List It) (h : Heap) (l : Heap) : NI (h ++ (blkI h.length js ++ l)) h.length js := ⟨_, blksN_at fI_len rfl l⟩

/-- a copy that stands behind: what may be said of it -/
theorem toItemS_E (js : List It) (id : Nat) (hn : js.length ≤ 1048576) (hm : ∀ j ∈ js, j.2.2.2.length ≤ 1048576) (h : Heap) (hr : NOk gI inI 4 h id js) :
    ∃ E, AC Try.prog 19 [.sub id (js.length * 4) 4 0 js.length] h (fun r h' => r = .own h.length 4 js.length ∧ h' = h ++ E) ∧ E = blkI h.length js ∧ ∀ l, NI (h ++ (E ++ l)) h.length js :=
  ⟨_, toItemS_ok js id hn hm h hr, rfl, fun l => NI_new js h l⟩

theorem eqItem_ok (a b : It) (ia ib : Nat) (hx : a.2.2.2.length ≤ 4194304) (h : Heap) (ha : rd h ia a.2.2.2.length = some (rowS a.2.2.2)) (hb : rd h ib b.2.2.2.length = some (rowS b.2.2.2)) :
    AC Try.prog 44 [.agg (fI (a, ia)), .agg (fI (b, ib))] h fun r h' => r = VB (decide (a = b)) ∧ h' = h := by
  obtain ⟨n1, d1, f1, xs⟩ := a
  obtain ⟨n2, d2, f2, ys⟩ := b
  dsimp only at hx ha hb ⊢
  refine AC.plain ?_
  refine AC_go mixed ok44 (by simp) fun hc _ => ?_
  unfold L44
  have hcall := fun H => eqCard_ok d1 f1 d2 f2 xs ys ia ib hx H
  by_cases hn : n1 = n2
  · subst hn
    have hq := bEq_self n1
    have hh : decide ((n1, d1, f1, xs) = (n1, d2, f2, ys)) = (decide (d1 = d2) && decide (f1 = f2) && decide (xs = ys)) := by simp [Prod.mk.injEq, Bool.and_assoc]
    rw [hh]
    generalize (decide (d1 = d2) && decide (f1 = f2) && decide (xs = ys)) = z at *
    repeat' (first | simp -implicitDefEqProofs only [Ab.R1, Ab.R2, Ab.R3, Ab.R4, Ab.R5, Ab.RH, Ab.RM, Ab.binV, Ab.binC, Nat.reduceLT, Nat.reduceBEq, Nat.reduceAdd, Nat.reduceMul, Nat.reduceEqDiff, Nat.reduceLeDiff, Nat.reduceSub, List.getElem?_cons_zero, List.getElem?_cons_succ, List.getElem?_nil, Option.getD_some, Option.getD_none, if_true, if_false, reduceIte, Option.map_some, Option.map_none, Option.bind_some, Option.bind_none, Option.isSome_some, List.map_cons, List.map_nil, AV.cells, List.length_cons, List.length_nil, List.all_cons, List.all_nil, AV.one, Value.oneCell', ne_eq, reduceCtorEq, Int.reduceNeg, Int.reduceEq, Int.reduceNe, Int.reduceAdd, Int.reduceSub, Int.reduceMul, Int.reduceLT, Int.reduceLE, Int.reduceToNat, List.drop_zero, List.take_zero, List.drop_succ_cons, List.take_succ_cons, List.nil_append, List.cons_append, List.append_nil, List.replicate_zero, List.flatten_nil, List.flatten_cons, List.reduceReplicate, ge_iff_le, gt_iff_lt, eq_self, Nat.add_assoc, facts, *] | simp (disch := omega) only [Ab.wrap_i64] | ((with_reducible refine Ab.gd_ndec (fun _ => ?_) (fun _ => ?_)) <;> try (exfalso; omega)) | ((with_reducible refine Ab.br_ndec (fun _ => ?_) (fun _ => ?_)) <;> try (exfalso; omega)) | ((with_reducible refine Ab.gd_dec (fun _ => ?_) (fun _ => ?_)) <;> try (exfalso; omega)) | ((with_reducible refine Ab.br_dec (fun _ => ?_) (fun _ => ?_)) <;> try (exfalso; omega)) | (refine And.intro (by omega) ?_) | (refine gd_split (fun _ => ?_) (fun _ => ?_)) | (refine br_split (fun _ => ?_) (fun _ => ?_)) | (refine cl_same (hcall _ (rd_old ha _) (rd_old hb _)) ?_) | omega)
    all_goals first | exact ⟨_, rfl⟩ | (refine ⟨?_, _, rfl⟩; simp_all)
  · have hq := bEq_ne hn
    have hh : decide ((n1, d1, f1, xs) = (n2, d2, f2, ys)) = false := by simp [hn]
    rw [hh]
    repeat' (first | simp -implicitDefEqProofs only [Ab.R1, Ab.R2, Ab.R3, Ab.R4, Ab.R5, Ab.RH, Ab.RM, Ab.binV, Ab.binC, Nat.reduceLT, Nat.reduceBEq, Nat.reduceAdd, Nat.reduceMul, Nat.reduceEqDiff, Nat.reduceLeDiff, Nat.reduceSub, List.getElem?_cons_zero, List.getElem?_cons_succ, List.getElem?_nil, Option.getD_some, Option.getD_none, if_true, if_false, reduceIte, Option.map_some, Option.map_none, Option.bind_some, Option.bind_none, Option.isSome_some, List.map_cons, List.map_nil, AV.cells, List.length_cons, List.length_nil, List.all_cons, List.all_nil, AV.one, Value.oneCell', ne_eq, reduceCtorEq, Int.reduceNeg, Int.reduceEq, Int.reduceNe, Int.reduceAdd, Int.reduceSub, Int.reduceMul, Int.reduceLT, Int.reduceLE, Int.reduceToNat, List.drop_zero, List.take_zero, List.drop_succ_cons, List.take_succ_cons, List.nil_append, List.cons_append, List.append_nil, List.replicate_zero, List.flatten_nil, List.flatten_cons, List.reduceReplicate, ge_iff_le, gt_iff_lt, eq_self, Nat.add_assoc, facts, *] | simp (disch := omega) only [Ab.wrap_i64] | ((with_reducible refine Ab.gd_ndec (fun _ => ?_) (fun _ => ?_)) <;> try (exfalso; omega)) | ((with_reducible refine Ab.br_ndec (fun _ => ?_) (fun _ => ?_)) <;> try (exfalso; omega)) | ((with_reducible refine Ab.gd_dec (fun _ => ?_) (fun _ => ?_)) <;> try (exfalso; omega)) | ((with_reducible refine Ab.br_dec (fun _ => ?_) (fun _ => ?_)) <;> try (exfalso; omega)) | (refine And.intro (by omega) ?_) | (refine gd_split (fun _ => ?_) (fun _ => ?_)) | (refine br_split (fun _ => ?_) (fun _ => ?_)) | omega)
    all_goals exact ⟨_, rfl⟩

theorem eqItemS_ok (xs ys : List It) (ida idb : Nat) (hx : xs.length ≤ 1048576) (hm : ∀ j ∈ xs, j.2.2.2.length ≤ 1048576) (h : Heap) (ha : NI h ida xs) (hb : NI h idb ys) :
    AC Try.prog 21 [.own ida 4 xs.length, .own idb 4 ys.length] h fun r h' => r = VB (decide (xs = ys)) ∧ h' = h := by
  obtain ⟨ia, ha⟩ := ha
  obtain ⟨ib, hb⟩ := hb
  refine AC_go mixed ok21 (by simp) fun hc _ => ?_
  unfold L21
  have hsa := ha.sz
  have hsb := hb.sz
  repeat' (first | simp -implicitDefEqProofs only [Ab.R1, Ab.R2, Ab.R3, Ab.R4, Ab.R5, Ab.RH, Ab.RM, Ab.binV, Ab.binC, Nat.reduceLT, Nat.reduceBEq, Nat.reduceAdd, Nat.reduceMul, Nat.reduceEqDiff, Nat.reduceLeDiff, Nat.reduceSub, List.getElem?_cons_zero, List.getElem?_cons_succ, List.getElem?_nil, Option.getD_some, Option.getD_none, if_true, if_false, reduceIte, Option.map_some, Option.map_none, Option.bind_some, Option.bind_none, Option.isSome_some, List.map_cons, List.map_nil, AV.cells, List.length_cons, List.length_nil, List.all_cons, List.all_nil, AV.one, Value.oneCell', ne_eq, reduceCtorEq, Int.reduceNeg, Int.reduceEq, Int.reduceNe, Int.reduceAdd, Int.reduceSub, Int.reduceMul, Int.reduceLT, Int.reduceLE, Int.reduceToNat, List.drop_zero, List.take_zero, List.drop_succ_cons, List.take_succ_cons, List.nil_append, List.cons_append, List.append_nil, List.replicate_zero, List.flatten_nil, List.flatten_cons, List.reduceReplicate, ge_iff_le, gt_iff_lt, eq_self, Nat.add_assoc, facts, *] | simp (disch := omega) only [Ab.wrap_i64] | ((with_reducible refine Ab.gd_ndec (fun _ => ?_) (fun _ => ?_)) <;> try (exfalso; omega)) | ((with_reducible refine Ab.br_ndec (fun _ => ?_) (fun _ => ?_)) <;> try (exfalso; omega)) | ((with_reducible refine Ab.gd_dec (fun _ => ?_) (fun _ => ?_)) <;> try (exfalso; omega)) | ((with_reducible refine Ab.br_dec (fun _ => ?_) (fun _ => ?_)) <;> try (exfalso; omega)) | (refine And.intro (by omega) ?_) | (refine gd_split (fun _ => ?_) (fun _ => ?_)) | (refine br_split (fun _ => ?_) (fun _ => ?_)) | omega)
  · exact (dec_ne_len (by omega)).symm
  · refine lw_loopS K21b0 (fun i : Nat => [(5, VI i)]) (fun _ => h) (fun i => i ≤ xs.length ∧ xs.take i = ys.take i) (fun i => xs.length - i) 0 ⟨by omega, rfl⟩ rfl (by simp -implicitDefEqProofs only [Ab.R1, Ab.R2, Ab.R3, Ab.R4, Ab.R5, Ab.RH, Ab.RM, Ab.binV, Ab.binC, Nat.reduceLT, Nat.reduceBEq, Nat.reduceAdd, Nat.reduceMul, Nat.reduceEqDiff, Nat.reduceLeDiff, Nat.reduceSub, List.getElem?_cons_zero, List.getElem?_cons_succ, List.getElem?_nil, Option.getD_some, Option.getD_none, if_true, if_false, reduceIte, Option.map_some, Option.map_none, Option.bind_some, Option.bind_none, Option.isSome_some, List.map_cons, List.map_nil, AV.cells, List.length_cons, List.length_nil, List.all_cons, List.all_nil, AV.one, Value.oneCell', ne_eq, reduceCtorEq, Int.reduceNeg, Int.reduceEq, Int.reduceNe, Int.reduceAdd, Int.reduceSub, Int.reduceMul, Int.reduceLT, Int.reduceLE, Int.reduceToNat, List.drop_zero, List.take_zero, List.drop_succ_cons, List.take_succ_cons, List.nil_append, List.cons_append, List.append_nil, List.replicate_zero, List.flatten_nil, List.flatten_cons, List.reduceReplicate, ge_iff_le, gt_iff_lt, eq_self, Nat.add_assoc, facts]; rfl) (fun _ i _ => .same hc (by simp only [Ab.leB_cons, Ab.leB_nil, Ab.ok_raw, Ab.ok_own, Ab.ok_ptr, Ab.ok_sub, Ab.okAll_nil, Ab.okAll_cons, Ab.refOk_app, Ab.refOk_app0, Ab.okB_zero, Ab.okB_succ, Ab.rowI_ok, Ab.rowB_ok, Ab.rowS_ok, Ab.rowU_ok, Ab.rowI_len, Ab.rowB_len, Ab.rowS_len, Ab.rowU_len, List.mem_cons, List.not_mem_nil, or_false, forall_eq, forall_eq_or_imp, List.forall_mem_cons, List.length_replicate, and_true, true_and, and_self, Nat.le_refl, Nat.zero_le, implies_true, List.length_set, List.length_append, List.length_cons, List.length_nil, List.length_map, Bool.and_true, Bool.true_and, Bool.and_self, decide_true, decide_eq_true_eq] <;> omega)) ?_
    intro i ⟨hi, ht⟩ _
    refine lw_run mixed ?_
    unfold L21b0 K21b0
    have hra := ha.row
    have hrb := hb.row
    have hla := ha.cells_len fI_len
    have hlb := hb.cells_len fI_len
    rcases Nat.lt_or_ge i xs.length with hlt | hge
    · obtain ⟨a, hxa⟩ := some_at hlt
      obtain ⟨b, hyb⟩ := some_at (show i < ys.length by omega)
      obtain ⟨ka, _, hza, hka⟩ := ha.elt hxa
      obtain ⟨kb, _, hzb, hkb⟩ := hb.elt hyb
      rw [rowS_len] at hka hkb
      have hma := hm a (List.mem_of_getElem? hxa)
      repeat' (first | simp -implicitDefEqProofs only [Ab.R1, Ab.R2, Ab.R3, Ab.R4, Ab.R5, Ab.RH, Ab.RM, Ab.binV, Ab.binC, Nat.reduceLT, Nat.reduceBEq, Nat.reduceAdd, Nat.reduceMul, Nat.reduceEqDiff, Nat.reduceLeDiff, Nat.reduceSub, List.getElem?_cons_zero, List.getElem?_cons_succ, List.getElem?_nil, Option.getD_some, Option.getD_none, if_true, if_false, reduceIte, Option.map_some, Option.map_none, Option.bind_some, Option.bind_none, Option.isSome_some, List.map_cons, List.map_nil, AV.cells, List.length_cons, List.length_nil, List.all_cons, List.all_nil, AV.one, Value.oneCell', ne_eq, reduceCtorEq, Int.reduceNeg, Int.reduceEq, Int.reduceNe, Int.reduceAdd, Int.reduceSub, Int.reduceMul, Int.reduceLT, Int.reduceLE, Int.reduceToNat, List.drop_zero, List.take_zero, List.drop_succ_cons, List.take_succ_cons, List.nil_append, List.cons_append, List.append_nil, List.replicate_zero, List.flatten_nil, List.flatten_cons, List.reduceReplicate, ge_iff_le, gt_iff_lt, eq_self, Nat.add_assoc, facts, *, fI_seg] | simp (disch := omega) only [Ab.wrap_i64] | ((with_reducible refine Ab.gd_ndec (fun _ => ?_) (fun _ => ?_)) <;> try (exfalso; omega)) | ((with_reducible refine Ab.br_ndec (fun _ => ?_) (fun _ => ?_)) <;> try (exfalso; omega)) | ((with_reducible refine Ab.gd_dec (fun _ => ?_) (fun _ => ?_)) <;> try (exfalso; omega)) | ((with_reducible refine Ab.br_dec (fun _ => ?_) (fun _ => ?_)) <;> try (exfalso; omega)) | (refine And.intro (by omega) ?_) | (refine gd_split (fun _ => ?_) (fun _ => ?_)) | (refine br_split (fun _ => ?_) (fun _ => ?_)) | (refine cl_same (eqItem_ok a b ka kb (by omega) _ hka hkb) ?_) | omega)
      · exact (decide_eq_false (differ_at hxa hyb ‹¬ a = b›)).symm
      · refine ⟨i + 1, [], by omega, ⟨by omega, take_more hxa hyb ht ‹a = b›⟩, by simp, by omega⟩
    · repeat' (first | simp -implicitDefEqProofs only [Ab.R1, Ab.R2, Ab.R3, Ab.R4, Ab.R5, Ab.RH, Ab.RM, Ab.binV, Ab.binC, Nat.reduceLT, Nat.reduceBEq, Nat.reduceAdd, Nat.reduceMul, Nat.reduceEqDiff, Nat.reduceLeDiff, Nat.reduceSub, List.getElem?_cons_zero, List.getElem?_cons_succ, List.getElem?_nil, Option.getD_some, Option.getD_none, if_true, if_false, reduceIte, Option.map_some, Option.map_none, Option.bind_some, Option.bind_none, Option.isSome_some, List.map_cons, List.map_nil, AV.cells, List.length_cons, List.length_nil, List.all_cons, List.all_nil, AV.one, Value.oneCell', ne_eq, reduceCtorEq, Int.reduceNeg, Int.reduceEq, Int.reduceNe, Int.reduceAdd, Int.reduceSub, Int.reduceMul, Int.reduceLT, Int.reduceLE, Int.reduceToNat, List.drop_zero, List.take_zero, List.drop_succ_cons, List.take_succ_cons, List.nil_append, List.cons_append, List.append_nil, List.replicate_zero, List.flatten_nil, List.flatten_cons, List.reduceReplicate, ge_iff_le, gt_iff_lt, eq_self, Nat.add_assoc, facts, *] | simp (disch := omega) only [Ab.wrap_i64] | ((with_reducible refine Ab.gd_ndec (fun _ => ?_) (fun _ => ?_)) <;> try (exfalso; omega)) | ((with_reducible refine Ab.br_ndec (fun _ => ?_) (fun _ => ?_)) <;> try (exfalso; omega)) | ((with_reducible refine Ab.gd_dec (fun _ => ?_) (fun _ => ?_)) <;> try (exfalso; omega)) | ((with_reducible refine Ab.br_dec (fun _ => ?_) (fun _ => ?_)) <;> try (exfalso; omega)) | (refine And.intro (by omega) ?_) | (refine gd_split (fun _ => ?_) (fun _ => ?_)) | (refine br_split (fun _ => ?_) (fun _ => ?_)) | omega)
      exact (decide_eq_true (eq_of_len_take (by omega) (by omega) ht)).symm


end Go.Proofs.Ytfcbjeciogfmeaa
