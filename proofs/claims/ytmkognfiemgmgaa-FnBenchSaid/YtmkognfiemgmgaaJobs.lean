/- Lists of jobs: copying, comparing, measuring, testing; one by one. -/
import Derived.Test.YtmkognfiemgmgaaAb32
import Derived.Test.YtmkognfiemgmgaaW1
import Derived.Test.YtmkognfiemgmgaaIntsB
import Derived.Test.YtmkognfiemgmgaaJobsP
namespace Go.Proofs.Ytmkognfiemgmgaa
set_option maxRecDepth 20000
set_option linter.unusedSimpArgs false
set_option linter.unusedVariables false
open Go Go.Ab

abbrev fJ (p : Jb × Nat) : List AV := [VI p.1.1, .own p.2 1 p.1.2.length]
abbrev gJ (p : Jb × Nat) : List AV := [VI p.1.1, .sub p.2 p.1.2.length 1 0 p.1.2.length]
abbrev inJ (j : Jb) : List AV := rowI j.2
theorem fJ_len (p : Jb × Nat) : (fJ p).length = 2 := rfl
theorem gJ_len (p : Jb × Nat) : (gJ p).length = 2 := rfl
abbrev NJ (h : Heap) (id : Nat) (js : List Jb) : Prop := NOk fJ inJ 2 h id js
theorem fJ_seg {zs : List (Jb × Nat)} {k : Nat} : List.take 2 (List.drop (k * 2) (rowOf fJ zs)) = (zs[k]?.map fJ).getD [] := rowOf_seg2 fJ_len
theorem fJ_at {zs : List (Jb × Nat)} {k j : Nat} (hj : j < 2) : (rowOf fJ zs)[k * 2 + j]? = zs[k]?.bind fun a => (fJ a)[j]? := rowOf_at fJ_len hj
theorem fJ_at0 {zs : List (Jb × Nat)} {k : Nat} : (rowOf fJ zs)[k * 2]? = zs[k]?.bind fun a => (fJ a)[0]? := rowOf_at0 fJ_len (by decide)
theorem gJ_seg {zs : List (Jb × Nat)} {k : Nat} : List.take 2 (List.drop (k * 2) (rowOf gJ zs)) = (zs[k]?.map gJ).getD [] := rowOf_seg2 gJ_len
theorem fJ_row (zs : List (Jb × Nat)) : (rowOf fJ zs).length = zs.length * 2 := rowOf_len fJ_len zs
abbrev blkJ (b : Nat) (js : List Jb) : Heap := blksN fJ inJ 40 2 3 b js

theorem toJob_ok (j : Jb) (i : Nat) (hn : j.2.length ≤ 1048576) (h : Heap) (hr : rd h i j.2.length = some (rowI j.2)) :
    AC Try.prog 38 [.agg (gJ (j, i))] h fun r h' => r = .agg (fJ (j, h.length)) ∧ h' = h ++ [rowW j.2] := by
  obtain ⟨hh, xs⟩ := j
  dsimp only at hn hr ⊢
  refine AC.row1 3 (fun i => .agg (fJ ((hh, xs), i))) (rowW xs) (fun _ _ => rfl) (by simp [AV.ok, okAll, refOk, csz, rowI_len]) (fun h => rowI_ok h _) (fun ρ => ren_rowI ρ xs) ?_
  refine AC_go mixed ok38 (by simp) fun hc _ => ?_
  unfold L38
  have hrd : ∀ l, rd (h ++ l) i xs.length = some (rowI xs) := fun l => rd_old hr l
  have hsd : ∀ l, sz (h ++ l) i = some xs.length := fun l => sz_old hr l
  repeat' (first | simp -implicitDefEqProofs only [Ab.R1, Ab.R2, Ab.R3, Ab.R4, Ab.R5, Ab.RH, Ab.RM, Ab.binV, Ab.binC, Nat.reduceLT, Nat.reduceBEq, Nat.reduceAdd, Nat.reduceMul, Nat.reduceEqDiff, Nat.reduceLeDiff, Nat.reduceSub, List.getElem?_cons_zero, List.getElem?_cons_succ, List.getElem?_nil, Option.getD_some, Option.getD_none, if_true, if_false, reduceIte, Option.map_some, Option.map_none, Option.bind_some, Option.bind_none, Option.isSome_some, List.map_cons, List.map_nil, AV.cells, List.length_cons, List.length_nil, List.all_cons, List.all_nil, AV.one, Value.oneCell', ne_eq, reduceCtorEq, Int.reduceNeg, Int.reduceEq, Int.reduceNe, Int.reduceAdd, Int.reduceSub, Int.reduceMul, Int.reduceLT, Int.reduceLE, Int.reduceToNat, List.drop_zero, List.take_zero, List.drop_succ_cons, List.take_succ_cons, List.nil_append, List.cons_append, List.append_nil, List.replicate_zero, List.flatten_nil, List.flatten_cons, List.reduceReplicate, ge_iff_le, gt_iff_lt, eq_self, Nat.add_assoc, facts, *] | simp (disch := omega) only [Ab.wrap_i64] | ((with_reducible refine Ab.gd_ndec (fun _ => ?_) (fun _ => ?_)) <;> try (exfalso; omega)) | ((with_reducible refine Ab.br_ndec (fun _ => ?_) (fun _ => ?_)) <;> try (exfalso; omega)) | ((with_reducible refine Ab.gd_dec (fun _ => ?_) (fun _ => ?_)) <;> try (exfalso; omega)) | ((with_reducible refine Ab.br_dec (fun _ => ?_) (fun _ => ?_)) <;> try (exfalso; omega)) | (with_reducible refine Ab.run_alt ?_ ?_) | (refine And.intro (by omega) ?_) | (refine gd_split (fun _ => ?_) (fun _ => ?_)) | (refine br_split (fun _ => ?_) (fun _ => ?_)) | (refine cl_more ( toIntS_ok xs i hn _ (hrd _)) ?_) | omega)
  exact ⟨_, rfl, rfl⟩

abbrev zJ : List AV := [VI 0, .raw (.slice none 0 0)]
theorem toJobS_ok (js : List Jb) (id : Nat) (hn : js.length ≤ 1048576) (hm : ∀ j ∈ js, j.2.length ≤ 1048576) (h : Heap) (hr : NOk gJ inJ 2 h id js) :
    AC Try.prog 13 [.sub id (js.length * 2) 2 0 js.length] h fun r h' => r = .own h.length 2 js.length ∧ h' = h ++ blkJ h.length js := by
  obtain ⟨ids, hr⟩ := hr
  refine AC_go mixed ok13 (by simp) fun hc _ => ?_
  unfold L13
  have hsz := hr.sz
  repeat' (first | simp -implicitDefEqProofs only [Ab.R1, Ab.R2, Ab.R3, Ab.R4, Ab.R5, Ab.RH, Ab.RM, Ab.binV, Ab.binC, Nat.reduceLT, Nat.reduceBEq, Nat.reduceAdd, Nat.reduceMul, Nat.reduceEqDiff, Nat.reduceLeDiff, Nat.reduceSub, List.getElem?_cons_zero, List.getElem?_cons_succ, List.getElem?_nil, Option.getD_some, Option.getD_none, if_true, if_false, reduceIte, Option.map_some, Option.map_none, Option.bind_some, Option.bind_none, Option.isSome_some, List.map_cons, List.map_nil, AV.cells, List.length_cons, List.length_nil, List.all_cons, List.all_nil, AV.one, Value.oneCell', ne_eq, reduceCtorEq, Int.reduceNeg, Int.reduceEq, Int.reduceNe, Int.reduceAdd, Int.reduceSub, Int.reduceMul, Int.reduceLT, Int.reduceLE, Int.reduceToNat, List.drop_zero, List.take_zero, List.drop_succ_cons, List.take_succ_cons, List.nil_append, List.cons_append, List.append_nil, List.replicate_zero, List.flatten_nil, List.flatten_cons, List.reduceReplicate, ge_iff_le, gt_iff_lt, eq_self, Nat.add_assoc, facts, *] | simp (disch := omega) only [Ab.wrap_i64] | ((with_reducible refine Ab.gd_ndec (fun _ => ?_) (fun _ => ?_)) <;> try (exfalso; omega)) | ((with_reducible refine Ab.br_ndec (fun _ => ?_) (fun _ => ?_)) <;> try (exfalso; omega)) | ((with_reducible refine Ab.gd_dec (fun _ => ?_) (fun _ => ?_)) <;> try (exfalso; omega)) | ((with_reducible refine Ab.br_dec (fun _ => ?_) (fun _ => ?_)) <;> try (exfalso; omega)) | (with_reducible refine Ab.run_alt ?_ ?_) | (refine And.intro (by omega) ?_) | (refine gd_split (fun _ => ?_) (fun _ => ?_)) | (refine br_split (fun _ => ?_) (fun _ => ?_)) | omega)
  rw [show (List.replicate js.length [VI 0, .raw (.slice none 0 0)]).flatten = rowOf (optF fJ zJ) (List.replicate js.length none) from optF_zeros (f := fJ) (z := zJ) js.length]
  have hzl : (js.zip (List.range' (h.length + 1) js.length)).length = js.length := zip_len
  generalize hzs : js.zip (List.range' (h.length + 1) js.length) = zs at hzl
  have hzg : ∀ (k : Nat) j, js[k]? = some j → zs[k]? = some (j, h.length + (k + 1)) := fun k j hk => by
    rw [← hzs, List.getElem?_zip_eq_some]
    refine ⟨hk, ?_⟩
    rw [List.getElem?_range' (some_lt hk)]
    simp; omega
  have hF : ∀ p, (optF fJ zJ p).length = 2 := optF_len fJ_len rfl
  refine lw_loopS K13b0 (fun i : Nat => [(4, VI i)]) (fun i => h ++ (⟨.row 40 2, rowOf (optF fJ zJ) (front zs i)⟩ :: (js.take i).map fun j => rowW j.2)) (fun i => i ≤ js.length) (fun i => js.length - i)
    0 (by omega) (by rw [front_zero, hzl]; rfl) (by simp -implicitDefEqProofs only [Ab.R1, Ab.R2, Ab.R3, Ab.R4, Ab.R5, Ab.RH, Ab.RM, Ab.binV, Ab.binC, Nat.reduceLT, Nat.reduceBEq, Nat.reduceAdd, Nat.reduceMul, Nat.reduceEqDiff, Nat.reduceLeDiff, Nat.reduceSub, List.getElem?_cons_zero, List.getElem?_cons_succ, List.getElem?_nil, Option.getD_some, Option.getD_none, if_true, if_false, reduceIte, Option.map_some, Option.map_none, Option.bind_some, Option.bind_none, Option.isSome_some, List.map_cons, List.map_nil, AV.cells, List.length_cons, List.length_nil, List.all_cons, List.all_nil, AV.one, Value.oneCell', ne_eq, reduceCtorEq, Int.reduceNeg, Int.reduceEq, Int.reduceNe, Int.reduceAdd, Int.reduceSub, Int.reduceMul, Int.reduceLT, Int.reduceLE, Int.reduceToNat, List.drop_zero, List.take_zero, List.drop_succ_cons, List.take_succ_cons, List.nil_append, List.cons_append, List.append_nil, List.replicate_zero, List.flatten_nil, List.flatten_cons, List.reduceReplicate, ge_iff_le, gt_iff_lt, eq_self, Nat.add_assoc, facts]; rfl) ?_ ?_
  · intro hc' i hi
    refine ⟨closedH_append hc fun b hb => ?_, ?_, ?_⟩
    · rcases List.mem_cons.1 hb with rfl | hb
      · rw [okAll_iff]
        intro d hd
        simp only [rowOf, List.mem_flatMap] at hd
        obtain ⟨p, hp, hd⟩ := hd
        cases p with
        | none => simp [optF] at hd; rcases hd with rfl | rfl <;> rfl
        | some p =>
          simp only [front, List.mem_append, List.mem_map, Option.some.injEq, List.mem_replicate, reduceCtorEq, and_false, or_false, exists_eq_right] at hp
          obtain ⟨k, hk⟩ := List.getElem?_of_mem hp
          have hkl := some_lt hk
          simp only [List.length_take] at hkl
          rw [List.getElem?_take_of_lt (by omega)] at hk
          obtain ⟨j, hj⟩ := some_at (show k < js.length by omega)
          rw [hzg k j hj] at hk
          injection hk with hk; subst hk
          simp only [optF, List.mem_cons, List.not_mem_nil, or_false] at hd
          rcases hd with rfl | rfl
          · rfl
          · have hg : (List.take i (List.map (fun j : Jb => rowW j.2) js))[k]? = some (rowW j.2) := by
              rw [List.getElem?_take_of_lt (by omega), List.getElem?_map, hj]; rfl
            simp [AV.ok, refOk, csz, get_new, hg, rowI_len]
      · simp only [List.mem_map] at hb
        obtain ⟨j, _, rfl⟩ := hb
        exact rowI_ok _ _
    · refine LeB.le ?_
      rw [leB_cons, leB_nil]
      exact ⟨by simp only [rowOf_len hF, front_len (show i ≤ zs.length by omega), List.length_replicate, hzl]; exact Nat.le_refl _, trivial⟩
    · simp [AV.ok]
  · intro i hi _
    refine lw_run mixed ?_
    unfold L13b0 K13b0
    have hfl := front_len (show i ≤ zs.length by omega)
    have hRl : (rowOf (optF fJ zJ) (front zs i)).length = js.length * 2 := by rw [rowOf_len hF, hfl, hzl]
    have hsd : ∀ l, sz (h ++ l) id = some (js.length * 2) := fun l => sz_sub (Heap.sub_append _ _) hsz
    have hrd : ∀ l, rd (h ++ l) id (js.length * 2) = some (rowOf gJ (js.zip ids)) := fun l => rd_old hr.row l
    have hGl : (rowOf gJ (js.zip ids)).length = js.length * 2 := by rw [rowOf_len gJ_len]; simp [hr.len]
    have hml : (List.map (fun j : Jb => rowW j.2) (List.take i js)).length = i := by simp; omega
    rcases Nat.lt_or_ge i js.length with hlt | hge
    · obtain ⟨j, hj⟩ := some_at hlt
      obtain ⟨i0, _, hz0, hr0⟩ := hr.elt hj
      rw [rowI_len] at hr0
      have hz1 := hzg i j hj
      have hset := rowOf_set hF (xs := front zs i) (k := i) (by omega) (some (j, h.length + (i + 1)))
      rw [front_set hz1] at hset
      have htk : (List.take (i + 1) js).map (fun j : Jb => rowW j.2) = (List.take i js).map (fun j : Jb => rowW j.2) ++ [rowW j.2] := by rw [take_snoc hj]; simp
      generalize hM : (List.take i js).map (fun j : Jb => rowW j.2) = M at *
      simp only [optF] at hset
      repeat' (first | simp -implicitDefEqProofs only [Ab.R1, Ab.R2, Ab.R3, Ab.R4, Ab.R5, Ab.RH, Ab.RM, Ab.binV, Ab.binC, Nat.reduceLT, Nat.reduceBEq, Nat.reduceAdd, Nat.reduceMul, Nat.reduceEqDiff, Nat.reduceLeDiff, Nat.reduceSub, List.getElem?_cons_zero, List.getElem?_cons_succ, List.getElem?_nil, Option.getD_some, Option.getD_none, if_true, if_false, reduceIte, Option.map_some, Option.map_none, Option.bind_some, Option.bind_none, Option.isSome_some, List.map_cons, List.map_nil, AV.cells, List.length_cons, List.length_nil, List.all_cons, List.all_nil, AV.one, Value.oneCell', ne_eq, reduceCtorEq, Int.reduceNeg, Int.reduceEq, Int.reduceNe, Int.reduceAdd, Int.reduceSub, Int.reduceMul, Int.reduceLT, Int.reduceLE, Int.reduceToNat, List.drop_zero, List.take_zero, List.drop_succ_cons, List.take_succ_cons, List.nil_append, List.cons_append, List.append_nil, List.replicate_zero, List.flatten_nil, List.flatten_cons, List.reduceReplicate, ge_iff_le, gt_iff_lt, eq_self, Nat.add_assoc, facts, *, gJ_seg] | simp (disch := omega) only [Ab.wrap_i64] | ((with_reducible refine Ab.gd_ndec (fun _ => ?_) (fun _ => ?_)) <;> try (exfalso; omega)) | ((with_reducible refine Ab.br_ndec (fun _ => ?_) (fun _ => ?_)) <;> try (exfalso; omega)) | ((with_reducible refine Ab.gd_dec (fun _ => ?_) (fun _ => ?_)) <;> try (exfalso; omega)) | ((with_reducible refine Ab.br_dec (fun _ => ?_) (fun _ => ?_)) <;> try (exfalso; omega)) | (with_reducible refine Ab.run_alt ?_ ?_) | (refine And.intro (by omega) ?_) | (refine gd_split (fun _ => ?_) (fun _ => ?_)) | (refine br_split (fun _ => ?_) (fun _ => ?_)) | (refine cl_more ( toJob_ok j i0 (hm j (List.mem_of_getElem? hj)) _ (rd_old hr0 _)) ?_) | omega)
      refine ⟨i + 1, [], by omega, by omega, ?_, by omega⟩
      rw [htk]; simp
    · obtain rfl : i = js.length := by omega
      repeat' (first | simp -implicitDefEqProofs only [Ab.R1, Ab.R2, Ab.R3, Ab.R4, Ab.R5, Ab.RH, Ab.RM, Ab.binV, Ab.binC, Nat.reduceLT, Nat.reduceBEq, Nat.reduceAdd, Nat.reduceMul, Nat.reduceEqDiff, Nat.reduceLeDiff, Nat.reduceSub, List.getElem?_cons_zero, List.getElem?_cons_succ, List.getElem?_nil, Option.getD_some, Option.getD_none, if_true, if_false, reduceIte, Option.map_some, Option.map_none, Option.bind_some, Option.bind_none, Option.isSome_some, List.map_cons, List.map_nil, AV.cells, List.length_cons, List.length_nil, List.all_cons, List.all_nil, AV.one, Value.oneCell', ne_eq, reduceCtorEq, Int.reduceNeg, Int.reduceEq, Int.reduceNe, Int.reduceAdd, Int.reduceSub, Int.reduceMul, Int.reduceLT, Int.reduceLE, Int.reduceToNat, List.drop_zero, List.take_zero, List.drop_succ_cons, List.take_succ_cons, List.nil_append, List.cons_append, List.append_nil, List.replicate_zero, List.flatten_nil, List.flatten_cons, List.reduceReplicate, ge_iff_le, gt_iff_lt, eq_self, Nat.add_assoc, facts, *] | simp (disch := omega) only [Ab.wrap_i64] | ((with_reducible refine Ab.gd_ndec (fun _ => ?_) (fun _ => ?_)) <;> try (exfalso; omega)) | ((with_reducible refine Ab.br_ndec (fun _ => ?_) (fun _ => ?_)) <;> try (exfalso; omega)) | ((with_reducible refine Ab.gd_dec (fun _ => ?_) (fun _ => ?_)) <;> try (exfalso; omega)) | ((with_reducible refine Ab.br_dec (fun _ => ?_) (fun _ => ?_)) <;> try (exfalso; omega)) | (with_reducible refine Ab.run_alt ?_ ?_) | (refine And.intro (by omega) ?_) | (refine gd_split (fun _ => ?_) (fun _ => ?_)) | (refine br_split (fun _ => ?_) (fun _ => ?_)) | omega)
      rw [List.take_length, ← hzl, front_all, optF_row, ← hzs]
      rfl

theorem NJ_new (js : List Jb) (h : Heap) (l : Heap) : NJ (h ++ (blkJ h.length js ++ l)) h.length js := ⟨_, blksN_at fJ_len rfl l⟩

/-- a copy that stands behind: what may be said of it -/
theorem toJobS_E (js : List Jb) (id : Nat) (hn : js.length ≤ 1048576) (hm : ∀ j ∈ js, j.2.length ≤ 1048576) (h : Heap) (hr : NOk gJ inJ 2 h id js) :
    ∃ E, AC Try.prog 13 [.sub id (js.length * 2) 2 0 js.length] h (fun r h' => r = .own h.length 2 js.length ∧ h' = h ++ E) ∧ E = blkJ h.length js ∧ ∀ l, NJ (h ++ (E ++ l)) h.length js :=
  ⟨_, toJobS_ok js id hn hm h hr, rfl, fun l => NJ_new js h l⟩

theorem eqJob_ok (a b : Jb) (ia ib : Nat) (hx : a.2.length ≤ 4194304) (h : Heap) (ha : rd h ia a.2.length = some (rowI a.2)) (hb : rd h ib b.2.length = some (rowI b.2)) :
    AC Try.prog 40 [.agg (fJ (a, ia)), .agg (fJ (b, ib))] h fun r h' => r = VB (decide (a = b)) ∧ h' = h := by
  refine AC.plain ?_
  refine AC_run mixed ok40 (by simp) ?_
  unfold L40
  have hra : ∀ l, rd (h ++ l) ia a.2.length = some (rowI a.2) := fun l => rd_old ha l
  have hrb : ∀ l, rd (h ++ l) ib b.2.length = some (rowI b.2) := fun l => rd_old hb l
  repeat' (first | simp -implicitDefEqProofs only [Ab.R1, Ab.R2, Ab.R3, Ab.R4, Ab.R5, Ab.RH, Ab.RM, Ab.binV, Ab.binC, Nat.reduceLT, Nat.reduceBEq, Nat.reduceAdd, Nat.reduceMul, Nat.reduceEqDiff, Nat.reduceLeDiff, Nat.reduceSub, List.getElem?_cons_zero, List.getElem?_cons_succ, List.getElem?_nil, Option.getD_some, Option.getD_none, if_true, if_false, reduceIte, Option.map_some, Option.map_none, Option.bind_some, Option.bind_none, Option.isSome_some, List.map_cons, List.map_nil, AV.cells, List.length_cons, List.length_nil, List.all_cons, List.all_nil, AV.one, Value.oneCell', ne_eq, reduceCtorEq, Int.reduceNeg, Int.reduceEq, Int.reduceNe, Int.reduceAdd, Int.reduceSub, Int.reduceMul, Int.reduceLT, Int.reduceLE, Int.reduceToNat, List.drop_zero, List.take_zero, List.drop_succ_cons, List.take_succ_cons, List.nil_append, List.cons_append, List.append_nil, List.replicate_zero, List.flatten_nil, List.flatten_cons, List.reduceReplicate, ge_iff_le, gt_iff_lt, eq_self, Nat.add_assoc, facts, *] | simp (disch := omega) only [Ab.wrap_i64] | ((with_reducible refine Ab.gd_ndec (fun _ => ?_) (fun _ => ?_)) <;> try (exfalso; omega)) | ((with_reducible refine Ab.br_ndec (fun _ => ?_) (fun _ => ?_)) <;> try (exfalso; omega)) | ((with_reducible refine Ab.gd_dec (fun _ => ?_) (fun _ => ?_)) <;> try (exfalso; omega)) | ((with_reducible refine Ab.br_dec (fun _ => ?_) (fun _ => ?_)) <;> try (exfalso; omega)) | (with_reducible refine Ab.run_alt ?_ ?_) | (refine And.intro (by omega) ?_) | (refine gd_split (fun _ => ?_) (fun _ => ?_)) | (refine br_split (fun _ => ?_) (fun _ => ?_)) | (refine cl_same (eqIntS_ok a.2 b.2 ia ib hx _ (hra _) (hrb _)) ?_) | omega)
  all_goals refine ⟨?_, _, rfl⟩
  all_goals simp_all [Prod.ext_iff]

theorem eqJobS_ok (xs ys : List Jb) (ida idb : Nat) (hx : xs.length ≤ 1048576) (hm : ∀ j ∈ xs, j.2.length ≤ 1048576) (h : Heap) (ha : NJ h ida xs) (hb : NJ h idb ys) :
    AC Try.prog 15 [.own ida 2 xs.length, .own idb 2 ys.length] h fun r h' => r = VB (decide (xs = ys)) ∧ h' = h := by
  obtain ⟨ia, ha⟩ := ha
  obtain ⟨ib, hb⟩ := hb
  refine AC_go mixed ok15 (by simp) fun hc _ => ?_
  unfold L15
  have hsa := ha.sz
  have hsb := hb.sz
  repeat' (first | simp -implicitDefEqProofs only [Ab.R1, Ab.R2, Ab.R3, Ab.R4, Ab.R5, Ab.RH, Ab.RM, Ab.binV, Ab.binC, Nat.reduceLT, Nat.reduceBEq, Nat.reduceAdd, Nat.reduceMul, Nat.reduceEqDiff, Nat.reduceLeDiff, Nat.reduceSub, List.getElem?_cons_zero, List.getElem?_cons_succ, List.getElem?_nil, Option.getD_some, Option.getD_none, if_true, if_false, reduceIte, Option.map_some, Option.map_none, Option.bind_some, Option.bind_none, Option.isSome_some, List.map_cons, List.map_nil, AV.cells, List.length_cons, List.length_nil, List.all_cons, List.all_nil, AV.one, Value.oneCell', ne_eq, reduceCtorEq, Int.reduceNeg, Int.reduceEq, Int.reduceNe, Int.reduceAdd, Int.reduceSub, Int.reduceMul, Int.reduceLT, Int.reduceLE, Int.reduceToNat, List.drop_zero, List.take_zero, List.drop_succ_cons, List.take_succ_cons, List.nil_append, List.cons_append, List.append_nil, List.replicate_zero, List.flatten_nil, List.flatten_cons, List.reduceReplicate, ge_iff_le, gt_iff_lt, eq_self, Nat.add_assoc, facts, *] | simp (disch := omega) only [Ab.wrap_i64] | ((with_reducible refine Ab.gd_ndec (fun _ => ?_) (fun _ => ?_)) <;> try (exfalso; omega)) | ((with_reducible refine Ab.br_ndec (fun _ => ?_) (fun _ => ?_)) <;> try (exfalso; omega)) | ((with_reducible refine Ab.gd_dec (fun _ => ?_) (fun _ => ?_)) <;> try (exfalso; omega)) | ((with_reducible refine Ab.br_dec (fun _ => ?_) (fun _ => ?_)) <;> try (exfalso; omega)) | (with_reducible refine Ab.run_alt ?_ ?_) | (refine And.intro (by omega) ?_) | (refine gd_split (fun _ => ?_) (fun _ => ?_)) | (refine br_split (fun _ => ?_) (fun _ => ?_)) | omega)
  · exact (dec_ne_len (by omega)).symm
  · refine lw_loopS K15b0 (fun i : Nat => [(5, VI i)]) (fun _ => h) (fun i => i ≤ xs.length ∧ xs.take i = ys.take i) (fun i => xs.length - i) 0 ⟨by omega, rfl⟩ rfl (by simp -implicitDefEqProofs only [Ab.R1, Ab.R2, Ab.R3, Ab.R4, Ab.R5, Ab.RH, Ab.RM, Ab.binV, Ab.binC, Nat.reduceLT, Nat.reduceBEq, Nat.reduceAdd, Nat.reduceMul, Nat.reduceEqDiff, Nat.reduceLeDiff, Nat.reduceSub, List.getElem?_cons_zero, List.getElem?_cons_succ, List.getElem?_nil, Option.getD_some, Option.getD_none, if_true, if_false, reduceIte, Option.map_some, Option.map_none, Option.bind_some, Option.bind_none, Option.isSome_some, List.map_cons, List.map_nil, AV.cells, List.length_cons, List.length_nil, List.all_cons, List.all_nil, AV.one, Value.oneCell', ne_eq, reduceCtorEq, Int.reduceNeg, Int.reduceEq, Int.reduceNe, Int.reduceAdd, Int.reduceSub, Int.reduceMul, Int.reduceLT, Int.reduceLE, Int.reduceToNat, List.drop_zero, List.take_zero, List.drop_succ_cons, List.take_succ_cons, List.nil_append, List.cons_append, List.append_nil, List.replicate_zero, List.flatten_nil, List.flatten_cons, List.reduceReplicate, ge_iff_le, gt_iff_lt, eq_self, Nat.add_assoc, facts]; rfl) (fun _ i _ => .same hc (by simp only [Ab.leB_cons, Ab.leB_nil, Ab.ok_raw, Ab.ok_own, Ab.ok_ptr, Ab.ok_sub, Ab.okAll_nil, Ab.okAll_cons, Ab.refOk_app, Ab.refOk_app0, Ab.okB_zero, Ab.okB_succ, Ab.rowI_ok, Ab.rowB_ok, Ab.rowS_ok, Ab.rowU_ok, Ab.rowI_len, Ab.rowB_len, Ab.rowS_len, Ab.rowU_len, List.mem_cons, List.not_mem_nil, or_false, forall_eq, forall_eq_or_imp, List.forall_mem_cons, List.length_replicate, and_true, true_and, and_self, Nat.le_refl, Nat.zero_le, implies_true, List.length_set, List.length_append, List.length_cons, List.length_nil, List.length_map, Bool.and_true, Bool.true_and, Bool.and_self, decide_true, decide_eq_true_eq] <;> omega)) ?_
    intro i ⟨hi, ht⟩ _
    refine lw_run mixed ?_
    unfold L15b0 K15b0
    have hra := ha.row
    have hrb := hb.row
    have hla := ha.cells_len fJ_len
    have hlb := hb.cells_len fJ_len
    rcases Nat.lt_or_ge i xs.length with hlt | hge
    · obtain ⟨a, hxa⟩ := some_at hlt
      obtain ⟨b, hyb⟩ := some_at (show i < ys.length by omega)
      obtain ⟨ka, _, hza, hka⟩ := ha.elt hxa
      obtain ⟨kb, _, hzb, hkb⟩ := hb.elt hyb
      rw [rowI_len] at hka hkb
      have hma := hm a (List.mem_of_getElem? hxa)
      repeat' (first | simp -implicitDefEqProofs only [Ab.R1, Ab.R2, Ab.R3, Ab.R4, Ab.R5, Ab.RH, Ab.RM, Ab.binV, Ab.binC, Nat.reduceLT, Nat.reduceBEq, Nat.reduceAdd, Nat.reduceMul, Nat.reduceEqDiff, Nat.reduceLeDiff, Nat.reduceSub, List.getElem?_cons_zero, List.getElem?_cons_succ, List.getElem?_nil, Option.getD_some, Option.getD_none, if_true, if_false, reduceIte, Option.map_some, Option.map_none, Option.bind_some, Option.bind_none, Option.isSome_some, List.map_cons, List.map_nil, AV.cells, List.length_cons, List.length_nil, List.all_cons, List.all_nil, AV.one, Value.oneCell', ne_eq, reduceCtorEq, Int.reduceNeg, Int.reduceEq, Int.reduceNe, Int.reduceAdd, Int.reduceSub, Int.reduceMul, Int.reduceLT, Int.reduceLE, Int.reduceToNat, List.drop_zero, List.take_zero, List.drop_succ_cons, List.take_succ_cons, List.nil_append, List.cons_append, List.append_nil, List.replicate_zero, List.flatten_nil, List.flatten_cons, List.reduceReplicate, ge_iff_le, gt_iff_lt, eq_self, Nat.add_assoc, facts, *, fJ_seg] | simp (disch := omega) only [Ab.wrap_i64] | ((with_reducible refine Ab.gd_ndec (fun _ => ?_) (fun _ => ?_)) <;> try (exfalso; omega)) | ((with_reducible refine Ab.br_ndec (fun _ => ?_) (fun _ => ?_)) <;> try (exfalso; omega)) | ((with_reducible refine Ab.gd_dec (fun _ => ?_) (fun _ => ?_)) <;> try (exfalso; omega)) | ((with_reducible refine Ab.br_dec (fun _ => ?_) (fun _ => ?_)) <;> try (exfalso; omega)) | (with_reducible refine Ab.run_alt ?_ ?_) | (refine And.intro (by omega) ?_) | (refine gd_split (fun _ => ?_) (fun _ => ?_)) | (refine br_split (fun _ => ?_) (fun _ => ?_)) | (refine cl_same (eqJob_ok a b ka kb (by omega) _ hka hkb) ?_) | omega)
      · exact (decide_eq_false (differ_at hxa hyb ‹¬ a = b›)).symm
      · refine ⟨i + 1, [], by omega, ⟨by omega, take_more hxa hyb ht ‹a = b›⟩, by simp, by omega⟩
    · repeat' (first | simp -implicitDefEqProofs only [Ab.R1, Ab.R2, Ab.R3, Ab.R4, Ab.R5, Ab.RH, Ab.RM, Ab.binV, Ab.binC, Nat.reduceLT, Nat.reduceBEq, Nat.reduceAdd, Nat.reduceMul, Nat.reduceEqDiff, Nat.reduceLeDiff, Nat.reduceSub, List.getElem?_cons_zero, List.getElem?_cons_succ, List.getElem?_nil, Option.getD_some, Option.getD_none, if_true, if_false, reduceIte, Option.map_some, Option.map_none, Option.bind_some, Option.bind_none, Option.isSome_some, List.map_cons, List.map_nil, AV.cells, List.length_cons, List.length_nil, List.all_cons, List.all_nil, AV.one, Value.oneCell', ne_eq, reduceCtorEq, Int.reduceNeg, Int.reduceEq, Int.reduceNe, Int.reduceAdd, Int.reduceSub, Int.reduceMul, Int.reduceLT, Int.reduceLE, Int.reduceToNat, List.drop_zero, List.take_zero, List.drop_succ_cons, List.take_succ_cons, List.nil_append, List.cons_append, List.append_nil, List.replicate_zero, List.flatten_nil, List.flatten_cons, List.reduceReplicate, ge_iff_le, gt_iff_lt, eq_self, Nat.add_assoc, facts, *] | simp (disch := omega) only [Ab.wrap_i64] | ((with_reducible refine Ab.gd_ndec (fun _ => ?_) (fun _ => ?_)) <;> try (exfalso; omega)) | ((with_reducible refine Ab.br_ndec (fun _ => ?_) (fun _ => ?_)) <;> try (exfalso; omega)) | ((with_reducible refine Ab.gd_dec (fun _ => ?_) (fun _ => ?_)) <;> try (exfalso; omega)) | ((with_reducible refine Ab.br_dec (fun _ => ?_) (fun _ => ?_)) <;> try (exfalso; omega)) | (with_reducible refine Ab.run_alt ?_ ?_) | (refine And.intro (by omega) ?_) | (refine gd_split (fun _ => ?_) (fun _ => ?_)) | (refine br_split (fun _ => ?_) (fun _ => ?_)) | omega)
      exact (decide_eq_true (eq_of_len_take (by omega) (by omega) ht)).symm

/-- how much there is -/
def szT (js : List Jb) : Nat := (js.map fun j => j.2.length).sum
theorem szT_take {js : List Jb} {i : Nat} {j : Jb} (h : js[i]? = some j) : szT (js.take (i + 1)) = szT (js.take i) + j.2.length := by
  rw [take_snoc h]; simp [szT]
theorem szT_le (js : List Jb) (i : Nat) : szT (js.take i) ≤ szT js := by
  have h : szT js = szT (js.take i) + szT (js.drop i) := by
    have := congrArg szT (List.take_append_drop i js)
    rw [← this]; simp only [szT, List.map_append, List.sum_append]
  omega
theorem szT_mem {js : List Jb} {j : Jb} (h : j ∈ js) : j.2.length ≤ szT js := by
  induction js with
  | nil => cases h
  | cons a js ih =>
    simp only [szT, List.map_cons, List.sum_cons] at *
    rcases List.mem_cons.1 h with rfl | h
    · omega
    · have := ih h; omega

theorem szJob_le (j : Jb) (i : Nat) (left : Int) (h : Heap) (hs : sz h i = some j.2.length) (h1 : (j.2.length : Int) ≤ left) (h2 : left ≤ 1048576) :
    AC Try.prog 36 [.agg (gJ (j, i)), VI left] h fun r h' => r = VI (left - j.2.length) ∧ h' = h := by
  refine AC.plain ?_
  refine AC_run mixed ok36 (by simp) ?_
  unfold L36
  have hsd : ∀ l, sz (h ++ l) i = some j.2.length := fun l => sz_sub (Heap.sub_append _ _) hs
  repeat' (first | simp -implicitDefEqProofs only [Ab.R1, Ab.R2, Ab.R3, Ab.R4, Ab.R5, Ab.RH, Ab.RM, Ab.binV, Ab.binC, Nat.reduceLT, Nat.reduceBEq, Nat.reduceAdd, Nat.reduceMul, Nat.reduceEqDiff, Nat.reduceLeDiff, Nat.reduceSub, List.getElem?_cons_zero, List.getElem?_cons_succ, List.getElem?_nil, Option.getD_some, Option.getD_none, if_true, if_false, reduceIte, Option.map_some, Option.map_none, Option.bind_some, Option.bind_none, Option.isSome_some, List.map_cons, List.map_nil, AV.cells, List.length_cons, List.length_nil, List.all_cons, List.all_nil, AV.one, Value.oneCell', ne_eq, reduceCtorEq, Int.reduceNeg, Int.reduceEq, Int.reduceNe, Int.reduceAdd, Int.reduceSub, Int.reduceMul, Int.reduceLT, Int.reduceLE, Int.reduceToNat, List.drop_zero, List.take_zero, List.drop_succ_cons, List.take_succ_cons, List.nil_append, List.cons_append, List.append_nil, List.replicate_zero, List.flatten_nil, List.flatten_cons, List.reduceReplicate, ge_iff_le, gt_iff_lt, eq_self, Nat.add_assoc, facts, *] | simp (disch := omega) only [Ab.wrap_i64] | ((with_reducible refine Ab.gd_ndec (fun _ => ?_) (fun _ => ?_)) <;> try (exfalso; omega)) | ((with_reducible refine Ab.br_ndec (fun _ => ?_) (fun _ => ?_)) <;> try (exfalso; omega)) | ((with_reducible refine Ab.gd_dec (fun _ => ?_) (fun _ => ?_)) <;> try (exfalso; omega)) | ((with_reducible refine Ab.br_dec (fun _ => ?_) (fun _ => ?_)) <;> try (exfalso; omega)) | (with_reducible refine Ab.run_alt ?_ ?_) | (refine And.intro (by omega) ?_) | (refine gd_split (fun _ => ?_) (fun _ => ?_)) | (refine br_split (fun _ => ?_) (fun _ => ?_)) | (refine cl_same (szIntS_le _ _ _ _ _ (hsd _) (by omega) (by omega)) ?_) | omega)
  all_goals exact ⟨_, rfl⟩
theorem szJob_gt (j : Jb) (i : Nat) (left : Int) (h : Heap) (hs : sz h i = some j.2.length) (h1 : left < j.2.length) (h2 : 0 ≤ left) (h3 : j.2.length ≤ 9223372036854775807) :
    AC Try.prog 36 [.agg (gJ (j, i)), VI left] h fun r h' => r = VI (-1) ∧ h' = h := by
  refine AC.plain ?_
  refine AC_run mixed ok36 (by simp) ?_
  unfold L36
  have hsd : ∀ l, sz (h ++ l) i = some j.2.length := fun l => sz_sub (Heap.sub_append _ _) hs
  repeat' (first | simp -implicitDefEqProofs only [Ab.R1, Ab.R2, Ab.R3, Ab.R4, Ab.R5, Ab.RH, Ab.RM, Ab.binV, Ab.binC, Nat.reduceLT, Nat.reduceBEq, Nat.reduceAdd, Nat.reduceMul, Nat.reduceEqDiff, Nat.reduceLeDiff, Nat.reduceSub, List.getElem?_cons_zero, List.getElem?_cons_succ, List.getElem?_nil, Option.getD_some, Option.getD_none, if_true, if_false, reduceIte, Option.map_some, Option.map_none, Option.bind_some, Option.bind_none, Option.isSome_some, List.map_cons, List.map_nil, AV.cells, List.length_cons, List.length_nil, List.all_cons, List.all_nil, AV.one, Value.oneCell', ne_eq, reduceCtorEq, Int.reduceNeg, Int.reduceEq, Int.reduceNe, Int.reduceAdd, Int.reduceSub, Int.reduceMul, Int.reduceLT, Int.reduceLE, Int.reduceToNat, List.drop_zero, List.take_zero, List.drop_succ_cons, List.take_succ_cons, List.nil_append, List.cons_append, List.append_nil, List.replicate_zero, List.flatten_nil, List.flatten_cons, List.reduceReplicate, ge_iff_le, gt_iff_lt, eq_self, Nat.add_assoc, facts, *] | simp (disch := omega) only [Ab.wrap_i64] | ((with_reducible refine Ab.gd_ndec (fun _ => ?_) (fun _ => ?_)) <;> try (exfalso; omega)) | ((with_reducible refine Ab.br_ndec (fun _ => ?_) (fun _ => ?_)) <;> try (exfalso; omega)) | ((with_reducible refine Ab.gd_dec (fun _ => ?_) (fun _ => ?_)) <;> try (exfalso; omega)) | ((with_reducible refine Ab.br_dec (fun _ => ?_) (fun _ => ?_)) <;> try (exfalso; omega)) | (with_reducible refine Ab.run_alt ?_ ?_) | (refine And.intro (by omega) ?_) | (refine gd_split (fun _ => ?_) (fun _ => ?_)) | (refine br_split (fun _ => ?_) (fun _ => ?_)) | (refine cl_same (szIntS_gt _ _ _ _ _ (hsd _) (by omega) (by omega) (by omega)) ?_) | omega)
  all_goals exact ⟨_, rfl⟩

theorem szJobS_ok (js : List Jb) (id : Nat) (h : Heap) (hr : NSub gJ inJ 2 h id js) (hn : js.length ≤ maxLen) :
    AC Try.prog 11 [.sub id (js.length * 2) 2 0 js.length, VI 1048576] h fun r h' => r = VI (if js.length + szT js ≤ 1048576 then 1048576 - ((js.length + szT js : Nat) : Int) else -1) ∧ h' = h := by
  obtain ⟨⟨ids, hr⟩, hmx⟩ := hr
  refine AC_go mixed ok11 (by simp) fun hc _ => ?_
  unfold L11
  unfold maxLen at hn hmx
  have hsz := hr.sz
  by_cases hbig : 1048576 < js.length
  · have hC : ¬ js.length + szT js ≤ 1048576 := by omega
    rw [if_neg hC]
    repeat' (first | simp -implicitDefEqProofs only [Ab.R1, Ab.R2, Ab.R3, Ab.R4, Ab.R5, Ab.RH, Ab.RM, Ab.binV, Ab.binC, Nat.reduceLT, Nat.reduceBEq, Nat.reduceAdd, Nat.reduceMul, Nat.reduceEqDiff, Nat.reduceLeDiff, Nat.reduceSub, List.getElem?_cons_zero, List.getElem?_cons_succ, List.getElem?_nil, Option.getD_some, Option.getD_none, if_true, if_false, reduceIte, Option.map_some, Option.map_none, Option.bind_some, Option.bind_none, Option.isSome_some, List.map_cons, List.map_nil, AV.cells, List.length_cons, List.length_nil, List.all_cons, List.all_nil, AV.one, Value.oneCell', ne_eq, reduceCtorEq, Int.reduceNeg, Int.reduceEq, Int.reduceNe, Int.reduceAdd, Int.reduceSub, Int.reduceMul, Int.reduceLT, Int.reduceLE, Int.reduceToNat, List.drop_zero, List.take_zero, List.drop_succ_cons, List.take_succ_cons, List.nil_append, List.cons_append, List.append_nil, List.replicate_zero, List.flatten_nil, List.flatten_cons, List.reduceReplicate, ge_iff_le, gt_iff_lt, eq_self, Nat.add_assoc, facts, *] | simp (disch := omega) only [Ab.wrap_i64] | ((with_reducible refine Ab.gd_ndec (fun _ => ?_) (fun _ => ?_)) <;> try (exfalso; omega)) | ((with_reducible refine Ab.br_ndec (fun _ => ?_) (fun _ => ?_)) <;> try (exfalso; omega)) | ((with_reducible refine Ab.gd_dec (fun _ => ?_) (fun _ => ?_)) <;> try (exfalso; omega)) | ((with_reducible refine Ab.br_dec (fun _ => ?_) (fun _ => ?_)) <;> try (exfalso; omega)) | (with_reducible refine Ab.run_alt ?_ ?_) | (refine And.intro (by omega) ?_) | (refine gd_split (fun _ => ?_) (fun _ => ?_)) | (refine br_split (fun _ => ?_) (fun _ => ?_)) | omega)
  · repeat' (first | simp -implicitDefEqProofs only [Ab.R1, Ab.R2, Ab.R3, Ab.R4, Ab.R5, Ab.RH, Ab.RM, Ab.binV, Ab.binC, Nat.reduceLT, Nat.reduceBEq, Nat.reduceAdd, Nat.reduceMul, Nat.reduceEqDiff, Nat.reduceLeDiff, Nat.reduceSub, List.getElem?_cons_zero, List.getElem?_cons_succ, List.getElem?_nil, Option.getD_some, Option.getD_none, if_true, if_false, reduceIte, Option.map_some, Option.map_none, Option.bind_some, Option.bind_none, Option.isSome_some, List.map_cons, List.map_nil, AV.cells, List.length_cons, List.length_nil, List.all_cons, List.all_nil, AV.one, Value.oneCell', ne_eq, reduceCtorEq, Int.reduceNeg, Int.reduceEq, Int.reduceNe, Int.reduceAdd, Int.reduceSub, Int.reduceMul, Int.reduceLT, Int.reduceLE, Int.reduceToNat, List.drop_zero, List.take_zero, List.drop_succ_cons, List.take_succ_cons, List.nil_append, List.cons_append, List.append_nil, List.replicate_zero, List.flatten_nil, List.flatten_cons, List.reduceReplicate, ge_iff_le, gt_iff_lt, eq_self, Nat.add_assoc, facts, *] | simp (disch := omega) only [Ab.wrap_i64] | ((with_reducible refine Ab.gd_ndec (fun _ => ?_) (fun _ => ?_)) <;> try (exfalso; omega)) | ((with_reducible refine Ab.br_ndec (fun _ => ?_) (fun _ => ?_)) <;> try (exfalso; omega)) | ((with_reducible refine Ab.gd_dec (fun _ => ?_) (fun _ => ?_)) <;> try (exfalso; omega)) | ((with_reducible refine Ab.br_dec (fun _ => ?_) (fun _ => ?_)) <;> try (exfalso; omega)) | (with_reducible refine Ab.run_alt ?_ ?_) | (refine And.intro (by omega) ?_) | (refine gd_split (fun _ => ?_) (fun _ => ?_)) | (refine br_split (fun _ => ?_) (fun _ => ?_)) | omega)
    refine lw_loopS K11b0 (fun i : Nat => [(1, VI (1048576 - js.length - szT (js.take i))), (5, VI i)]) (fun _ => h) (fun i => i ≤ js.length ∧ js.length + szT (js.take i) ≤ 1048576) (fun i => js.length - i) 0 ⟨by omega, by simp [szT]; omega⟩ rfl (by simp -implicitDefEqProofs only [Ab.R1, Ab.R2, Ab.R3, Ab.R4, Ab.R5, Ab.RH, Ab.RM, Ab.binV, Ab.binC, Nat.reduceLT, Nat.reduceBEq, Nat.reduceAdd, Nat.reduceMul, Nat.reduceEqDiff, Nat.reduceLeDiff, Nat.reduceSub, List.getElem?_cons_zero, List.getElem?_cons_succ, List.getElem?_nil, Option.getD_some, Option.getD_none, if_true, if_false, reduceIte, Option.map_some, Option.map_none, Option.bind_some, Option.bind_none, Option.isSome_some, List.map_cons, List.map_nil, AV.cells, List.length_cons, List.length_nil, List.all_cons, List.all_nil, AV.one, Value.oneCell', ne_eq, reduceCtorEq, Int.reduceNeg, Int.reduceEq, Int.reduceNe, Int.reduceAdd, Int.reduceSub, Int.reduceMul, Int.reduceLT, Int.reduceLE, Int.reduceToNat, List.drop_zero, List.take_zero, List.drop_succ_cons, List.take_succ_cons, List.nil_append, List.cons_append, List.append_nil, List.replicate_zero, List.flatten_nil, List.flatten_cons, List.reduceReplicate, ge_iff_le, gt_iff_lt, eq_self, Nat.add_assoc, facts]; simp [szT]) (fun _ i _ => .same hc (by simp only [Ab.leB_cons, Ab.leB_nil, Ab.ok_raw, Ab.ok_own, Ab.ok_ptr, Ab.ok_sub, Ab.okAll_nil, Ab.okAll_cons, Ab.refOk_app, Ab.refOk_app0, Ab.okB_zero, Ab.okB_succ, Ab.rowI_ok, Ab.rowB_ok, Ab.rowS_ok, Ab.rowU_ok, Ab.rowI_len, Ab.rowB_len, Ab.rowS_len, Ab.rowU_len, List.mem_cons, List.not_mem_nil, or_false, forall_eq, forall_eq_or_imp, List.forall_mem_cons, List.length_replicate, and_true, true_and, and_self, Nat.le_refl, Nat.zero_le, implies_true, List.length_set, List.length_append, List.length_cons, List.length_nil, List.length_map, Bool.and_true, Bool.true_and, Bool.and_self, decide_true, decide_eq_true_eq] <;> omega)) ?_
    intro i ⟨hi, ht⟩ _
    refine lw_run mixed ?_
    unfold L11b0 K11b0
    have hro := hr.row
    have hGl : (rowOf gJ (js.zip ids)).length = js.length * 2 := by rw [rowOf_len gJ_len]; simp [hr.len]
    have hle := szT_le js i
    rcases Nat.lt_or_ge i js.length with hlt | hge
    · obtain ⟨j, hj⟩ := some_at hlt
      obtain ⟨i0, _, hz0, hr0⟩ := hr.elt hj
      have hs0 := sz_of hr0
      rw [rowI_len] at hs0
      have htk := szT_take hj
      have hle1 := szT_le js (i + 1)
      have hmj := hmx j (List.mem_of_getElem? hj)
      rw [rowI_len] at hmj
      by_cases hg : js.length + szT (js.take i) + j.2.length ≤ 1048576
      · repeat' (first | simp -implicitDefEqProofs only [Ab.R1, Ab.R2, Ab.R3, Ab.R4, Ab.R5, Ab.RH, Ab.RM, Ab.binV, Ab.binC, Nat.reduceLT, Nat.reduceBEq, Nat.reduceAdd, Nat.reduceMul, Nat.reduceEqDiff, Nat.reduceLeDiff, Nat.reduceSub, List.getElem?_cons_zero, List.getElem?_cons_succ, List.getElem?_nil, Option.getD_some, Option.getD_none, if_true, if_false, reduceIte, Option.map_some, Option.map_none, Option.bind_some, Option.bind_none, Option.isSome_some, List.map_cons, List.map_nil, AV.cells, List.length_cons, List.length_nil, List.all_cons, List.all_nil, AV.one, Value.oneCell', ne_eq, reduceCtorEq, Int.reduceNeg, Int.reduceEq, Int.reduceNe, Int.reduceAdd, Int.reduceSub, Int.reduceMul, Int.reduceLT, Int.reduceLE, Int.reduceToNat, List.drop_zero, List.take_zero, List.drop_succ_cons, List.take_succ_cons, List.nil_append, List.cons_append, List.append_nil, List.replicate_zero, List.flatten_nil, List.flatten_cons, List.reduceReplicate, ge_iff_le, gt_iff_lt, eq_self, Nat.add_assoc, facts, *, gJ_seg] | simp (disch := omega) only [Ab.wrap_i64] | ((with_reducible refine Ab.gd_ndec (fun _ => ?_) (fun _ => ?_)) <;> try (exfalso; omega)) | ((with_reducible refine Ab.br_ndec (fun _ => ?_) (fun _ => ?_)) <;> try (exfalso; omega)) | ((with_reducible refine Ab.gd_dec (fun _ => ?_) (fun _ => ?_)) <;> try (exfalso; omega)) | ((with_reducible refine Ab.br_dec (fun _ => ?_) (fun _ => ?_)) <;> try (exfalso; omega)) | (with_reducible refine Ab.run_alt ?_ ?_) | (refine And.intro (by omega) ?_) | (refine gd_split (fun _ => ?_) (fun _ => ?_)) | (refine br_split (fun _ => ?_) (fun _ => ?_)) | (refine cl_same (szJob_le j i0 _ _ hs0 (by omega) (by omega)) ?_) | omega)
        refine ⟨i + 1, [], by omega, ⟨by omega, by omega⟩, by simp, ?_, by omega⟩
        rw [htk]; omega
      · have hC : ¬ js.length + szT js ≤ 1048576 := by omega
        rw [if_neg hC]
        repeat' (first | simp -implicitDefEqProofs only [Ab.R1, Ab.R2, Ab.R3, Ab.R4, Ab.R5, Ab.RH, Ab.RM, Ab.binV, Ab.binC, Nat.reduceLT, Nat.reduceBEq, Nat.reduceAdd, Nat.reduceMul, Nat.reduceEqDiff, Nat.reduceLeDiff, Nat.reduceSub, List.getElem?_cons_zero, List.getElem?_cons_succ, List.getElem?_nil, Option.getD_some, Option.getD_none, if_true, if_false, reduceIte, Option.map_some, Option.map_none, Option.bind_some, Option.bind_none, Option.isSome_some, List.map_cons, List.map_nil, AV.cells, List.length_cons, List.length_nil, List.all_cons, List.all_nil, AV.one, Value.oneCell', ne_eq, reduceCtorEq, Int.reduceNeg, Int.reduceEq, Int.reduceNe, Int.reduceAdd, Int.reduceSub, Int.reduceMul, Int.reduceLT, Int.reduceLE, Int.reduceToNat, List.drop_zero, List.take_zero, List.drop_succ_cons, List.take_succ_cons, List.nil_append, List.cons_append, List.append_nil, List.replicate_zero, List.flatten_nil, List.flatten_cons, List.reduceReplicate, ge_iff_le, gt_iff_lt, eq_self, Nat.add_assoc, facts, *, gJ_seg] | simp (disch := omega) only [Ab.wrap_i64] | ((with_reducible refine Ab.gd_ndec (fun _ => ?_) (fun _ => ?_)) <;> try (exfalso; omega)) | ((with_reducible refine Ab.br_ndec (fun _ => ?_) (fun _ => ?_)) <;> try (exfalso; omega)) | ((with_reducible refine Ab.gd_dec (fun _ => ?_) (fun _ => ?_)) <;> try (exfalso; omega)) | ((with_reducible refine Ab.br_dec (fun _ => ?_) (fun _ => ?_)) <;> try (exfalso; omega)) | (with_reducible refine Ab.run_alt ?_ ?_) | (refine And.intro (by omega) ?_) | (refine gd_split (fun _ => ?_) (fun _ => ?_)) | (refine br_split (fun _ => ?_) (fun _ => ?_)) | (refine cl_same (szJob_gt j i0 _ _ hs0 (by omega) (by omega) (by omega)) ?_) | omega)
    · have hti : js.take i = js := take_all hge
      rw [hti] at ht ⊢
      rw [if_pos ht]
      repeat' (first | simp -implicitDefEqProofs only [Ab.R1, Ab.R2, Ab.R3, Ab.R4, Ab.R5, Ab.RH, Ab.RM, Ab.binV, Ab.binC, Nat.reduceLT, Nat.reduceBEq, Nat.reduceAdd, Nat.reduceMul, Nat.reduceEqDiff, Nat.reduceLeDiff, Nat.reduceSub, List.getElem?_cons_zero, List.getElem?_cons_succ, List.getElem?_nil, Option.getD_some, Option.getD_none, if_true, if_false, reduceIte, Option.map_some, Option.map_none, Option.bind_some, Option.bind_none, Option.isSome_some, List.map_cons, List.map_nil, AV.cells, List.length_cons, List.length_nil, List.all_cons, List.all_nil, AV.one, Value.oneCell', ne_eq, reduceCtorEq, Int.reduceNeg, Int.reduceEq, Int.reduceNe, Int.reduceAdd, Int.reduceSub, Int.reduceMul, Int.reduceLT, Int.reduceLE, Int.reduceToNat, List.drop_zero, List.take_zero, List.drop_succ_cons, List.take_succ_cons, List.nil_append, List.cons_append, List.append_nil, List.replicate_zero, List.flatten_nil, List.flatten_cons, List.reduceReplicate, ge_iff_le, gt_iff_lt, eq_self, Nat.add_assoc, facts, *] | simp (disch := omega) only [Ab.wrap_i64] | ((with_reducible refine Ab.gd_ndec (fun _ => ?_) (fun _ => ?_)) <;> try (exfalso; omega)) | ((with_reducible refine Ab.br_ndec (fun _ => ?_) (fun _ => ?_)) <;> try (exfalso; omega)) | ((with_reducible refine Ab.gd_dec (fun _ => ?_) (fun _ => ?_)) <;> try (exfalso; omega)) | ((with_reducible refine Ab.br_dec (fun _ => ?_) (fun _ => ?_)) <;> try (exfalso; omega)) | (with_reducible refine Ab.run_alt ?_ ?_) | (refine And.intro (by omega) ?_) | (refine gd_split (fun _ => ?_) (fun _ => ?_)) | (refine br_split (fun _ => ?_) (fun _ => ?_)) | omega)
end Go.Proofs.Ytmkognfiemgmgaa
