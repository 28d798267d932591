/- FnBench: the law. -/
import Derived.Test.YtmkognfiemgmgaaAb32
import Derived.Test.YtmkognfiemgmgaaBenchE
import Derived.Test.YtmkognfiemgmgaaBenchP
import Derived.Test.YtmkognfiemgmgaaDrawAt
import Derived.Test.YtmkognfiemgmgaaLatest
import Derived.Test.YtmkognfiemgmgaaWorkLaw
namespace Go.Proofs.Ytmkognfiemgmgaa
set_option maxRecDepth 20000
set_option linter.unusedSimpArgs false
set_option linter.unusedVariables false
open Go Go.Ab

theorem drawJobs_ok {bs : List UInt8} {ci : Nat} (hn : bs.length ≤ 1048576) (h : Heap) (hr : rd h ci bs.length = some (rowU bs)) :
    AC Try.prog 33 [.sub ci bs.length 1 0 bs.length] h fun r h' => ∃ (js : List Jb) (E : Heap) (rid : Nat), jobsB js = true ∧ (∀ l, NJ (h ++ (E ++ l)) rid js) ∧ r = .own rid 2 js.length ∧ h' = h ++ E := by
  refine AC_go mixed ok33 (by simp) fun hc _ => ?_
  unfold L33
  repeat' (first | simp -implicitDefEqProofs only [Ab.R1, Ab.R2, Ab.R3, Ab.R4, Ab.R5, Ab.RH, Ab.RM, Ab.binV, Ab.binC, Nat.reduceLT, Nat.reduceBEq, Nat.reduceAdd, Nat.reduceMul, Nat.reduceEqDiff, Nat.reduceLeDiff, Nat.reduceSub, List.getElem?_cons_zero, List.getElem?_cons_succ, List.getElem?_nil, Option.getD_some, Option.getD_none, if_true, if_false, reduceIte, Option.map_some, Option.map_none, Option.bind_some, Option.bind_none, Option.isSome_some, List.map_cons, List.map_nil, AV.cells, List.length_cons, List.length_nil, List.all_cons, List.all_nil, AV.one, Value.oneCell', ne_eq, reduceCtorEq, Int.reduceNeg, Int.reduceEq, Int.reduceNe, Int.reduceAdd, Int.reduceSub, Int.reduceMul, Int.reduceLT, Int.reduceLE, Int.reduceToNat, List.drop_zero, List.take_zero, List.drop_succ_cons, List.take_succ_cons, List.nil_append, List.cons_append, List.append_nil, List.replicate_zero, List.flatten_nil, List.flatten_cons, List.reduceReplicate, ge_iff_le, gt_iff_lt, eq_self, Nat.add_assoc, facts, *] | simp (disch := omega) only [Ab.wrap_i64] | ((with_reducible refine Ab.gd_ndec (fun _ => ?_) (fun _ => ?_)) <;> try (exfalso; omega)) | ((with_reducible refine Ab.br_ndec (fun _ => ?_) (fun _ => ?_)) <;> try (exfalso; omega)) | ((with_reducible refine Ab.gd_dec (fun _ => ?_) (fun _ => ?_)) <;> try (exfalso; omega)) | ((with_reducible refine Ab.br_dec (fun _ => ?_) (fun _ => ?_)) <;> try (exfalso; omega)) | (with_reducible refine Ab.run_alt ?_ ?_) | (refine And.intro (by omega) ?_) | (refine gd_split (fun _ => ?_) (fun _ => ?_)) | (refine br_split (fun _ => ?_) (fun _ => ?_)) | omega)
  refine cl_any (new_at hn _ hr) ?_
  rintro _ _ ⟨c, k0, rfl, rfl⟩
  repeat' (first | simp -implicitDefEqProofs only [Ab.R1, Ab.R2, Ab.R3, Ab.R4, Ab.R5, Ab.RH, Ab.RM, Ab.binV, Ab.binC, Nat.reduceLT, Nat.reduceBEq, Nat.reduceAdd, Nat.reduceMul, Nat.reduceEqDiff, Nat.reduceLeDiff, Nat.reduceSub, List.getElem?_cons_zero, List.getElem?_cons_succ, List.getElem?_nil, Option.getD_some, Option.getD_none, if_true, if_false, reduceIte, Option.map_some, Option.map_none, Option.bind_some, Option.bind_none, Option.isSome_some, List.map_cons, List.map_nil, AV.cells, List.length_cons, List.length_nil, List.all_cons, List.all_nil, AV.one, Value.oneCell', ne_eq, reduceCtorEq, Int.reduceNeg, Int.reduceEq, Int.reduceNe, Int.reduceAdd, Int.reduceSub, Int.reduceMul, Int.reduceLT, Int.reduceLE, Int.reduceToNat, List.drop_zero, List.take_zero, List.drop_succ_cons, List.take_succ_cons, List.nil_append, List.cons_append, List.append_nil, List.replicate_zero, List.flatten_nil, List.flatten_cons, List.reduceReplicate, ge_iff_le, gt_iff_lt, eq_self, Nat.add_assoc, facts, *] | simp (disch := omega) only [Ab.wrap_i64] | ((with_reducible refine Ab.gd_ndec (fun _ => ?_) (fun _ => ?_)) <;> try (exfalso; omega)) | ((with_reducible refine Ab.br_ndec (fun _ => ?_) (fun _ => ?_)) <;> try (exfalso; omega)) | ((with_reducible refine Ab.gd_dec (fun _ => ?_) (fun _ => ?_)) <;> try (exfalso; omega)) | ((with_reducible refine Ab.br_dec (fun _ => ?_) (fun _ => ?_)) <;> try (exfalso; omega)) | (with_reducible refine Ab.run_alt ?_ ?_) | (refine And.intro (by omega) ?_) | (refine gd_split (fun _ => ?_) (fun _ => ?_)) | (refine br_split (fun _ => ?_) (fun _ => ?_)) | omega)
  refine cl_any (l34List_ok hn k0 _ hc hr) ?_
  rintro _ _ ⟨js, c', hv, rfl, rfl⟩
  repeat' (first | simp -implicitDefEqProofs only [Ab.R1, Ab.R2, Ab.R3, Ab.R4, Ab.R5, Ab.RH, Ab.RM, Ab.binV, Ab.binC, Nat.reduceLT, Nat.reduceBEq, Nat.reduceAdd, Nat.reduceMul, Nat.reduceEqDiff, Nat.reduceLeDiff, Nat.reduceSub, List.getElem?_cons_zero, List.getElem?_cons_succ, List.getElem?_nil, Option.getD_some, Option.getD_none, if_true, if_false, reduceIte, Option.map_some, Option.map_none, Option.bind_some, Option.bind_none, Option.isSome_some, List.map_cons, List.map_nil, AV.cells, List.length_cons, List.length_nil, List.all_cons, List.all_nil, AV.one, Value.oneCell', ne_eq, reduceCtorEq, Int.reduceNeg, Int.reduceEq, Int.reduceNe, Int.reduceAdd, Int.reduceSub, Int.reduceMul, Int.reduceLT, Int.reduceLE, Int.reduceToNat, List.drop_zero, List.take_zero, List.drop_succ_cons, List.take_succ_cons, List.nil_append, List.cons_append, List.append_nil, List.replicate_zero, List.flatten_nil, List.flatten_cons, List.reduceReplicate, ge_iff_le, gt_iff_lt, eq_self, Nat.add_assoc, facts, *] | simp (disch := omega) only [Ab.wrap_i64] | ((with_reducible refine Ab.gd_ndec (fun _ => ?_) (fun _ => ?_)) <;> try (exfalso; omega)) | ((with_reducible refine Ab.br_ndec (fun _ => ?_) (fun _ => ?_)) <;> try (exfalso; omega)) | ((with_reducible refine Ab.gd_dec (fun _ => ?_) (fun _ => ?_)) <;> try (exfalso; omega)) | ((with_reducible refine Ab.br_dec (fun _ => ?_) (fun _ => ?_)) <;> try (exfalso; omega)) | (with_reducible refine Ab.run_alt ?_ ?_) | (refine And.intro (by omega) ?_) | (refine gd_split (fun _ => ?_) (fun _ => ?_)) | (refine br_split (fun _ => ?_) (fun _ => ?_)) | omega)
  refine ⟨js, _, _, hv, fun l => ?_, rfl, rfl⟩
  have := blksN_at (f := fJ) (inn := inJ) (e := 40) (es := 2) (ei := 3) (xs := js) (b := h.length + 1) fJ_len (h := h ++ [curB c']) (by simp) l
  rw [List.append_assoc] at this
  exact ⟨_, this⟩
theorem has_ok (xs : List Int) (x : Int) (id : Nat) (hx : xs.length ≤ 4194304) (h : Heap) (hr : rd h id xs.length = some (rowI xs)) :
    AC Try.prog 34 [.own id 1 xs.length, VI x] h fun r h' => r = VB (xs.any fun y => decide (y = x)) ∧ h' = h := by
  refine AC_go mixed ok34 (by simp) fun hc _ => ?_
  unfold L34
  have hsa := sz_of hr
  repeat' (first | simp -implicitDefEqProofs only [Ab.R1, Ab.R2, Ab.R3, Ab.R4, Ab.R5, Ab.RH, Ab.RM, Ab.binV, Ab.binC, Nat.reduceLT, Nat.reduceBEq, Nat.reduceAdd, Nat.reduceMul, Nat.reduceEqDiff, Nat.reduceLeDiff, Nat.reduceSub, List.getElem?_cons_zero, List.getElem?_cons_succ, List.getElem?_nil, Option.getD_some, Option.getD_none, if_true, if_false, reduceIte, Option.map_some, Option.map_none, Option.bind_some, Option.bind_none, Option.isSome_some, List.map_cons, List.map_nil, AV.cells, List.length_cons, List.length_nil, List.all_cons, List.all_nil, AV.one, Value.oneCell', ne_eq, reduceCtorEq, Int.reduceNeg, Int.reduceEq, Int.reduceNe, Int.reduceAdd, Int.reduceSub, Int.reduceMul, Int.reduceLT, Int.reduceLE, Int.reduceToNat, List.drop_zero, List.take_zero, List.drop_succ_cons, List.take_succ_cons, List.nil_append, List.cons_append, List.append_nil, List.replicate_zero, List.flatten_nil, List.flatten_cons, List.reduceReplicate, ge_iff_le, gt_iff_lt, eq_self, Nat.add_assoc, facts, *] | simp (disch := omega) only [Ab.wrap_i64] | ((with_reducible refine Ab.gd_ndec (fun _ => ?_) (fun _ => ?_)) <;> try (exfalso; omega)) | ((with_reducible refine Ab.br_ndec (fun _ => ?_) (fun _ => ?_)) <;> try (exfalso; omega)) | ((with_reducible refine Ab.gd_dec (fun _ => ?_) (fun _ => ?_)) <;> try (exfalso; omega)) | ((with_reducible refine Ab.br_dec (fun _ => ?_) (fun _ => ?_)) <;> try (exfalso; omega)) | (with_reducible refine Ab.run_alt ?_ ?_) | (refine And.intro (by omega) ?_) | (refine gd_split (fun _ => ?_) (fun _ => ?_)) | (refine br_split (fun _ => ?_) (fun _ => ?_)) | omega)
  refine lw_loopS K34b0 (fun i : Nat => [(5, VI i)]) (fun _ => h) (fun i => i ≤ xs.length ∧ (xs.take i).any (fun y => decide (y = x)) = false) (fun i => xs.length - i) 0 ⟨by omega, rfl⟩ rfl (by (simp -implicitDefEqProofs only [Ab.R1, Ab.R2, Ab.R3, Ab.R4, Ab.R5, Ab.RH, Ab.RM, Ab.binV, Ab.binC, Nat.reduceLT, Nat.reduceBEq, Nat.reduceAdd, Nat.reduceMul, Nat.reduceEqDiff, Nat.reduceLeDiff, Nat.reduceSub, List.getElem?_cons_zero, List.getElem?_cons_succ, List.getElem?_nil, Option.getD_some, Option.getD_none, if_true, if_false, reduceIte, Option.map_some, Option.map_none, Option.bind_some, Option.bind_none, Option.isSome_some, List.map_cons, List.map_nil, AV.cells, List.length_cons, List.length_nil, List.all_cons, List.all_nil, AV.one, Value.oneCell', ne_eq, reduceCtorEq, Int.reduceNeg, Int.reduceEq, Int.reduceNe, Int.reduceAdd, Int.reduceSub, Int.reduceMul, Int.reduceLT, Int.reduceLE, Int.reduceToNat, List.drop_zero, List.take_zero, List.drop_succ_cons, List.take_succ_cons, List.nil_append, List.cons_append, List.append_nil, List.replicate_zero, List.flatten_nil, List.flatten_cons, List.reduceReplicate, ge_iff_le, gt_iff_lt, eq_self, Nat.add_assoc, facts] <;> first | rfl | exact ⟨rfl, rfl⟩ | exact ⟨rfl, rfl, rfl⟩ | (simp; done))) (fun _ i _ => .same hc (by simp only [Ab.leB_cons, Ab.leB_nil, Ab.ok_raw, Ab.ok_own, Ab.ok_ptr, Ab.ok_sub, Ab.okAll_nil, Ab.okAll_cons, Ab.refOk_app, Ab.refOk_app0, Ab.okB_zero, Ab.okB_succ, Ab.rowI_ok, Ab.rowB_ok, Ab.rowS_ok, Ab.rowU_ok, Ab.rowI_len, Ab.rowB_len, Ab.rowS_len, Ab.rowU_len, List.mem_cons, List.not_mem_nil, or_false, forall_eq, forall_eq_or_imp, List.forall_mem_cons, List.length_replicate, and_true, true_and, and_self, Nat.le_refl, Nat.zero_le, implies_true, List.length_set, List.length_append, List.length_cons, List.length_nil, List.length_map, Bool.and_true, Bool.true_and, Bool.and_self, decide_true, decide_eq_true_eq] <;> omega)) ?_
  intro i ⟨hi, ht⟩ _
  refine lw_run mixed ?_
  unfold L34b0 K34b0
  rcases Nat.lt_or_ge i xs.length with hlt | hge
  · obtain ⟨a, hxa⟩ := some_at hlt
    by_cases hax : a = x
    · have hh : (xs.any fun y => decide (y = x)) = true := any_hit hxa (decide_eq_true hax)
      repeat' (first | simp -implicitDefEqProofs only [Ab.R1, Ab.R2, Ab.R3, Ab.R4, Ab.R5, Ab.RH, Ab.RM, Ab.binV, Ab.binC, Nat.reduceLT, Nat.reduceBEq, Nat.reduceAdd, Nat.reduceMul, Nat.reduceEqDiff, Nat.reduceLeDiff, Nat.reduceSub, List.getElem?_cons_zero, List.getElem?_cons_succ, List.getElem?_nil, Option.getD_some, Option.getD_none, if_true, if_false, reduceIte, Option.map_some, Option.map_none, Option.bind_some, Option.bind_none, Option.isSome_some, List.map_cons, List.map_nil, AV.cells, List.length_cons, List.length_nil, List.all_cons, List.all_nil, AV.one, Value.oneCell', ne_eq, reduceCtorEq, Int.reduceNeg, Int.reduceEq, Int.reduceNe, Int.reduceAdd, Int.reduceSub, Int.reduceMul, Int.reduceLT, Int.reduceLE, Int.reduceToNat, List.drop_zero, List.take_zero, List.drop_succ_cons, List.take_succ_cons, List.nil_append, List.cons_append, List.append_nil, List.replicate_zero, List.flatten_nil, List.flatten_cons, List.reduceReplicate, ge_iff_le, gt_iff_lt, eq_self, Nat.add_assoc, facts, *, rowI_at] | simp (disch := omega) only [Ab.wrap_i64] | ((with_reducible refine Ab.gd_ndec (fun _ => ?_) (fun _ => ?_)) <;> try (exfalso; omega)) | ((with_reducible refine Ab.br_ndec (fun _ => ?_) (fun _ => ?_)) <;> try (exfalso; omega)) | ((with_reducible refine Ab.gd_dec (fun _ => ?_) (fun _ => ?_)) <;> try (exfalso; omega)) | ((with_reducible refine Ab.br_dec (fun _ => ?_) (fun _ => ?_)) <;> try (exfalso; omega)) | (with_reducible refine Ab.run_alt ?_ ?_) | (refine And.intro (by omega) ?_) | (refine gd_split (fun _ => ?_) (fun _ => ?_)) | (refine br_split (fun _ => ?_) (fun _ => ?_)) | omega)
    · have hm := any_take hxa ht (decide_eq_false hax)
      repeat' (first | simp -implicitDefEqProofs only [Ab.R1, Ab.R2, Ab.R3, Ab.R4, Ab.R5, Ab.RH, Ab.RM, Ab.binV, Ab.binC, Nat.reduceLT, Nat.reduceBEq, Nat.reduceAdd, Nat.reduceMul, Nat.reduceEqDiff, Nat.reduceLeDiff, Nat.reduceSub, List.getElem?_cons_zero, List.getElem?_cons_succ, List.getElem?_nil, Option.getD_some, Option.getD_none, if_true, if_false, reduceIte, Option.map_some, Option.map_none, Option.bind_some, Option.bind_none, Option.isSome_some, List.map_cons, List.map_nil, AV.cells, List.length_cons, List.length_nil, List.all_cons, List.all_nil, AV.one, Value.oneCell', ne_eq, reduceCtorEq, Int.reduceNeg, Int.reduceEq, Int.reduceNe, Int.reduceAdd, Int.reduceSub, Int.reduceMul, Int.reduceLT, Int.reduceLE, Int.reduceToNat, List.drop_zero, List.take_zero, List.drop_succ_cons, List.take_succ_cons, List.nil_append, List.cons_append, List.append_nil, List.replicate_zero, List.flatten_nil, List.flatten_cons, List.reduceReplicate, ge_iff_le, gt_iff_lt, eq_self, Nat.add_assoc, facts, *, rowI_at] | simp (disch := omega) only [Ab.wrap_i64] | ((with_reducible refine Ab.gd_ndec (fun _ => ?_) (fun _ => ?_)) <;> try (exfalso; omega)) | ((with_reducible refine Ab.br_ndec (fun _ => ?_) (fun _ => ?_)) <;> try (exfalso; omega)) | ((with_reducible refine Ab.gd_dec (fun _ => ?_) (fun _ => ?_)) <;> try (exfalso; omega)) | ((with_reducible refine Ab.br_dec (fun _ => ?_) (fun _ => ?_)) <;> try (exfalso; omega)) | (with_reducible refine Ab.run_alt ?_ ?_) | (refine And.intro (by omega) ?_) | (refine gd_split (fun _ => ?_) (fun _ => ?_)) | (refine br_split (fun _ => ?_) (fun _ => ?_)) | omega)
      exact ⟨i + 1, [], by omega, ⟨by omega, hm⟩, by simp, by omega⟩
  · have hh : (xs.any fun y => decide (y = x)) = false := any_none hge ht
    repeat' (first | simp -implicitDefEqProofs only [Ab.R1, Ab.R2, Ab.R3, Ab.R4, Ab.R5, Ab.RH, Ab.RM, Ab.binV, Ab.binC, Nat.reduceLT, Nat.reduceBEq, Nat.reduceAdd, Nat.reduceMul, Nat.reduceEqDiff, Nat.reduceLeDiff, Nat.reduceSub, List.getElem?_cons_zero, List.getElem?_cons_succ, List.getElem?_nil, Option.getD_some, Option.getD_none, if_true, if_false, reduceIte, Option.map_some, Option.map_none, Option.bind_some, Option.bind_none, Option.isSome_some, List.map_cons, List.map_nil, AV.cells, List.length_cons, List.length_nil, List.all_cons, List.all_nil, AV.one, Value.oneCell', ne_eq, reduceCtorEq, Int.reduceNeg, Int.reduceEq, Int.reduceNe, Int.reduceAdd, Int.reduceSub, Int.reduceMul, Int.reduceLT, Int.reduceLE, Int.reduceToNat, List.drop_zero, List.take_zero, List.drop_succ_cons, List.take_succ_cons, List.nil_append, List.cons_append, List.append_nil, List.replicate_zero, List.flatten_nil, List.flatten_cons, List.reduceReplicate, ge_iff_le, gt_iff_lt, eq_self, Nat.add_assoc, facts, *] | simp (disch := omega) only [Ab.wrap_i64] | ((with_reducible refine Ab.gd_ndec (fun _ => ?_) (fun _ => ?_)) <;> try (exfalso; omega)) | ((with_reducible refine Ab.br_ndec (fun _ => ?_) (fun _ => ?_)) <;> try (exfalso; omega)) | ((with_reducible refine Ab.gd_dec (fun _ => ?_) (fun _ => ?_)) <;> try (exfalso; omega)) | ((with_reducible refine Ab.br_dec (fun _ => ?_) (fun _ => ?_)) <;> try (exfalso; omega)) | (with_reducible refine Ab.run_alt ?_ ?_) | (refine And.intro (by omega) ?_) | (refine gd_split (fun _ => ?_) (fun _ => ?_)) | (refine br_split (fun _ => ?_) (fun _ => ?_)) | omega)
theorem crit_any {js : List Jb} (hv : jobsB js = true) {k : Nat} (hk : k < js.length) : ((critI js).any fun y => decide (y = (k : Int))) = decide (eAt js k = lAt js k) := by
  rw [Bool.eq_iff_iff, List.any_eq_true, decide_eq_true_eq]
  unfold critI critZ critGo
  constructor
  · rintro ⟨y, hy, he⟩
    obtain ⟨m, hm, rfl⟩ := List.mem_map.1 hy
    have : m = k := by have := of_decide_eq_true he; omega
    subst this
    exact of_decide_eq_true (List.mem_filter.1 hm).2
  · intro he
    exact ⟨(k : Int), List.mem_map.2 ⟨k, List.mem_filter.2 ⟨List.mem_range.2 (by rw [earl_len hv]; exact hk), decide_eq_true he⟩, rfl⟩, decide_eq_true rfl⟩
theorem crit_pos {js : List Jb} (hv : jobsB js = true) : 0 < (critI js).length := by
  obtain ⟨k, hk, he⟩ := crit_some hv
  have h1 := crit_any hv hk
  rw [decide_eq_true he, List.any_eq_true] at h1
  obtain ⟨y, hy, _⟩ := h1
  exact List.length_pos_of_mem hy
theorem one_room {js : List Jb} (hv : jobsB js = true) : oneBy js ≤ 1200 := by
  have h1 := sumGo_bound hv js.length (Nat.le_refl _)
  have h2 := jobsB_len hv
  rw [oneBy, if_pos hv]; omega
theorem earl_get {js : List Jb} (hv : jobsB js = true) {k : Nat} (hk : k < js.length) : (earl js)[k]? = some (eAt js k) := by
  obtain ⟨x, hx⟩ := some_at (show k < (earl js).length by rw [earl_len hv]; exact hk)
  rw [hx, eAt, List.getD, hx]; rfl
theorem late_get {js : List Jb} (hv : jobsB js = true) {k : Nat} (hk : k < js.length) : (late js)[k]? = some (lAt js k) := by
  obtain ⟨x, hx⟩ := some_at (show k < (late js).length by rw [late_len hv]; exact hk)
  rw [hx, lAt, List.getD, hx]; rfl
/-- the heap by a name -/
theorem gen_heap {P : Program} {n : Nat} {h0 : Heap} {c : LC} {Q : Exit → S → Heap → Prop} {s : S} {h : Heap} (hh : ∀ H, H = h → LW P n h0 c Q s H) : LW P n h0 c Q s h := hh h rfl
theorem bb1 : (true == true) = true := rfl
theorem bb2 : (false == false) = true := rfl
theorem rem4 {x : Int} (h0 : 0 ≤ x) : 0 ≤ x.tmod 4 ∧ x.tmod 4 < 4 := by
  rw [Int.tmod_eq_emod_of_nonneg h0]
  exact ⟨Int.emod_nonneg _ (by omega), Int.emod_lt_of_pos _ (by omega)⟩

set_option maxHeartbeats 4000000 in
theorem lawBench_ok (bs : List UInt8) (ci : Nat) (hm : bs.length ≤ maxLen) (h : Heap) (hr : rd h ci bs.length = some (rowU bs)) :
    AC Try.prog 10 [.sub ci bs.length 1 0 bs.length] h fun r _ => r = VB true := by
  refine AC_go mixed ok10 (by simp) fun hc _ => ?_
  unfold L10
  unfold maxLen at hm
  rcases Nat.lt_or_ge 1048576 bs.length with hbig | hn
  · repeat' (first | simp -implicitDefEqProofs only [Ab.R1, Ab.R2, Ab.R3, Ab.R4, Ab.R5, Ab.RH, Ab.RM, Ab.binV, Ab.binC, Nat.reduceLT, Nat.reduceBEq, Nat.reduceAdd, Nat.reduceMul, Nat.reduceEqDiff, Nat.reduceLeDiff, Nat.reduceSub, List.getElem?_cons_zero, List.getElem?_cons_succ, List.getElem?_nil, Option.getD_some, Option.getD_none, if_true, if_false, reduceIte, Option.map_some, Option.map_none, Option.bind_some, Option.bind_none, Option.isSome_some, List.map_cons, List.map_nil, AV.cells, List.length_cons, List.length_nil, List.all_cons, List.all_nil, AV.one, Value.oneCell', ne_eq, reduceCtorEq, Int.reduceNeg, Int.reduceEq, Int.reduceNe, Int.reduceAdd, Int.reduceSub, Int.reduceMul, Int.reduceLT, Int.reduceLE, Int.reduceToNat, List.drop_zero, List.take_zero, List.drop_succ_cons, List.take_succ_cons, List.nil_append, List.cons_append, List.append_nil, List.replicate_zero, List.flatten_nil, List.flatten_cons, List.reduceReplicate, ge_iff_le, gt_iff_lt, eq_self, Nat.add_assoc, facts, *] | simp (disch := omega) only [Ab.wrap_i64] | ((with_reducible refine Ab.gd_ndec (fun _ => ?_) (fun _ => ?_)) <;> try (exfalso; omega)) | ((with_reducible refine Ab.br_ndec (fun _ => ?_) (fun _ => ?_)) <;> try (exfalso; omega)) | ((with_reducible refine Ab.gd_dec (fun _ => ?_) (fun _ => ?_)) <;> try (exfalso; omega)) | ((with_reducible refine Ab.br_dec (fun _ => ?_) (fun _ => ?_)) <;> try (exfalso; omega)) | (with_reducible refine Ab.run_alt ?_ ?_) | (refine And.intro (by omega) ?_) | (refine gd_split (fun _ => ?_) (fun _ => ?_)) | (refine br_split (fun _ => ?_) (fun _ => ?_)) | (refine cl_same (big_ok bs ci _ hr) ?_) | omega)
  · repeat' (first | simp -implicitDefEqProofs only [Ab.R1, Ab.R2, Ab.R3, Ab.R4, Ab.R5, Ab.RH, Ab.RM, Ab.binV, Ab.binC, Nat.reduceLT, Nat.reduceBEq, Nat.reduceAdd, Nat.reduceMul, Nat.reduceEqDiff, Nat.reduceLeDiff, Nat.reduceSub, List.getElem?_cons_zero, List.getElem?_cons_succ, List.getElem?_nil, Option.getD_some, Option.getD_none, if_true, if_false, reduceIte, Option.map_some, Option.map_none, Option.bind_some, Option.bind_none, Option.isSome_some, List.map_cons, List.map_nil, AV.cells, List.length_cons, List.length_nil, List.all_cons, List.all_nil, AV.one, Value.oneCell', ne_eq, reduceCtorEq, Int.reduceNeg, Int.reduceEq, Int.reduceNe, Int.reduceAdd, Int.reduceSub, Int.reduceMul, Int.reduceLT, Int.reduceLE, Int.reduceToNat, List.drop_zero, List.take_zero, List.drop_succ_cons, List.take_succ_cons, List.nil_append, List.cons_append, List.append_nil, List.replicate_zero, List.flatten_nil, List.flatten_cons, List.reduceReplicate, ge_iff_le, gt_iff_lt, eq_self, Nat.add_assoc, facts, *] | simp (disch := omega) only [Ab.wrap_i64] | ((with_reducible refine Ab.gd_ndec (fun _ => ?_) (fun _ => ?_)) <;> try (exfalso; omega)) | ((with_reducible refine Ab.br_ndec (fun _ => ?_) (fun _ => ?_)) <;> try (exfalso; omega)) | ((with_reducible refine Ab.gd_dec (fun _ => ?_) (fun _ => ?_)) <;> try (exfalso; omega)) | ((with_reducible refine Ab.br_dec (fun _ => ?_) (fun _ => ?_)) <;> try (exfalso; omega)) | (with_reducible refine Ab.run_alt ?_ ?_) | (refine And.intro (by omega) ?_) | (refine gd_split (fun _ => ?_) (fun _ => ?_)) | (refine br_split (fun _ => ?_) (fun _ => ?_)) | (refine cl_same (big_ok bs ci _ hr) ?_) | omega)
    refine cl_any (drawJobs_ok hn _ hr) ?_
    rintro _ _ ⟨js, E, rid, hv, hE, rfl, rfl⟩
    have hEs : ∀ l, sz (h ++ (E ++ l)) rid = some (js.length * 2) := fun l => by obtain ⟨ids, n⟩ := hE l; exact n.sz
    have hrd : ∀ l, rd (h ++ l) ci bs.length = some (rowU bs) := fun l => rd_old hr l
    have hE0 : NJ (h ++ E) rid js := by have := hE []; rwa [List.append_nil] at this
    obtain ⟨hl1, hl2⟩ := jobsB_len hv
    have hmj : ∀ j ∈ js, j.2.length ≤ 1048576 := fun j hj => by
      obtain ⟨k, hk⟩ := List.getElem?_of_mem hj
      have := jobsB_short hv (some_lt hk)
      rw [aft_of hk] at this; omega
    have hel := earl_len hv
    have hll := late_len hv
    have hcp := crit_pos hv
    have hcl := critI_le js
    obtain ⟨hn1, hn2⟩ := need_bound hv
    have ho := one_room hv
    have w1 := work_ended hv (w := 1) (by omega) (by omega)
    have w12 := work_ended hv (w := 12) (by omega) (by omega)
    have hno : need js ≤ oneBy js := by have := w1.nd; have := w1.long; omega
    have hw1 : withW js 1 = oneBy js := by have := w1.fill; have := w1.long; simp only [Int.natCast_one, Int.one_mul] at *; omega
    have hw12 : withW js 12 = need js := w12.many hl2
    have q1 := rowI_len (earl js)
    have q2 := rowI_len (late js)
    have q3 := rowI_len (critI js)
    have c1 := implEarl_ok js rid (by omega) hmj
    have c2 := implLatest_ok js rid (by omega) hmj
    have c3 := implNeed_ok js rid (by omega) hmj
    have c4 := implCrit_ok js rid (by omega) hmj
    have c5 := implOne_ok js rid (by omega) hmj
    rw [hel] at c1 q1
    rw [hll] at c2 q2
    clear w1 w12 hel hll
    repeat' (first | simp -implicitDefEqProofs only [Ab.R1, Ab.R2, Ab.R3, Ab.R4, Ab.R5, Ab.RH, Ab.RM, Ab.binV, Ab.binC, Nat.reduceLT, Nat.reduceBEq, Nat.reduceAdd, Nat.reduceMul, Nat.reduceEqDiff, Nat.reduceLeDiff, Nat.reduceSub, List.getElem?_cons_zero, List.getElem?_cons_succ, List.getElem?_nil, Option.getD_some, Option.getD_none, if_true, if_false, reduceIte, Option.map_some, Option.map_none, Option.bind_some, Option.bind_none, Option.isSome_some, List.map_cons, List.map_nil, AV.cells, List.length_cons, List.length_nil, List.all_cons, List.all_nil, AV.one, Value.oneCell', ne_eq, reduceCtorEq, Int.reduceNeg, Int.reduceEq, Int.reduceNe, Int.reduceAdd, Int.reduceSub, Int.reduceMul, Int.reduceLT, Int.reduceLE, Int.reduceToNat, List.drop_zero, List.take_zero, List.drop_succ_cons, List.take_succ_cons, List.nil_append, List.cons_append, List.append_nil, List.replicate_zero, List.flatten_nil, List.flatten_cons, List.reduceReplicate, ge_iff_le, gt_iff_lt, eq_self, Nat.add_assoc, facts, *, rd_cons1, rd_cons2, rd_cons3, sz_cons1, sz_cons2, sz_cons3, wr_cons1, wr_cons2, wr_cons3, set_cons1, set_cons2, set_cons3] | simp (disch := omega) only [Ab.wrap_i64] | ((with_reducible refine Ab.gd_ndec (fun _ => ?_) (fun _ => ?_)) <;> try (exfalso; omega)) | ((with_reducible refine Ab.br_ndec (fun _ => ?_) (fun _ => ?_)) <;> try (exfalso; omega)) | ((with_reducible refine Ab.gd_dec (fun _ => ?_) (fun _ => ?_)) <;> try (exfalso; omega)) | ((with_reducible refine Ab.br_dec (fun _ => ?_) (fun _ => ?_)) <;> try (exfalso; omega)) | (with_reducible refine Ab.run_alt ?_ ?_) | (refine And.intro (by omega) ?_) | (refine gd_split (fun _ => ?_) (fun _ => ?_)) | (refine br_split (fun _ => ?_) (fun _ => ?_)) | (refine cl_more ( c1 _ hE0) ?_) | (refine cl_more ( c2 _ (hE _)) ?_) | (refine cl_same (c3 _ (hE _)) ?_) | (refine cl_more ( c4 _ (hE _)) ?_) | (refine cl_same (c5 _ (hE _)) ?_) | omega)
    refine gen_heap fun H hH => ?_
    have gJ : ∀ l, NJ (H ++ l) rid js := fun l => by rw [hH]; simp only [List.append_assoc, List.cons_append, List.nil_append]; exact hE _
    have gU : ∀ l, rd (H ++ l) ci bs.length = some (rowU bs) := fun l => by rw [hH]; simp only [List.append_assoc]; exact hrd _
    have gA : ∀ l, rd (H ++ l) (h.length + E.length) js.length = some (rowI (earl js)) := fun l => by rw [hH]; simp -implicitDefEqProofs only [Ab.app_assoc, Ab.len_app, Ab.sz_newk, Ab.sz_new0, Ab.rd_newk, Ab.rd_new0, Ab.wr_newk, Ab.wr_new0, Ab.set_newk, Ab.set_new0, Ab.sz_cons, Ab.sz_row0, Ab.sz_ro0, Ab.rd_cons, Ab.rd_row, Ab.rd_ro0, Ab.wr_cons, Ab.wr_row, Ab.set_cons_zero, Ab.set_cons_succ, Ab.rowI_len, Ab.rowB_len, Ab.rowS_len, Ab.rowU_len, Nat.add_assoc, List.cons_append, List.nil_append, List.append_nil, List.length_cons, List.length_nil, Nat.reduceAdd, Nat.reduceSub, Nat.reduceEqDiff, Nat.zero_add, Nat.add_zero, Nat.mul_one, Nat.one_mul, if_true, if_false, reduceIte, reduceCtorEq, eq_self, q1, rd_cons1, rd_cons2, rd_cons3, sz_cons1, sz_cons2, sz_cons3, wr_cons1, wr_cons2, wr_cons3, set_cons1, set_cons2, set_cons3]
    have gB : ∀ l, rd (H ++ l) (h.length + (E.length + 1)) js.length = some (rowI (late js)) := fun l => by rw [hH]; simp -implicitDefEqProofs only [Ab.app_assoc, Ab.len_app, Ab.sz_newk, Ab.sz_new0, Ab.rd_newk, Ab.rd_new0, Ab.wr_newk, Ab.wr_new0, Ab.set_newk, Ab.set_new0, Ab.sz_cons, Ab.sz_row0, Ab.sz_ro0, Ab.rd_cons, Ab.rd_row, Ab.rd_ro0, Ab.wr_cons, Ab.wr_row, Ab.set_cons_zero, Ab.set_cons_succ, Ab.rowI_len, Ab.rowB_len, Ab.rowS_len, Ab.rowU_len, Nat.add_assoc, List.cons_append, List.nil_append, List.append_nil, List.length_cons, List.length_nil, Nat.reduceAdd, Nat.reduceSub, Nat.reduceEqDiff, Nat.zero_add, Nat.add_zero, Nat.mul_one, Nat.one_mul, if_true, if_false, reduceIte, reduceCtorEq, eq_self, q2, rd_cons1, rd_cons2, rd_cons3, sz_cons1, sz_cons2, sz_cons3, wr_cons1, wr_cons2, wr_cons3, set_cons1, set_cons2, set_cons3]
    have gC : ∀ l, rd (H ++ l) (h.length + (E.length + 2)) (critI js).length = some (rowI (critI js)) := fun l => by rw [hH]; simp -implicitDefEqProofs only [Ab.app_assoc, Ab.len_app, Ab.sz_newk, Ab.sz_new0, Ab.rd_newk, Ab.rd_new0, Ab.wr_newk, Ab.wr_new0, Ab.set_newk, Ab.set_new0, Ab.sz_cons, Ab.sz_row0, Ab.sz_ro0, Ab.rd_cons, Ab.rd_row, Ab.rd_ro0, Ab.wr_cons, Ab.wr_row, Ab.set_cons_zero, Ab.set_cons_succ, Ab.rowI_len, Ab.rowB_len, Ab.rowS_len, Ab.rowU_len, Nat.add_assoc, List.cons_append, List.nil_append, List.append_nil, List.length_cons, List.length_nil, Nat.reduceAdd, Nat.reduceSub, Nat.reduceEqDiff, Nat.zero_add, Nat.add_zero, Nat.mul_one, Nat.one_mul, if_true, if_false, reduceIte, reduceCtorEq, eq_self, q3, rd_cons1, rd_cons2, rd_cons3, sz_cons1, sz_cons2, sz_cons3, wr_cons1, wr_cons2, wr_cons3, set_cons1, set_cons2, set_cons3]
    have gJ0 := gJ []; have gU0 := gU []; have gA0 := gA []; have gB0 := gB []; have gC0 := gC []
    rw [List.append_nil] at gJ0 gU0 gA0 gB0 gC0
    clear hH hE hE0 hEs c1 c2 c3 c4 c5 hrd
    generalize h.length + E.length = i1 at *
    generalize h.length + (E.length + 1) = i2 at *
    generalize h.length + (E.length + 2) = i3 at *
    have sA0 := sz_of gA0; have sB0 := sz_of gB0; have sC0 := sz_of gC0
    have cw := fun (w : Int) => implWork_ok js w rid (by omega) hmj
    have cj := implJobsOk_ok js rid (by omega) hmj
    rw [hv] at cj
    refine lw_loopS K10b1 (fun k : Nat => [(9, VI k)]) (fun _ => _) (fun k => k ≤ js.length) (fun k => js.length - k) 0 (by omega) rfl ?_ (fun hc' _ _ => .same hc' (by simp [AV.ok])) ?_
    · (simp -implicitDefEqProofs only [Ab.R1, Ab.R2, Ab.R3, Ab.R4, Ab.R5, Ab.RH, Ab.RM, Ab.binV, Ab.binC, Nat.reduceLT, Nat.reduceBEq, Nat.reduceAdd, Nat.reduceMul, Nat.reduceEqDiff, Nat.reduceLeDiff, Nat.reduceSub, List.getElem?_cons_zero, List.getElem?_cons_succ, List.getElem?_nil, Option.getD_some, Option.getD_none, if_true, if_false, reduceIte, Option.map_some, Option.map_none, Option.bind_some, Option.bind_none, Option.isSome_some, List.map_cons, List.map_nil, AV.cells, List.length_cons, List.length_nil, List.all_cons, List.all_nil, AV.one, Value.oneCell', ne_eq, reduceCtorEq, Int.reduceNeg, Int.reduceEq, Int.reduceNe, Int.reduceAdd, Int.reduceSub, Int.reduceMul, Int.reduceLT, Int.reduceLE, Int.reduceToNat, List.drop_zero, List.take_zero, List.drop_succ_cons, List.take_succ_cons, List.nil_append, List.cons_append, List.append_nil, List.replicate_zero, List.flatten_nil, List.flatten_cons, List.reduceReplicate, ge_iff_le, gt_iff_lt, eq_self, Nat.add_assoc, facts] <;> first | rfl | exact ⟨rfl, rfl⟩ | exact ⟨rfl, rfl, rfl⟩ | (simp; done))
    intro k hk _
    refine lw_run mixed ?_
    unfold L10b1 K10b1
    rcases Nat.lt_or_ge k js.length with hlt | hge
    · obtain ⟨j, hj⟩ := some_at hlt
      obtain ⟨ids, nJ⟩ := gJ0
      have hro := nJ.row
      have hrs := nJ.sz
      have hla := nJ.cells_len fJ_len
      obtain ⟨i0, _, hz0, hr0⟩ := nJ.elt hj
      rw [rowI_len] at hr0
      have hs0 := sz_of hr0
      have e1 := earl_get hv hlt
      have e2 := late_get hv hlt
      have f1 := e_nonneg hv hlt
      have f2 := l_ge hv hlt
      have f3 := l_need hv hlt
      have f4 := jobsB_hrs hv hlt
      have hpre : ∀ (i : Nat) (a : Int), j.2[i]? = some a → ∃ ja ia x y, 0 ≤ a ∧ (js.zip ids)[a.toNat]? = some (ja, ia) ∧ (earl js)[a.toNat]? = some x ∧ (late js)[a.toNat]? = some y ∧ a.toNat < js.length ∧ 0 ≤ x ∧ 0 ≤ y ∧ 1 ≤ ja.1 ∧ x + ja.1 ≤ eAt js k ∧ y + ja.1 ≤ lAt js k := fun i a ha => by
        have hma : a ∈ aft js k := by rw [aft_of hj]; exact List.mem_of_getElem? ha
        have g1 := jobsB_mem hv hlt hma
        have hal : a.toNat < js.length := by omega
        obtain ⟨ja, hja⟩ := some_at hal
        obtain ⟨ia, _, hza, _⟩ := nJ.elt hja
        have g2 := e_pred hv hlt hma
        have g3 := l_pred hv hlt hma
        have g4 := e_nonneg hv hal
        have g5 := l_ge hv hal
        have g6 := jobsB_hrs hv hal
        rw [hrs_of hja] at g2 g3 g6
        exact ⟨ja, ia, _, _, g1.1, hza, earl_get hv hal, late_get hv hal, hal, g4, by omega, g6.1, g2, g3⟩
      have hsh := jobsB_short hv hlt
      rw [aft_of hj] at hsh
      rw [hrs_of hj] at f3 f4
      have hcr := has_ok (critI js) k i3 (by omega) H gC0
      rw [crit_any hv hlt] at hcr
      generalize eAt js k = e at *
      generalize lAt js k = t at *
      have hee : (decide (e = t) == decide (e = t)) = true := beq_self_eq_true _
      repeat' (first | simp -implicitDefEqProofs only [Ab.R1, Ab.R2, Ab.R3, Ab.R4, Ab.R5, Ab.RH, Ab.RM, Ab.binV, Ab.binC, Nat.reduceLT, Nat.reduceBEq, Nat.reduceAdd, Nat.reduceMul, Nat.reduceEqDiff, Nat.reduceLeDiff, Nat.reduceSub, List.getElem?_cons_zero, List.getElem?_cons_succ, List.getElem?_nil, Option.getD_some, Option.getD_none, if_true, if_false, reduceIte, Option.map_some, Option.map_none, Option.bind_some, Option.bind_none, Option.isSome_some, List.map_cons, List.map_nil, AV.cells, List.length_cons, List.length_nil, List.all_cons, List.all_nil, AV.one, Value.oneCell', ne_eq, reduceCtorEq, Int.reduceNeg, Int.reduceEq, Int.reduceNe, Int.reduceAdd, Int.reduceSub, Int.reduceMul, Int.reduceLT, Int.reduceLE, Int.reduceToNat, List.drop_zero, List.take_zero, List.drop_succ_cons, List.take_succ_cons, List.nil_append, List.cons_append, List.append_nil, List.replicate_zero, List.flatten_nil, List.flatten_cons, List.reduceReplicate, ge_iff_le, gt_iff_lt, eq_self, Nat.add_assoc, facts, *, fJ_seg, rowI_at, fJ_at, fJ_at0, Bool.not_true] | simp (disch := omega) only [Ab.wrap_i64] | ((with_reducible refine Ab.gd_ndec (fun _ => ?_) (fun _ => ?_)) <;> try (exfalso; omega)) | ((with_reducible refine Ab.br_ndec (fun _ => ?_) (fun _ => ?_)) <;> try (exfalso; omega)) | ((with_reducible refine Ab.gd_dec (fun _ => ?_) (fun _ => ?_)) <;> try (exfalso; omega)) | ((with_reducible refine Ab.br_dec (fun _ => ?_) (fun _ => ?_)) <;> try (exfalso; omega)) | (with_reducible refine Ab.run_alt ?_ ?_) | (refine And.intro (by omega) ?_) | (refine gd_split (fun _ => ?_) (fun _ => ?_)) | (refine br_split (fun _ => ?_) (fun _ => ?_)) | (refine cl_same (hcr) ?_) | omega)
      refine lw_loopS K10b0 (fun i : Nat => [(10, VI i)]) (fun _ => _) (fun i => i ≤ j.2.length) (fun i => j.2.length - i) 0 (by omega) rfl ?_ (fun hc' _ _ => .same hc' (by simp [AV.ok])) ?_
      · (simp -implicitDefEqProofs only [Ab.R1, Ab.R2, Ab.R3, Ab.R4, Ab.R5, Ab.RH, Ab.RM, Ab.binV, Ab.binC, Nat.reduceLT, Nat.reduceBEq, Nat.reduceAdd, Nat.reduceMul, Nat.reduceEqDiff, Nat.reduceLeDiff, Nat.reduceSub, List.getElem?_cons_zero, List.getElem?_cons_succ, List.getElem?_nil, Option.getD_some, Option.getD_none, if_true, if_false, reduceIte, Option.map_some, Option.map_none, Option.bind_some, Option.bind_none, Option.isSome_some, List.map_cons, List.map_nil, AV.cells, List.length_cons, List.length_nil, List.all_cons, List.all_nil, AV.one, Value.oneCell', ne_eq, reduceCtorEq, Int.reduceNeg, Int.reduceEq, Int.reduceNe, Int.reduceAdd, Int.reduceSub, Int.reduceMul, Int.reduceLT, Int.reduceLE, Int.reduceToNat, List.drop_zero, List.take_zero, List.drop_succ_cons, List.take_succ_cons, List.nil_append, List.cons_append, List.append_nil, List.replicate_zero, List.flatten_nil, List.flatten_cons, List.reduceReplicate, ge_iff_le, gt_iff_lt, eq_self, Nat.add_assoc, facts] <;> first | rfl | exact ⟨rfl, rfl⟩ | exact ⟨rfl, rfl, rfl⟩ | (simp; done))
      intro i hi _
      refine lw_run mixed ?_
      unfold L10b0 K10b0
      rcases Nat.lt_or_ge i j.2.length with hlt2 | hge2
      · obtain ⟨a, ha⟩ := some_at hlt2
        obtain ⟨ja, ia, x, y, g1, g2, g3, g4, g5, g6, g7, g8, g9, g10⟩ := hpre i a ha
        clear hpre hcr hee
        repeat' (first | simp -implicitDefEqProofs only [Ab.R1, Ab.R2, Ab.R3, Ab.R4, Ab.R5, Ab.RH, Ab.RM, Ab.binV, Ab.binC, Nat.reduceLT, Nat.reduceBEq, Nat.reduceAdd, Nat.reduceMul, Nat.reduceEqDiff, Nat.reduceLeDiff, Nat.reduceSub, List.getElem?_cons_zero, List.getElem?_cons_succ, List.getElem?_nil, Option.getD_some, Option.getD_none, if_true, if_false, reduceIte, Option.map_some, Option.map_none, Option.bind_some, Option.bind_none, Option.isSome_some, List.map_cons, List.map_nil, AV.cells, List.length_cons, List.length_nil, List.all_cons, List.all_nil, AV.one, Value.oneCell', ne_eq, reduceCtorEq, Int.reduceNeg, Int.reduceEq, Int.reduceNe, Int.reduceAdd, Int.reduceSub, Int.reduceMul, Int.reduceLT, Int.reduceLE, Int.reduceToNat, List.drop_zero, List.take_zero, List.drop_succ_cons, List.take_succ_cons, List.nil_append, List.cons_append, List.append_nil, List.replicate_zero, List.flatten_nil, List.flatten_cons, List.reduceReplicate, ge_iff_le, gt_iff_lt, eq_self, Nat.add_assoc, facts, *, fJ_seg, rowI_at, fJ_at, fJ_at0, Bool.not_true] | simp (disch := omega) only [Ab.wrap_i64] | ((with_reducible refine Ab.gd_ndec (fun _ => ?_) (fun _ => ?_)) <;> try (exfalso; omega)) | ((with_reducible refine Ab.br_ndec (fun _ => ?_) (fun _ => ?_)) <;> try (exfalso; omega)) | ((with_reducible refine Ab.gd_dec (fun _ => ?_) (fun _ => ?_)) <;> try (exfalso; omega)) | ((with_reducible refine Ab.br_dec (fun _ => ?_) (fun _ => ?_)) <;> try (exfalso; omega)) | (with_reducible refine Ab.run_alt ?_ ?_) | (refine And.intro (by omega) ?_) | (refine gd_split (fun _ => ?_) (fun _ => ?_)) | (refine br_split (fun _ => ?_) (fun _ => ?_)) | omega)
        exact ⟨i + 1, [], by omega, by omega, (List.append_nil _).symm, by omega⟩
      · repeat' (first | simp -implicitDefEqProofs only [Ab.R1, Ab.R2, Ab.R3, Ab.R4, Ab.R5, Ab.RH, Ab.RM, Ab.binV, Ab.binC, Nat.reduceLT, Nat.reduceBEq, Nat.reduceAdd, Nat.reduceMul, Nat.reduceEqDiff, Nat.reduceLeDiff, Nat.reduceSub, List.getElem?_cons_zero, List.getElem?_cons_succ, List.getElem?_nil, Option.getD_some, Option.getD_none, if_true, if_false, reduceIte, Option.map_some, Option.map_none, Option.bind_some, Option.bind_none, Option.isSome_some, List.map_cons, List.map_nil, AV.cells, List.length_cons, List.length_nil, List.all_cons, List.all_nil, AV.one, Value.oneCell', ne_eq, reduceCtorEq, Int.reduceNeg, Int.reduceEq, Int.reduceNe, Int.reduceAdd, Int.reduceSub, Int.reduceMul, Int.reduceLT, Int.reduceLE, Int.reduceToNat, List.drop_zero, List.take_zero, List.drop_succ_cons, List.take_succ_cons, List.nil_append, List.cons_append, List.append_nil, List.replicate_zero, List.flatten_nil, List.flatten_cons, List.reduceReplicate, ge_iff_le, gt_iff_lt, eq_self, Nat.add_assoc, facts, *, fJ_seg, rowI_at, fJ_at, fJ_at0] | simp (disch := omega) only [Ab.wrap_i64] | ((with_reducible refine Ab.gd_ndec (fun _ => ?_) (fun _ => ?_)) <;> try (exfalso; omega)) | ((with_reducible refine Ab.br_ndec (fun _ => ?_) (fun _ => ?_)) <;> try (exfalso; omega)) | ((with_reducible refine Ab.gd_dec (fun _ => ?_) (fun _ => ?_)) <;> try (exfalso; omega)) | ((with_reducible refine Ab.br_dec (fun _ => ?_) (fun _ => ?_)) <;> try (exfalso; omega)) | (with_reducible refine Ab.run_alt ?_ ?_) | (refine And.intro (by omega) ?_) | (refine gd_split (fun _ => ?_) (fun _ => ?_)) | (refine br_split (fun _ => ?_) (fun _ => ?_)) | omega)
        exact ⟨k + 1, [], by omega, by omega, (List.append_nil _).symm, by omega⟩
    · obtain rfl : k = js.length := by omega
      have hrs : sz H rid = some (js.length * 2) := by obtain ⟨ids, nJ⟩ := gJ0; exact nJ.sz
      repeat' (first | simp -implicitDefEqProofs only [Ab.R1, Ab.R2, Ab.R3, Ab.R4, Ab.R5, Ab.RH, Ab.RM, Ab.binV, Ab.binC, Nat.reduceLT, Nat.reduceBEq, Nat.reduceAdd, Nat.reduceMul, Nat.reduceEqDiff, Nat.reduceLeDiff, Nat.reduceSub, List.getElem?_cons_zero, List.getElem?_cons_succ, List.getElem?_nil, Option.getD_some, Option.getD_none, if_true, if_false, reduceIte, Option.map_some, Option.map_none, Option.bind_some, Option.bind_none, Option.isSome_some, List.map_cons, List.map_nil, AV.cells, List.length_cons, List.length_nil, List.all_cons, List.all_nil, AV.one, Value.oneCell', ne_eq, reduceCtorEq, Int.reduceNeg, Int.reduceEq, Int.reduceNe, Int.reduceAdd, Int.reduceSub, Int.reduceMul, Int.reduceLT, Int.reduceLE, Int.reduceToNat, List.drop_zero, List.take_zero, List.drop_succ_cons, List.take_succ_cons, List.nil_append, List.cons_append, List.append_nil, List.replicate_zero, List.flatten_nil, List.flatten_cons, List.reduceReplicate, ge_iff_le, gt_iff_lt, eq_self, Nat.add_assoc, facts, *] | simp (disch := omega) only [Ab.wrap_i64] | ((with_reducible refine Ab.gd_ndec (fun _ => ?_) (fun _ => ?_)) <;> try (exfalso; omega)) | ((with_reducible refine Ab.br_ndec (fun _ => ?_) (fun _ => ?_)) <;> try (exfalso; omega)) | ((with_reducible refine Ab.gd_dec (fun _ => ?_) (fun _ => ?_)) <;> try (exfalso; omega)) | ((with_reducible refine Ab.br_dec (fun _ => ?_) (fun _ => ?_)) <;> try (exfalso; omega)) | (with_reducible refine Ab.run_alt ?_ ?_) | (refine And.intro (by omega) ?_) | (refine gd_split (fun _ => ?_) (fun _ => ?_)) | (refine br_split (fun _ => ?_) (fun _ => ?_)) | omega)
      refine cl_any (at_ok bs ci 0 (by omega) hn _ gU0) ?_
      rintro _ _ ⟨y1, u1, v1, rfl, rfl⟩
      obtain ⟨ua, va⟩ := rem4 u1
      generalize hA : y1.tmod 4 = t at ua va
      obtain ⟨w, hw⟩ : ∃ w : Nat, 1 + t = w := ⟨(1 + t).toNat, by omega⟩
      have ww := work_ended hv (w := w) (by omega) (by omega)
      obtain ⟨d1, d2, d3, d4, _⟩ := ww
      have cwx := cw w
      generalize withW js w = x at *
      have b1 : 0 ≤ x * (w : Int) ∧ x * (w : Int) ≤ 1200 * 4 := ⟨Int.mul_nonneg (by omega) (by omega), Int.mul_le_mul (by omega) (by omega) (by omega) (by omega)⟩
      have b2 : 0 ≤ (w : Int) * x ∧ (w : Int) * x ≤ 4 * 1200 := ⟨Int.mul_nonneg (by omega) (by omega), Int.mul_le_mul (by omega) (by omega) (by omega) (by omega)⟩
      have b3 : 0 ≤ ((w : Int) - 1) * need js ∧ ((w : Int) - 1) * need js ≤ 4 * 1200 := ⟨Int.mul_nonneg (by omega) (by omega), Int.mul_le_mul (by omega) (by omega) (by omega) (by omega)⟩
      have d5 : oneBy js ≤ x * (w : Int) := by rw [Int.mul_comm]; exact d1
      have cw1 := cw 1
      have cw12 := cw 12
      rw [hw1] at cw1
      rw [hw12] at cw12
      have hA1 : 1 + y1.tmod 4 = w := by omega
      repeat' (first | simp -implicitDefEqProofs only [Ab.R1, Ab.R2, Ab.R3, Ab.R4, Ab.R5, Ab.RH, Ab.RM, Ab.binV, Ab.binC, Nat.reduceLT, Nat.reduceBEq, Nat.reduceAdd, Nat.reduceMul, Nat.reduceEqDiff, Nat.reduceLeDiff, Nat.reduceSub, List.getElem?_cons_zero, List.getElem?_cons_succ, List.getElem?_nil, Option.getD_some, Option.getD_none, if_true, if_false, reduceIte, Option.map_some, Option.map_none, Option.bind_some, Option.bind_none, Option.isSome_some, List.map_cons, List.map_nil, AV.cells, List.length_cons, List.length_nil, List.all_cons, List.all_nil, AV.one, Value.oneCell', ne_eq, reduceCtorEq, Int.reduceNeg, Int.reduceEq, Int.reduceNe, Int.reduceAdd, Int.reduceSub, Int.reduceMul, Int.reduceLT, Int.reduceLE, Int.reduceToNat, List.drop_zero, List.take_zero, List.drop_succ_cons, List.take_succ_cons, List.nil_append, List.cons_append, List.append_nil, List.replicate_zero, List.flatten_nil, List.flatten_cons, List.reduceReplicate, ge_iff_le, gt_iff_lt, eq_self, Nat.add_assoc, facts, *] | simp (disch := omega) only [Ab.wrap_i64] | ((with_reducible refine Ab.gd_ndec (fun _ => ?_) (fun _ => ?_)) <;> try (exfalso; omega)) | ((with_reducible refine Ab.br_ndec (fun _ => ?_) (fun _ => ?_)) <;> try (exfalso; omega)) | ((with_reducible refine Ab.gd_dec (fun _ => ?_) (fun _ => ?_)) <;> try (exfalso; omega)) | ((with_reducible refine Ab.br_dec (fun _ => ?_) (fun _ => ?_)) <;> try (exfalso; omega)) | (with_reducible refine Ab.run_alt ?_ ?_) | (refine And.intro (by omega) ?_) | (refine gd_split (fun _ => ?_) (fun _ => ?_)) | (refine br_split (fun _ => ?_) (fun _ => ?_)) | (refine cl_same (cwx _ gJ0) ?_) | (refine cl_same (cw1 _ gJ0) ?_) | (refine cl_same (cw12 _ gJ0) ?_) | (refine cl_same (cj _ gJ0) ?_) | omega)
end Go.Proofs.Ytmkognfiemgmgaa
