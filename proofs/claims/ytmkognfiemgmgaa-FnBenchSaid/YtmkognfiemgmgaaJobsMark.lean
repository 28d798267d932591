/- Marking jobs: what stands then. -/
import Derived.Test.YtmkognfiemgmgaaAb32
import Derived.Test.YtmkognfiemgmgaaJobs
namespace Go.Proofs.Ytmkognfiemgmgaa
set_option maxRecDepth 20000
set_option linter.unusedSimpArgs false
set_option linter.unusedVariables false
open Go Go.Ab

def kAt (js : List Jb) (i : Nat) : Nat := 1 + i + szT (js.take i)
def mkJ (js : List Jb) (i : Nat) : Jb := ((kAt js i : Int), iotaI (kAt js i + 1) (aft js i).length)
def mkd (js : List Jb) (i : Nat) : List Jb := (List.range i).map (mkJ js) ++ js.drop i
theorem mkd_len {js : List Jb} {i : Nat} (hi : i ≤ js.length) : (mkd js i).length = js.length := by simp [mkd]; omega
theorem mkd_zero (js : List Jb) : mkd js 0 = js := by simp [mkd]
theorem mkd_at {js : List Jb} {i : Nat} {j : Jb} (h : js[i]? = some j) : (mkd js i)[i]? = some j := by
  unfold mkd
  rw [List.getElem?_append_right (by simp)]
  simp [h]
theorem mkd_set {js : List Jb} {i : Nat} {j : Jb} (h : js[i]? = some j) : (mkd js i).set i (mkJ js i) = mkd js (i + 1) := by
  unfold mkd
  rw [List.set_append_right _ _ (by simp), List.range_succ, List.map_append, drop_at h]
  simp
theorem kAt_succ {js : List Jb} {i : Nat} {j : Jb} (h : js[i]? = some j) : kAt js (i + 1) = kAt js i + 1 + j.2.length := by
  unfold kAt; rw [szT_take h]; omega
theorem mkd_lens {js : List Jb} {i k : Nat} {a : Jb} (hi : i ≤ js.length) (h : (mkd js i)[k]? = some a) : ∃ j, js[k]? = some j ∧ a.2.length = j.2.length := by
  unfold mkd at h
  rcases Nat.lt_or_ge k i with hk | hk
  · rw [List.getElem?_append_left (by simpa using hk)] at h
    simp only [List.getElem?_map, List.getElem?_range hk, Option.map_some, Option.some.injEq] at h
    obtain ⟨j, hj⟩ := some_at (show k < js.length by omega)
    refine ⟨j, hj, ?_⟩
    rw [← h]; simp [mkJ, iotaI_len, aft_of hj]
  · rw [List.getElem?_append_right (by simpa using hk)] at h
    simp only [List.length_map, List.length_range, List.getElem?_drop] at h
    rw [show i + (k - i) = k by omega] at h
    exact ⟨a, h, rfl⟩

section
variable {A l : Heap} {js : List Jb}
theorem blkJ_get0 (X : List Jb) (hX : X.length = js.length) (hlen : ∀ (k : Nat) a, X[k]? = some a → ∃ j, js[k]? = some j ∧ a.2.length = j.2.length) :
    closedH (A ++ (blkJ A.length js ++ l)) → Side (A ++ (blkJ A.length js ++ l)) [] (A ++ (blkJ A.length X ++ l)) := by
  intro hc
  have hsh := same_shape (h' := A ++ (blkJ A.length X ++ l)) hc (by simp [blksN_len, hX]) fun id c hcc => by
    rcases three_at (e := blkJ A.length js) (by rw [blksN_len, blksN_len, hX]) hcc with h1 | ⟨k, rfl, hk, hk'⟩
    · exact ⟨c, h1, rfl, hc _ _ h1⟩
    · have hold : ∀ b, (blkJ A.length js)[k]? = some b → (A ++ (blkJ A.length js ++ l))[A.length + k]? = some b := fun b hb => by
        rw [get_new, List.getElem?_append_left (lt_len hb)]; exact hb
      cases k with
      | zero =>
        refine ⟨_, hold _ rfl, ?_, ?_⟩
        · injection hk' with hk'; subst hk'
          simp [fJ_row, hX]
        · injection hk' with hk'; subst hk'
          rw [okAll_iff]
          intro d hd
          simp only [rowOf, List.mem_flatMap] at hd
          obtain ⟨⟨a, i⟩, hp, hd⟩ := hd
          obtain ⟨m, hm⟩ := List.getElem?_of_mem hp
          rw [List.getElem?_zip_eq_some] at hm
          obtain ⟨h1, h2⟩ := hm
          obtain ⟨j, hj, hlj⟩ := hlen m a h1
          rw [List.getElem?_range' (some_lt h1)] at h2
          simp at h2
          subst h2
          simp only [List.mem_cons, List.not_mem_nil, or_false] at hd
          rcases hd with rfl | rfl
          · rfl
          · have hg := blksN_get (f := fJ) (inn := inJ) (e := 40) (es := 2) (ei := 3) (b := A.length) hj
            simp only [AV.ok, refOk, csz]
            rw [show A.length + 1 + m = A.length + (m + 1) by omega, get_new, List.getElem?_append_left (lt_len hg), hg]
            simp [rowI_len, hlj]
      | succ k =>
        have hkl : k < X.length := by rw [blksN_len] at hk; omega
        obtain ⟨a, ha⟩ := some_at hkl
        obtain ⟨j, hj, hlj⟩ := hlen k a ha
        rw [blksN_get ha] at hk'
        injection hk' with hk'; subst hk'
        exact ⟨_, hold _ (blksN_get hj), by simp [rowI_len, hlj], rowI_ok _ _⟩
  exact ⟨hsh.1, hsh.2, fun p hp => by cases hp⟩

theorem blkJ_wr (X : List Jb) : wr (A ++ (blkJ A.length X ++ l)) A.length (X.length * 2) = some (40, 2, rowOf fJ (X.zip (List.range' (A.length + 1) X.length))) := blksN_wr fJ_len rfl l
theorem blkJ_wri {X : List Jb} {k : Nat} {a : Jb} (hk : X[k]? = some a) : wr (A ++ (blkJ A.length X ++ l)) (A.length + (k + 1)) a.2.length = some (3, 1, rowI a.2) := by
  rw [wr_newk]
  have hg := blksN_get (f := fJ) (inn := inJ) (e := 40) (es := 2) (ei := 3) (b := A.length) hk
  unfold wr
  rw [List.getElem?_append_left (lt_len hg), hg]
  simp [rowI_len]
theorem blkJ_set0 (X Y : List Jb) (hY : Y.map (·.2) = X.map (·.2)) : List.set (A ++ (blkJ A.length X ++ l)) A.length ⟨.row 40 2, rowOf fJ (Y.zip (List.range' (A.length + 1) Y.length))⟩ = A ++ (blkJ A.length Y ++ l) := by
  rw [set_new0]
  unfold blkJ blksN
  simp only [List.cons_append, List.set_cons_zero]
  have : List.map (fun a : Jb => (⟨.row 3 1, inJ a⟩ : Blk)) X = List.map (fun a : Jb => ⟨.row 3 1, inJ a⟩) Y := by
    have h1 : ∀ Z : List Jb, List.map (fun a : Jb => (⟨.row 3 1, inJ a⟩ : Blk)) Z = (Z.map (·.2)).map fun a => ⟨.row 3 1, rowI a⟩ := fun Z => by simp
    rw [h1, h1, hY]
  rw [this]
theorem blkJ_seti {X : List Jb} {k : Nat} {a : Jb} (hk : X[k]? = some a) (ys : List Int) (hy : ys.length = a.2.length) : List.set (A ++ (blkJ A.length X ++ l)) (A.length + (k + 1)) ⟨.row 3 1, rowI ys⟩ = A ++ (blkJ A.length (X.set k (a.1, ys)) ++ l) := by
  rw [set_newk]
  congr 1
  unfold blkJ blksN
  simp only [List.cons_append, List.set_cons_succ, List.length_set]
  congr 1
  · congr 1
    have hz : (X.set k (a.1, ys)).zip (List.range' (A.length + 1) X.length) = (X.zip (List.range' (A.length + 1) X.length)).set k ((a.1, ys), A.length + 1 + k) := by
      apply List.ext_getElem?
      intro m
      by_cases hm : k = m
      · subst hm
        have hkl := some_lt hk
        rw [List.getElem?_set_self (by simpa using hkl), List.getElem?_zip_eq_some (z := ((a.1, ys), A.length + 1 + k))]
        refine ⟨List.getElem?_set_self hkl, ?_⟩
        rw [List.getElem?_range' hkl]; simp
      · rw [List.getElem?_set_ne hm]
        cases hx : (X.zip (List.range' (A.length + 1) X.length))[m]? with
        | none =>
          rw [List.getElem?_eq_none_iff] at hx ⊢
          simpa using hx
        | some p =>
          rw [List.getElem?_zip_eq_some] at hx ⊢
          rw [List.getElem?_set_ne hm]; exact hx
    rw [hz]
    have hzk : (X.zip (List.range' (A.length + 1) X.length))[k]? = some (a, A.length + 1 + k) := by
      rw [List.getElem?_zip_eq_some]
      refine ⟨hk, ?_⟩
      rw [List.getElem?_range' (some_lt hk)]; simp
    have := rowOf_cell fJ_len (i := 1) (b := (((a.1, ys), A.length + 1 + k) : Jb × Nat)) (c := .own (A.length + 1 + k) 1 ys.length) hzk (by decide) (by simp [hy])
    rw [← this]
    have hself := rowOf_cell fJ_len (i := 1) (b := ((a, A.length + 1 + k) : Jb × Nat)) (c := .own (A.length + 1 + k) 1 a.2.length) hzk (by decide) (by simp)
    rw [hy, hself]
    congr 1
    apply List.ext_getElem?
    intro m
    by_cases hm : k = m
    · subst hm; rw [List.getElem?_set_self (some_lt hzk), hzk]
    · rw [List.getElem?_set_ne hm]
  · rw [List.set_append_left _ _ (by simpa using some_lt hk)]
    congr 1
    rw [List.map_set]
end

theorem markJobS_ok (js : List Jb) (A l : Heap) (hn : js.length + szT js ≤ 1048576) :
    AC Try.prog 23 [.own A.length 2 js.length, VI 1] (A ++ (blkJ A.length js ++ l)) fun r h' => r = VI (kAt js js.length) ∧ h' = A ++ (blkJ A.length (mkd js js.length) ++ l) := by
  refine AC_go mixed ok23 (by simp) fun hc _ => ?_
  unfold L23
  repeat' (first | simp -implicitDefEqProofs only [Ab.R1, Ab.R2, Ab.R3, Ab.R4, Ab.R5, Ab.RH, Ab.RM, Ab.binV, Ab.binC, Nat.reduceLT, Nat.reduceBEq, Nat.reduceAdd, Nat.reduceMul, Nat.reduceEqDiff, Nat.reduceLeDiff, Nat.reduceSub, List.getElem?_cons_zero, List.getElem?_cons_succ, List.getElem?_nil, Option.getD_some, Option.getD_none, if_true, if_false, reduceIte, Option.map_some, Option.map_none, Option.bind_some, Option.bind_none, Option.isSome_some, List.map_cons, List.map_nil, AV.cells, List.length_cons, List.length_nil, List.all_cons, List.all_nil, AV.one, Value.oneCell', ne_eq, reduceCtorEq, Int.reduceNeg, Int.reduceEq, Int.reduceNe, Int.reduceAdd, Int.reduceSub, Int.reduceMul, Int.reduceLT, Int.reduceLE, Int.reduceToNat, List.drop_zero, List.take_zero, List.drop_succ_cons, List.take_succ_cons, List.nil_append, List.cons_append, List.append_nil, List.replicate_zero, List.flatten_nil, List.flatten_cons, List.reduceReplicate, ge_iff_le, gt_iff_lt, eq_self, Nat.add_assoc, facts, *] | simp (disch := omega) only [Ab.wrap_i64] | ((with_reducible refine Ab.gd_ndec (fun _ => ?_) (fun _ => ?_)) <;> try (exfalso; omega)) | ((with_reducible refine Ab.br_ndec (fun _ => ?_) (fun _ => ?_)) <;> try (exfalso; omega)) | ((with_reducible refine Ab.gd_dec (fun _ => ?_) (fun _ => ?_)) <;> try (exfalso; omega)) | ((with_reducible refine Ab.br_dec (fun _ => ?_) (fun _ => ?_)) <;> try (exfalso; omega)) | (with_reducible refine Ab.run_alt ?_ ?_) | (refine And.intro (by omega) ?_) | (refine gd_split (fun _ => ?_) (fun _ => ?_)) | (refine br_split (fun _ => ?_) (fun _ => ?_)) | omega)
  refine lw_loopS K23b0 (fun i : Nat => [(1, VI (kAt js i)), (5, VI i)]) (fun i => A ++ (blkJ A.length (mkd js i) ++ l)) (fun i => i ≤ js.length) (fun i => js.length - i) 0 (by omega) (by rw [mkd_zero]) (by simp -implicitDefEqProofs only [Ab.R1, Ab.R2, Ab.R3, Ab.R4, Ab.R5, Ab.RH, Ab.RM, Ab.binV, Ab.binC, Nat.reduceLT, Nat.reduceBEq, Nat.reduceAdd, Nat.reduceMul, Nat.reduceEqDiff, Nat.reduceLeDiff, Nat.reduceSub, List.getElem?_cons_zero, List.getElem?_cons_succ, List.getElem?_nil, Option.getD_some, Option.getD_none, if_true, if_false, reduceIte, Option.map_some, Option.map_none, Option.bind_some, Option.bind_none, Option.isSome_some, List.map_cons, List.map_nil, AV.cells, List.length_cons, List.length_nil, List.all_cons, List.all_nil, AV.one, Value.oneCell', ne_eq, reduceCtorEq, Int.reduceNeg, Int.reduceEq, Int.reduceNe, Int.reduceAdd, Int.reduceSub, Int.reduceMul, Int.reduceLT, Int.reduceLE, Int.reduceToNat, List.drop_zero, List.take_zero, List.drop_succ_cons, List.take_succ_cons, List.nil_append, List.cons_append, List.append_nil, List.replicate_zero, List.flatten_nil, List.flatten_cons, List.reduceReplicate, ge_iff_le, gt_iff_lt, eq_self, Nat.add_assoc, facts]; simp [kAt, szT]) ?_ ?_
  · intro hc' i hi
    have hs := blkJ_get0 (A := A) (l := l) (js := js) (mkd js i) (mkd_len hi) (fun k a hk => mkd_lens hi hk) hc'
    exact ⟨hs.closed, hs.le, by simp [AV.ok]⟩
  · intro i hi _
    refine lw_run mixed ?_
    unfold L23b0 K23b0
    have hml := mkd_len hi
    have hw := blkJ_wr (A := A) (l := l) (mkd js i)
    rw [hml] at hw
    have hsw := sz_of (wr_rd hw)
    rcases Nat.lt_or_ge i js.length with hlt | hge
    · obtain ⟨j, hj⟩ := some_at hlt
      have hji := mkd_at hj
      have hle := szT_le js i
      have hle1 := szT_le js (i + 1)
      have htk := szT_take hj
      have hks := kAt_succ hj
      have hkb : kAt js i ≤ 1048577 := by unfold kAt; omega
      generalize hX : mkd js i = X at *
      have hzk : (X.zip (List.range' (A.length + 1) js.length))[i]? = some (j, A.length + 1 + i) := by
        rw [List.getElem?_zip_eq_some]
        refine ⟨hji, ?_⟩
        rw [List.getElem?_range' hlt]; simp
      have hp0 := rowOf_cell fJ_len (i := 0) (b := ((((kAt js i : Int), j.2), A.length + 1 + i) : Jb × Nat)) (c := VI (kAt js i)) hzk (by decide) rfl
      have hzs : (X.zip (List.range' (A.length + 1) js.length)).set i (((kAt js i : Int), j.2), A.length + 1 + i) = (X.set i ((kAt js i : Int), j.2)).zip (List.range' (A.length + 1) js.length) := by
        apply List.ext_getElem?
        intro m
        by_cases hm : i = m
        · subst hm
          rw [List.getElem?_set_self (some_lt hzk)]
          symm
          rw [List.getElem?_zip_eq_some (z := (((kAt js i : Int), j.2), A.length + 1 + i))]
          refine ⟨List.getElem?_set_self (some_lt hji), ?_⟩
          rw [List.getElem?_range' hlt]; simp
        · rw [List.getElem?_set_ne hm]
          cases hx : ((X.set i ((kAt js i : Int), j.2)).zip (List.range' (A.length + 1) js.length))[m]? with
          | none =>
            rw [List.getElem?_eq_none_iff] at hx ⊢
            simpa using hx
          | some p =>
            rw [List.getElem?_zip_eq_some] at hx ⊢
            rw [List.getElem?_set_ne hm] at hx; exact hx
      have hRl : (rowOf fJ (X.zip (List.range' (A.length + 1) js.length))).length = js.length * 2 := by rw [fJ_row]; simp; omega
      have hYl : (X.set i ((kAt js i : Int), j.2)).length = js.length := by simp [hml]
      have hset0 := blkJ_set0 (A := A) (l := l) X (X.set i ((kAt js i : Int), j.2)) (by
        apply List.ext_getElem?
        intro m
        simp only [List.getElem?_map]
        by_cases hm : i = m
        · subst hm; rw [List.getElem?_set_self (some_lt hji), hji]; rfl
        · rw [List.getElem?_set_ne hm])
      rw [hYl, ← hzs, ← hp0] at hset0
      simp only [Nat.add_zero] at hset0
      have hYi : (X.set i ((kAt js i : Int), j.2))[i]? = some ((kAt js i : Int), j.2) := List.getElem?_set_self (some_lt hji)
      have hw2 := blkJ_wr (A := A) (l := l) (X.set i ((kAt js i : Int), j.2))
      rw [hYl] at hw2
      have hsw2 := sz_of (wr_rd hw2)
      have hrw2 := wr_rd hw2
      have hz2 : ((X.set i ((kAt js i : Int), j.2)).zip (List.range' (A.length + 1) js.length))[i]? = some (((kAt js i : Int), j.2), A.length + (i + 1)) := by
        rw [← hzs, List.getElem?_set_self (some_lt hzk)]
        congr 2; omega
      have hwi := blkJ_wri (A := A) (l := l) hYi
      have hseti := blkJ_seti (A := A) (l := l) hYi (iotaI ((kAt js i : Int) + 1) j.2.length) (iotaI_len _ _)
      have hfin : (X.set i ((kAt js i : Int), j.2)).set i ((kAt js i : Int), iotaI ((kAt js i : Int) + 1) j.2.length) = mkd js (i + 1) := by
        rw [List.set_set, ← hX, ← mkd_set hj, mkJ, aft_of hj]
      rw [hfin] at hseti
      have hR2 : (rowOf fJ ((X.set i ((kAt js i : Int), j.2)).zip (List.range' (A.length + 1) js.length))).length = js.length * 2 := by rw [fJ_row]; simp; omega
      have hmk := markIntS_ok j.2 (A.length + (i + 1)) ((kAt js i : Int) + 1) (by omega) (by omega) _ hwi
      rw [hseti] at hmk
      rw [set_new0] at hset0
      replace hset0 := List.append_cancel_left hset0
      rw [sz_new0] at hsw hsw2
      rw [rd_new0] at hrw2
      rw [wr_new0] at hw
      clear hseti
      clear hzs hp0 hfin hX hji hYi hzk hw2 hwi
      repeat' (first | simp -implicitDefEqProofs only [Ab.R1, Ab.R2, Ab.R3, Ab.R4, Ab.R5, Ab.RH, Ab.RM, Ab.binV, Ab.binC, Nat.reduceLT, Nat.reduceBEq, Nat.reduceAdd, Nat.reduceMul, Nat.reduceEqDiff, Nat.reduceLeDiff, Nat.reduceSub, List.getElem?_cons_zero, List.getElem?_cons_succ, List.getElem?_nil, Option.getD_some, Option.getD_none, if_true, if_false, reduceIte, Option.map_some, Option.map_none, Option.bind_some, Option.bind_none, Option.isSome_some, List.map_cons, List.map_nil, AV.cells, List.length_cons, List.length_nil, List.all_cons, List.all_nil, AV.one, Value.oneCell', ne_eq, reduceCtorEq, Int.reduceNeg, Int.reduceEq, Int.reduceNe, Int.reduceAdd, Int.reduceSub, Int.reduceMul, Int.reduceLT, Int.reduceLE, Int.reduceToNat, List.drop_zero, List.take_zero, List.drop_succ_cons, List.take_succ_cons, List.nil_append, List.cons_append, List.append_nil, List.replicate_zero, List.flatten_nil, List.flatten_cons, List.reduceReplicate, ge_iff_le, gt_iff_lt, eq_self, Nat.add_assoc, facts, *, fJ_at, fJ_at0] | simp (disch := omega) only [Ab.wrap_i64] | ((with_reducible refine Ab.gd_ndec (fun _ => ?_) (fun _ => ?_)) <;> try (exfalso; omega)) | ((with_reducible refine Ab.br_ndec (fun _ => ?_) (fun _ => ?_)) <;> try (exfalso; omega)) | ((with_reducible refine Ab.gd_dec (fun _ => ?_) (fun _ => ?_)) <;> try (exfalso; omega)) | ((with_reducible refine Ab.br_dec (fun _ => ?_) (fun _ => ?_)) <;> try (exfalso; omega)) | (with_reducible refine Ab.run_alt ?_ ?_) | (refine And.intro (by omega) ?_) | (refine gd_split (fun _ => ?_) (fun _ => ?_)) | (refine br_split (fun _ => ?_) (fun _ => ?_)) | (refine cl_use ( hmk) (fun hd => by cases hd) ?_) | omega)
      exact ⟨i + 1, [], by omega, by omega, by simp, by omega, by omega⟩
    · obtain rfl : i = js.length := by omega
      repeat' (first | simp -implicitDefEqProofs only [Ab.R1, Ab.R2, Ab.R3, Ab.R4, Ab.R5, Ab.RH, Ab.RM, Ab.binV, Ab.binC, Nat.reduceLT, Nat.reduceBEq, Nat.reduceAdd, Nat.reduceMul, Nat.reduceEqDiff, Nat.reduceLeDiff, Nat.reduceSub, List.getElem?_cons_zero, List.getElem?_cons_succ, List.getElem?_nil, Option.getD_some, Option.getD_none, if_true, if_false, reduceIte, Option.map_some, Option.map_none, Option.bind_some, Option.bind_none, Option.isSome_some, List.map_cons, List.map_nil, AV.cells, List.length_cons, List.length_nil, List.all_cons, List.all_nil, AV.one, Value.oneCell', ne_eq, reduceCtorEq, Int.reduceNeg, Int.reduceEq, Int.reduceNe, Int.reduceAdd, Int.reduceSub, Int.reduceMul, Int.reduceLT, Int.reduceLE, Int.reduceToNat, List.drop_zero, List.take_zero, List.drop_succ_cons, List.take_succ_cons, List.nil_append, List.cons_append, List.append_nil, List.replicate_zero, List.flatten_nil, List.flatten_cons, List.reduceReplicate, ge_iff_le, gt_iff_lt, eq_self, Nat.add_assoc, facts, *] | simp (disch := omega) only [Ab.wrap_i64] | ((with_reducible refine Ab.gd_ndec (fun _ => ?_) (fun _ => ?_)) <;> try (exfalso; omega)) | ((with_reducible refine Ab.br_ndec (fun _ => ?_) (fun _ => ?_)) <;> try (exfalso; omega)) | ((with_reducible refine Ab.gd_dec (fun _ => ?_) (fun _ => ?_)) <;> try (exfalso; omega)) | ((with_reducible refine Ab.br_dec (fun _ => ?_) (fun _ => ?_)) <;> try (exfalso; omega)) | (with_reducible refine Ab.run_alt ?_ ?_) | (refine And.intro (by omega) ?_) | (refine gd_split (fun _ => ?_) (fun _ => ?_)) | (refine br_split (fun _ => ?_) (fun _ => ?_)) | omega)
end Go.Proofs.Ytmkognfiemgmgaa
