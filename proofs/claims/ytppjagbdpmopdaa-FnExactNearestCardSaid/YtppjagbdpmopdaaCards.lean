/- Lists of cards; the nearest card. -/
import Derived.Test.YtppjagbdpmopdaaAb32
import Derived.Test.YtppjagbdpmopdaaRep
namespace Go.Proofs.Ytppjagbdpmopdaa
set_option maxRecDepth 20000
set_option linter.unusedSimpArgs false
set_option linter.unusedVariables false
open Go Go.Ab

abbrev Cd := Int × Int × List ByteArray
abbrev fC (p : Cd × Nat) : List AV := [VI p.1.1, VI p.1.2.1, .own p.2 1 p.1.2.2.length]
abbrev gC (p : Cd × Nat) : List AV := [VI p.1.1, VI p.1.2.1, .sub p.2 p.1.2.2.length 1 0 p.1.2.2.length]
abbrev inC (j : Cd) : List AV := rowS j.2.2
theorem fC_len (p : Cd × Nat) : (fC p).length = 3 := rfl
theorem gC_len (p : Cd × Nat) : (gC p).length = 3 := rfl
abbrev NC (h : Heap) (id : Nat) (js : List Cd) : Prop := NOk fC inC 3 h id js
theorem fC_seg {zs : List (Cd × Nat)} {k : Nat} : List.take 3 (List.drop (k * 3) (rowOf fC zs)) = (zs[k]?.map fC).getD [] := rowOf_seg2 fC_len
theorem fC_at {zs : List (Cd × Nat)} {k j : Nat} (hj : j < 3) : (rowOf fC zs)[k * 3 + j]? = zs[k]?.bind fun a => (fC a)[j]? := rowOf_at fC_len hj
theorem fC_at0 {zs : List (Cd × Nat)} {k : Nat} : (rowOf fC zs)[k * 3]? = zs[k]?.bind fun a => (fC a)[0]? := rowOf_at0 fC_len (by decide)
theorem gC_seg {zs : List (Cd × Nat)} {k : Nat} : List.take 3 (List.drop (k * 3) (rowOf gC zs)) = (zs[k]?.map gC).getD [] := rowOf_seg2 gC_len
theorem fC_row (zs : List (Cd × Nat)) : (rowOf fC zs).length = zs.length * 3 := rowOf_len fC_len zs
abbrev blkC (b : Nat) (js : List Cd) : Heap := blksN fC inC 32 3 9 b js

theorem toCardG_ok (j : Cd) (i : Nat) (hn : j.2.2.length ≤ 1048576) (h : Heap) (hr : rd h i j.2.2.length = some (rowS j.2.2)) :
    AC Try.prog 37 [.agg (gC (j, i))] h fun r h' => r = .agg (fC (j, h.length)) ∧ h' = h ++ [rowT j.2.2] :=
  toCard_ok j.1 j.2.1 j.2.2 i hn h hr

abbrev zC : List AV := [VI 0, VI 0, .raw (.slice none 0 0)]
theorem toCardS_ok (js : List Cd) (id : Nat) (hn : js.length ≤ 1048576) (hm : ∀ j ∈ js, j.2.2.length ≤ 1048576) (h : Heap) (hr : NOk gC inC 3 h id js) :
    AC Try.prog 51 [.sub id (js.length * 3) 3 0 js.length] h fun r h' => r = .own h.length 3 js.length ∧ h' = h ++ blkC h.length js := by
  obtain ⟨ids, hr⟩ := hr
  refine AC_go mixed ok51 (by simp) fun hc _ => ?_
  unfold L51
  have hsz := hr.sz
  repeat' (first | simp -implicitDefEqProofs only [Ab.R1, Ab.R2, Ab.R3, Ab.R4, Ab.R5, Ab.RH, Ab.RM, Ab.binV, Ab.binC, Nat.reduceLT, Nat.reduceBEq, Nat.reduceAdd, Nat.reduceMul, Nat.reduceEqDiff, Nat.reduceLeDiff, Nat.reduceSub, List.getElem?_cons_zero, List.getElem?_cons_succ, List.getElem?_nil, Option.getD_some, Option.getD_none, if_true, if_false, reduceIte, Option.map_some, Option.map_none, Option.bind_some, Option.bind_none, Option.isSome_some, List.map_cons, List.map_nil, AV.cells, List.length_cons, List.length_nil, List.all_cons, List.all_nil, AV.one, Value.oneCell', ne_eq, reduceCtorEq, Int.reduceNeg, Int.reduceEq, Int.reduceNe, Int.reduceAdd, Int.reduceSub, Int.reduceMul, Int.reduceLT, Int.reduceLE, Int.reduceToNat, List.drop_zero, List.take_zero, List.drop_succ_cons, List.take_succ_cons, List.nil_append, List.cons_append, List.append_nil, List.replicate_zero, List.flatten_nil, List.flatten_cons, List.reduceReplicate, ge_iff_le, gt_iff_lt, eq_self, Nat.add_assoc, facts, *] | simp (disch := omega) only [Ab.wrap_i64] | ((with_reducible refine Ab.gd_ndec (fun _ => ?_) (fun _ => ?_)) <;> try (exfalso; omega)) | ((with_reducible refine Ab.br_ndec (fun _ => ?_) (fun _ => ?_)) <;> try (exfalso; omega)) | ((with_reducible refine Ab.gd_dec (fun _ => ?_) (fun _ => ?_)) <;> try (exfalso; omega)) | ((with_reducible refine Ab.br_dec (fun _ => ?_) (fun _ => ?_)) <;> try (exfalso; omega)) | (with_reducible refine Ab.run_alt ?_ ?_) | (refine And.intro (by omega) ?_) | (refine gd_split (fun _ => ?_) (fun _ => ?_)) | (refine br_split (fun _ => ?_) (fun _ => ?_)) | omega)
  rw [show (List.replicate js.length [VI 0, VI 0, .raw (.slice none 0 0)]).flatten = rowOf (optF fC zC) (List.replicate js.length none) from optF_zeros (f := fC) (z := zC) js.length]
  have hzl : (js.zip (List.range' (h.length + 1) js.length)).length = js.length := zip_len
  generalize hzs : js.zip (List.range' (h.length + 1) js.length) = zs at hzl
  have hzg : ∀ (k : Nat) j, js[k]? = some j → zs[k]? = some (j, h.length + (k + 1)) := fun k j hk => by
    rw [← hzs, List.getElem?_zip_eq_some]
    refine ⟨hk, ?_⟩
    rw [List.getElem?_range' (some_lt hk)]
    simp; omega
  have hF : ∀ p, (optF fC zC p).length = 3 := optF_len fC_len rfl
  refine lw_loopS K51b0 (fun i : Nat => [(4, VI i)]) (fun i => h ++ (⟨.row 32 3, rowOf (optF fC zC) (front zs i)⟩ :: (js.take i).map fun j => rowT j.2.2)) (fun i => i ≤ js.length) (fun i => js.length - i)
    0 (by omega) (by rw [front_zero, hzl]; rfl) (by simp -implicitDefEqProofs only [Ab.R1, Ab.R2, Ab.R3, Ab.R4, Ab.R5, Ab.RH, Ab.RM, Ab.binV, Ab.binC, Nat.reduceLT, Nat.reduceBEq, Nat.reduceAdd, Nat.reduceMul, Nat.reduceEqDiff, Nat.reduceLeDiff, Nat.reduceSub, List.getElem?_cons_zero, List.getElem?_cons_succ, List.getElem?_nil, Option.getD_some, Option.getD_none, if_true, if_false, reduceIte, Option.map_some, Option.map_none, Option.bind_some, Option.bind_none, Option.isSome_some, List.map_cons, List.map_nil, AV.cells, List.length_cons, List.length_nil, List.all_cons, List.all_nil, AV.one, Value.oneCell', ne_eq, reduceCtorEq, Int.reduceNeg, Int.reduceEq, Int.reduceNe, Int.reduceAdd, Int.reduceSub, Int.reduceMul, Int.reduceLT, Int.reduceLE, Int.reduceToNat, List.drop_zero, List.take_zero, List.drop_succ_cons, List.take_succ_cons, List.nil_append, List.cons_append, List.append_nil, List.replicate_zero, List.flatten_nil, List.flatten_cons, List.reduceReplicate, ge_iff_le, gt_iff_lt, eq_self, Nat.add_assoc, facts]; rfl) ?_ ?_
  · intro hc' i hi
    refine ⟨closedH_append hc fun b hb => ?_, ?_, ?_⟩
    · rcases List.mem_cons.1 hb with rfl | hb
      · rw [okAll_iff]
        intro d hd
        simp only [rowOf, List.mem_flatMap] at hd
        obtain ⟨p, hp, hd⟩ := hd
        cases p with
        | none => simp [optF] at hd; first | (rcases hd with rfl | rfl | rfl <;> rfl) | (rcases hd with rfl | rfl <;> rfl)
        | some p =>
          simp only [front, List.mem_append, List.mem_map, Option.some.injEq, List.mem_replicate, reduceCtorEq, and_false, or_false, exists_eq_right] at hp
          obtain ⟨k, hk⟩ := List.getElem?_of_mem hp
          have hkl := some_lt hk
          simp only [List.length_take] at hkl
          rw [List.getElem?_take_of_lt (by omega)] at hk
          obtain ⟨j, hj⟩ := some_at (show k < js.length by omega)
          rw [hzg k j hj] at hk
          injection hk with hk; subst hk
          simp only [optF, List.mem_cons, List.not_mem_nil, or_false] at hd
          rcases hd with rfl | rfl | rfl
          · rfl
          · rfl
          · have hg : (List.take i (List.map (fun j : Cd => rowT j.2.2) js))[k]? = some (rowT j.2.2) := by
              rw [List.getElem?_take_of_lt (by omega), List.getElem?_map, hj]; rfl
            simp [AV.ok, refOk, csz, get_new, hg, rowS_len]
      · simp only [List.mem_map] at hb
        obtain ⟨j, _, rfl⟩ := hb
        exact rowS_ok _ _
    · refine LeB.le ?_
      rw [leB_cons, leB_nil]
      exact ⟨by simp only [rowOf_len hF, front_len (show i ≤ zs.length by omega), List.length_replicate, hzl]; exact Nat.le_refl _, trivial⟩
    · simp [AV.ok]
  · intro i hi _
    refine lw_run mixed ?_
    unfold L51b0 K51b0
    have hfl := front_len (show i ≤ zs.length by omega)
    have hRl : (rowOf (optF fC zC) (front zs i)).length = js.length * 3 := by rw [rowOf_len hF, hfl, hzl]
    have hsd : ∀ l, sz (h ++ l) id = some (js.length * 3) := fun l => sz_sub (Heap.sub_append _ _) hsz
    have hrd : ∀ l, rd (h ++ l) id (js.length * 3) = some (rowOf gC (js.zip ids)) := fun l => rd_old hr.row l
    have hGl : (rowOf gC (js.zip ids)).length = js.length * 3 := by rw [rowOf_len gC_len]; simp [hr.len]
    have hml : (List.map (fun j : Cd => rowT j.2.2) (List.take i js)).length = i := by simp; omega
    rcases Nat.lt_or_ge i js.length with hlt | hge
    · obtain ⟨j, hj⟩ := some_at hlt
      obtain ⟨i0, _, hz0, hr0⟩ := hr.elt hj
      rw [rowS_len] at hr0
      have hz1 := hzg i j hj
      have hset := rowOf_set hF (xs := front zs i) (k := i) (by omega) (some (j, h.length + (i + 1)))
      rw [front_set hz1] at hset
      have htk : (List.take (i + 1) js).map (fun j : Cd => rowT j.2.2) = (List.take i js).map (fun j : Cd => rowT j.2.2) ++ [rowT j.2.2] := by rw [take_snoc hj]; simp
      generalize hM : (List.take i js).map (fun j : Cd => rowT j.2.2) = M at *
      simp only [optF] at hset
      repeat' (first | simp -implicitDefEqProofs only [Ab.R1, Ab.R2, Ab.R3, Ab.R4, Ab.R5, Ab.RH, Ab.RM, Ab.binV, Ab.binC, Nat.reduceLT, Nat.reduceBEq, Nat.reduceAdd, Nat.reduceMul, Nat.reduceEqDiff, Nat.reduceLeDiff, Nat.reduceSub, List.getElem?_cons_zero, List.getElem?_cons_succ, List.getElem?_nil, Option.getD_some, Option.getD_none, if_true, if_false, reduceIte, Option.map_some, Option.map_none, Option.bind_some, Option.bind_none, Option.isSome_some, List.map_cons, List.map_nil, AV.cells, List.length_cons, List.length_nil, List.all_cons, List.all_nil, AV.one, Value.oneCell', ne_eq, reduceCtorEq, Int.reduceNeg, Int.reduceEq, Int.reduceNe, Int.reduceAdd, Int.reduceSub, Int.reduceMul, Int.reduceLT, Int.reduceLE, Int.reduceToNat, List.drop_zero, List.take_zero, List.drop_succ_cons, List.take_succ_cons, List.nil_append, List.cons_append, List.append_nil, List.replicate_zero, List.flatten_nil, List.flatten_cons, List.reduceReplicate, ge_iff_le, gt_iff_lt, eq_self, Nat.add_assoc, facts, *, gC_seg] | simp (disch := omega) only [Ab.wrap_i64] | ((with_reducible refine Ab.gd_ndec (fun _ => ?_) (fun _ => ?_)) <;> try (exfalso; omega)) | ((with_reducible refine Ab.br_ndec (fun _ => ?_) (fun _ => ?_)) <;> try (exfalso; omega)) | ((with_reducible refine Ab.gd_dec (fun _ => ?_) (fun _ => ?_)) <;> try (exfalso; omega)) | ((with_reducible refine Ab.br_dec (fun _ => ?_) (fun _ => ?_)) <;> try (exfalso; omega)) | (with_reducible refine Ab.run_alt ?_ ?_) | (refine And.intro (by omega) ?_) | (refine gd_split (fun _ => ?_) (fun _ => ?_)) | (refine br_split (fun _ => ?_) (fun _ => ?_)) | (refine cl_more ( toCardG_ok j i0 (hm j (List.mem_of_getElem? hj)) _ (rd_old hr0 _)) ?_) | omega)
      refine ⟨i + 1, [], by omega, by omega, ?_, by omega⟩
      rw [htk]; simp
    · obtain rfl : i = js.length := by omega
      repeat' (first | simp -implicitDefEqProofs only [Ab.R1, Ab.R2, Ab.R3, Ab.R4, Ab.R5, Ab.RH, Ab.RM, Ab.binV, Ab.binC, Nat.reduceLT, Nat.reduceBEq, Nat.reduceAdd, Nat.reduceMul, Nat.reduceEqDiff, Nat.reduceLeDiff, Nat.reduceSub, List.getElem?_cons_zero, List.getElem?_cons_succ, List.getElem?_nil, Option.getD_some, Option.getD_none, if_true, if_false, reduceIte, Option.map_some, Option.map_none, Option.bind_some, Option.bind_none, Option.isSome_some, List.map_cons, List.map_nil, AV.cells, List.length_cons, List.length_nil, List.all_cons, List.all_nil, AV.one, Value.oneCell', ne_eq, reduceCtorEq, Int.reduceNeg, Int.reduceEq, Int.reduceNe, Int.reduceAdd, Int.reduceSub, Int.reduceMul, Int.reduceLT, Int.reduceLE, Int.reduceToNat, List.drop_zero, List.take_zero, List.drop_succ_cons, List.take_succ_cons, List.nil_append, List.cons_append, List.append_nil, List.replicate_zero, List.flatten_nil, List.flatten_cons, List.reduceReplicate, ge_iff_le, gt_iff_lt, eq_self, Nat.add_assoc, facts, *] | simp (disch := omega) only [Ab.wrap_i64] | ((with_reducible refine Ab.gd_ndec (fun _ => ?_) (fun _ => ?_)) <;> try (exfalso; omega)) | ((with_reducible refine Ab.br_ndec (fun _ => ?_) (fun _ => ?_)) <;> try (exfalso; omega)) | ((with_reducible refine Ab.gd_dec (fun _ => ?_) (fun _ => ?_)) <;> try (exfalso; omega)) | ((with_reducible refine Ab.br_dec (fun _ => ?_) (fun _ => ?_)) <;> try (exfalso; omega)) | (with_reducible refine Ab.run_alt ?_ ?_) | (refine And.intro (by omega) ?_) | (refine gd_split (fun _ => ?_) (fun _ => ?_)) | (refine br_split (fun _ => ?_) (fun _ => ?_)) | omega)
      rw [List.take_length, ← hzl, front_all, optF_row, ← hzs]
      rfl

theorem NC_new (js : List Cd) (h : Heap) (l : Heap) : NC (h ++ (blkC h.length js ++ l)) h.length js := ⟨_, blksN_at fC_len rfl l⟩

/-- a copy that stands behind: what may be said of it -/
theorem toCardS_E (js : List Cd) (id : Nat) (hn : js.length ≤ 1048576) (hm : ∀ j ∈ js, j.2.2.length ≤ 1048576) (h : Heap) (hr : NOk gC inC 3 h id js) :
    ∃ E, AC Try.prog 51 [.sub id (js.length * 3) 3 0 js.length] h (fun r h' => r = .own h.length 3 js.length ∧ h' = h ++ E) ∧ E = blkC h.length js ∧ ∀ l, NC (h ++ (E ++ l)) h.length js :=
  ⟨_, toCardS_ok js id hn hm h hr, rfl, fun l => NC_new js h l⟩

theorem eqCardG_ok (a b : Cd) (ia ib : Nat) (hx : a.2.2.length ≤ 4194304) (h : Heap) (ha : rd h ia a.2.2.length = some (rowS a.2.2)) (hb : rd h ib b.2.2.length = some (rowS b.2.2)) :
    AC Try.prog 39 [.agg (fC (a, ia)), .agg (fC (b, ib))] h fun r h' => r = VB (decide (a = b)) ∧ h' = h :=
  (eqCard_ok a.1 a.2.1 b.1 b.2.1 a.2.2 b.2.2 ia ib hx h ha hb).mono fun r h' ⟨h1, h2⟩ => ⟨by rw [h1]; obtain ⟨a1, a2, a3⟩ := a; obtain ⟨b1, b2, b3⟩ := b; simp [Prod.mk.injEq, Bool.and_assoc], h2⟩

theorem eqCardS_ok (xs ys : List Cd) (ida idb : Nat) (hx : xs.length ≤ 1048576) (hm : ∀ j ∈ xs, j.2.2.length ≤ 1048576) (h : Heap) (ha : NC h ida xs) (hb : NC h idb ys) :
    AC Try.prog 53 [.own ida 3 xs.length, .own idb 3 ys.length] h fun r h' => r = VB (decide (xs = ys)) ∧ h' = h := by
  obtain ⟨ia, ha⟩ := ha
  obtain ⟨ib, hb⟩ := hb
  refine AC_go mixed ok53 (by simp) fun hc _ => ?_
  unfold L53
  have hsa := ha.sz
  have hsb := hb.sz
  repeat' (first | simp -implicitDefEqProofs only [Ab.R1, Ab.R2, Ab.R3, Ab.R4, Ab.R5, Ab.RH, Ab.RM, Ab.binV, Ab.binC, Nat.reduceLT, Nat.reduceBEq, Nat.reduceAdd, Nat.reduceMul, Nat.reduceEqDiff, Nat.reduceLeDiff, Nat.reduceSub, List.getElem?_cons_zero, List.getElem?_cons_succ, List.getElem?_nil, Option.getD_some, Option.getD_none, if_true, if_false, reduceIte, Option.map_some, Option.map_none, Option.bind_some, Option.bind_none, Option.isSome_some, List.map_cons, List.map_nil, AV.cells, List.length_cons, List.length_nil, List.all_cons, List.all_nil, AV.one, Value.oneCell', ne_eq, reduceCtorEq, Int.reduceNeg, Int.reduceEq, Int.reduceNe, Int.reduceAdd, Int.reduceSub, Int.reduceMul, Int.reduceLT, Int.reduceLE, Int.reduceToNat, List.drop_zero, List.take_zero, List.drop_succ_cons, List.take_succ_cons, List.nil_append, List.cons_append, List.append_nil, List.replicate_zero, List.flatten_nil, List.flatten_cons, List.reduceReplicate, ge_iff_le, gt_iff_lt, eq_self, Nat.add_assoc, facts, *] | simp (disch := omega) only [Ab.wrap_i64] | ((with_reducible refine Ab.gd_ndec (fun _ => ?_) (fun _ => ?_)) <;> try (exfalso; omega)) | ((with_reducible refine Ab.br_ndec (fun _ => ?_) (fun _ => ?_)) <;> try (exfalso; omega)) | ((with_reducible refine Ab.gd_dec (fun _ => ?_) (fun _ => ?_)) <;> try (exfalso; omega)) | ((with_reducible refine Ab.br_dec (fun _ => ?_) (fun _ => ?_)) <;> try (exfalso; omega)) | (with_reducible refine Ab.run_alt ?_ ?_) | (refine And.intro (by omega) ?_) | (refine gd_split (fun _ => ?_) (fun _ => ?_)) | (refine br_split (fun _ => ?_) (fun _ => ?_)) | omega)
  · exact (dec_ne_len (by omega)).symm
  · refine lw_loopS K53b0 (fun i : Nat => [(5, VI i)]) (fun _ => h) (fun i => i ≤ xs.length ∧ xs.take i = ys.take i) (fun i => xs.length - i) 0 ⟨by omega, rfl⟩ rfl (by simp -implicitDefEqProofs only [Ab.R1, Ab.R2, Ab.R3, Ab.R4, Ab.R5, Ab.RH, Ab.RM, Ab.binV, Ab.binC, Nat.reduceLT, Nat.reduceBEq, Nat.reduceAdd, Nat.reduceMul, Nat.reduceEqDiff, Nat.reduceLeDiff, Nat.reduceSub, List.getElem?_cons_zero, List.getElem?_cons_succ, List.getElem?_nil, Option.getD_some, Option.getD_none, if_true, if_false, reduceIte, Option.map_some, Option.map_none, Option.bind_some, Option.bind_none, Option.isSome_some, List.map_cons, List.map_nil, AV.cells, List.length_cons, List.length_nil, List.all_cons, List.all_nil, AV.one, Value.oneCell', ne_eq, reduceCtorEq, Int.reduceNeg, Int.reduceEq, Int.reduceNe, Int.reduceAdd, Int.reduceSub, Int.reduceMul, Int.reduceLT, Int.reduceLE, Int.reduceToNat, List.drop_zero, List.take_zero, List.drop_succ_cons, List.take_succ_cons, List.nil_append, List.cons_append, List.append_nil, List.replicate_zero, List.flatten_nil, List.flatten_cons, List.reduceReplicate, ge_iff_le, gt_iff_lt, eq_self, Nat.add_assoc, facts]; rfl) (fun _ i _ => .same hc (by simp only [Ab.leB_cons, Ab.leB_nil, Ab.ok_raw, Ab.ok_own, Ab.ok_ptr, Ab.ok_sub, Ab.okAll_nil, Ab.okAll_cons, Ab.refOk_app, Ab.refOk_app0, Ab.okB_zero, Ab.okB_succ, Ab.rowI_ok, Ab.rowB_ok, Ab.rowS_ok, Ab.rowU_ok, Ab.rowI_len, Ab.rowB_len, Ab.rowS_len, Ab.rowU_len, List.mem_cons, List.not_mem_nil, or_false, forall_eq, forall_eq_or_imp, List.forall_mem_cons, List.length_replicate, and_true, true_and, and_self, Nat.le_refl, Nat.zero_le, implies_true, List.length_set, List.length_append, List.length_cons, List.length_nil, List.length_map, Bool.and_true, Bool.true_and, Bool.and_self, decide_true, decide_eq_true_eq] <;> omega)) ?_
    intro i ⟨hi, ht⟩ _
    refine lw_run mixed ?_
    unfold L53b0 K53b0
    have hra := ha.row
    have hrb := hb.row
    have hla := ha.cells_len fC_len
    have hlb := hb.cells_len fC_len
    rcases Nat.lt_or_ge i xs.length with hlt | hge
    · obtain ⟨a, hxa⟩ := some_at hlt
      obtain ⟨b, hyb⟩ := some_at (show i < ys.length by omega)
      obtain ⟨ka, _, hza, hka⟩ := ha.elt hxa
      obtain ⟨kb, _, hzb, hkb⟩ := hb.elt hyb
      rw [rowS_len] at hka hkb
      have hma := hm a (List.mem_of_getElem? hxa)
      repeat' (first | simp -implicitDefEqProofs only [Ab.R1, Ab.R2, Ab.R3, Ab.R4, Ab.R5, Ab.RH, Ab.RM, Ab.binV, Ab.binC, Nat.reduceLT, Nat.reduceBEq, Nat.reduceAdd, Nat.reduceMul, Nat.reduceEqDiff, Nat.reduceLeDiff, Nat.reduceSub, List.getElem?_cons_zero, List.getElem?_cons_succ, List.getElem?_nil, Option.getD_some, Option.getD_none, if_true, if_false, reduceIte, Option.map_some, Option.map_none, Option.bind_some, Option.bind_none, Option.isSome_some, List.map_cons, List.map_nil, AV.cells, List.length_cons, List.length_nil, List.all_cons, List.all_nil, AV.one, Value.oneCell', ne_eq, reduceCtorEq, Int.reduceNeg, Int.reduceEq, Int.reduceNe, Int.reduceAdd, Int.reduceSub, Int.reduceMul, Int.reduceLT, Int.reduceLE, Int.reduceToNat, List.drop_zero, List.take_zero, List.drop_succ_cons, List.take_succ_cons, List.nil_append, List.cons_append, List.append_nil, List.replicate_zero, List.flatten_nil, List.flatten_cons, List.reduceReplicate, ge_iff_le, gt_iff_lt, eq_self, Nat.add_assoc, facts, *, fC_seg] | simp (disch := omega) only [Ab.wrap_i64] | ((with_reducible refine Ab.gd_ndec (fun _ => ?_) (fun _ => ?_)) <;> try (exfalso; omega)) | ((with_reducible refine Ab.br_ndec (fun _ => ?_) (fun _ => ?_)) <;> try (exfalso; omega)) | ((with_reducible refine Ab.gd_dec (fun _ => ?_) (fun _ => ?_)) <;> try (exfalso; omega)) | ((with_reducible refine Ab.br_dec (fun _ => ?_) (fun _ => ?_)) <;> try (exfalso; omega)) | (with_reducible refine Ab.run_alt ?_ ?_) | (refine And.intro (by omega) ?_) | (refine gd_split (fun _ => ?_) (fun _ => ?_)) | (refine br_split (fun _ => ?_) (fun _ => ?_)) | (refine cl_same (eqCardG_ok a b ka kb (by omega) _ hka hkb) ?_) | omega)
      · exact (decide_eq_false (differ_at hxa hyb ‹¬ a = b›)).symm
      · refine ⟨i + 1, [], by omega, ⟨by omega, take_more hxa hyb ht ‹a = b›⟩, by simp, by omega⟩
    · repeat' (first | simp -implicitDefEqProofs only [Ab.R1, Ab.R2, Ab.R3, Ab.R4, Ab.R5, Ab.RH, Ab.RM, Ab.binV, Ab.binC, Nat.reduceLT, Nat.reduceBEq, Nat.reduceAdd, Nat.reduceMul, Nat.reduceEqDiff, Nat.reduceLeDiff, Nat.reduceSub, List.getElem?_cons_zero, List.getElem?_cons_succ, List.getElem?_nil, Option.getD_some, Option.getD_none, if_true, if_false, reduceIte, Option.map_some, Option.map_none, Option.bind_some, Option.bind_none, Option.isSome_some, List.map_cons, List.map_nil, AV.cells, List.length_cons, List.length_nil, List.all_cons, List.all_nil, AV.one, Value.oneCell', ne_eq, reduceCtorEq, Int.reduceNeg, Int.reduceEq, Int.reduceNe, Int.reduceAdd, Int.reduceSub, Int.reduceMul, Int.reduceLT, Int.reduceLE, Int.reduceToNat, List.drop_zero, List.take_zero, List.drop_succ_cons, List.take_succ_cons, List.nil_append, List.cons_append, List.append_nil, List.replicate_zero, List.flatten_nil, List.flatten_cons, List.reduceReplicate, ge_iff_le, gt_iff_lt, eq_self, Nat.add_assoc, facts, *] | simp (disch := omega) only [Ab.wrap_i64] | ((with_reducible refine Ab.gd_ndec (fun _ => ?_) (fun _ => ?_)) <;> try (exfalso; omega)) | ((with_reducible refine Ab.br_ndec (fun _ => ?_) (fun _ => ?_)) <;> try (exfalso; omega)) | ((with_reducible refine Ab.gd_dec (fun _ => ?_) (fun _ => ?_)) <;> try (exfalso; omega)) | ((with_reducible refine Ab.br_dec (fun _ => ?_) (fun _ => ?_)) <;> try (exfalso; omega)) | (with_reducible refine Ab.run_alt ?_ ?_) | (refine And.intro (by omega) ?_) | (refine gd_split (fun _ => ?_) (fun _ => ?_)) | (refine br_split (fun _ => ?_) (fun _ => ?_)) | omega)
      exact (decide_eq_true (eq_of_len_take (by omega) (by omega) ht)).symm


/-- how much there is -/
def szG (cs : List Cd) : Nat := (cs.map fun c => Go.Proofs.Ytppjagbdpmopdaa.szT c.2.2).sum
theorem szG_take {js : List Cd} {i : Nat} {j : Cd} (h : js[i]? = some j) : szG (js.take (i + 1)) = szG (js.take i) + szT j.2.2 := by
  rw [take_snoc h]; simp [szG]
theorem szG_le (js : List Cd) (i : Nat) : szG (js.take i) ≤ szG js := by
  have h : szG js = szG (js.take i) + szG (js.drop i) := by
    have := congrArg szG (List.take_append_drop i js)
    rw [← this]; simp only [szG, List.map_append, List.sum_append]
  omega
theorem szG_mem {js : List Cd} {j : Cd} (h : j ∈ js) : szT j.2.2 ≤ szG js := by
  obtain ⟨i, hi, rfl⟩ := List.mem_iff_getElem.1 h
  have h1 := szG_take (js := js) (i := i) (List.getElem?_eq_getElem hi)
  have h2 := szG_le js (i + 1)
  omega
theorem szCardS_ok (js : List Cd) (id : Nat) (h : Heap) (hr : NOk gC inC 3 h id js) (hn : js.length ≤ maxLen) (hmx : ∀ c ∈ js, c.2.2.length ≤ maxLen ∧ ∀ x ∈ c.2.2, x.size ≤ maxLen) :
    AC Try.prog 49 [.sub id (js.length * 3) 3 0 js.length, VI 1048576] h fun r h' => r = VI (if js.length + szG js ≤ 1048576 then 1048576 - ((js.length + szG js : Nat) : Int) else -1) ∧ h' = h := by
  obtain ⟨ids, hr⟩ := hr
  refine AC_go mixed ok49 (by simp) fun hc _ => ?_
  unfold L49
  unfold maxLen at hn
  have hsz := hr.sz
  by_cases hbig : 1048576 < js.length
  · have hC : ¬ js.length + szG js ≤ 1048576 := by omega
    rw [if_neg hC]
    repeat' (first | simp -implicitDefEqProofs only [Ab.R1, Ab.R2, Ab.R3, Ab.R4, Ab.R5, Ab.RH, Ab.RM, Ab.binV, Ab.binC, Nat.reduceLT, Nat.reduceBEq, Nat.reduceAdd, Nat.reduceMul, Nat.reduceEqDiff, Nat.reduceLeDiff, Nat.reduceSub, List.getElem?_cons_zero, List.getElem?_cons_succ, List.getElem?_nil, Option.getD_some, Option.getD_none, if_true, if_false, reduceIte, Option.map_some, Option.map_none, Option.bind_some, Option.bind_none, Option.isSome_some, List.map_cons, List.map_nil, AV.cells, List.length_cons, List.length_nil, List.all_cons, List.all_nil, AV.one, Value.oneCell', ne_eq, reduceCtorEq, Int.reduceNeg, Int.reduceEq, Int.reduceNe, Int.reduceAdd, Int.reduceSub, Int.reduceMul, Int.reduceLT, Int.reduceLE, Int.reduceToNat, List.drop_zero, List.take_zero, List.drop_succ_cons, List.take_succ_cons, List.nil_append, List.cons_append, List.append_nil, List.replicate_zero, List.flatten_nil, List.flatten_cons, List.reduceReplicate, ge_iff_le, gt_iff_lt, eq_self, Nat.add_assoc, facts, *] | simp (disch := omega) only [Ab.wrap_i64] | ((with_reducible refine Ab.gd_ndec (fun _ => ?_) (fun _ => ?_)) <;> try (exfalso; omega)) | ((with_reducible refine Ab.br_ndec (fun _ => ?_) (fun _ => ?_)) <;> try (exfalso; omega)) | ((with_reducible refine Ab.gd_dec (fun _ => ?_) (fun _ => ?_)) <;> try (exfalso; omega)) | ((with_reducible refine Ab.br_dec (fun _ => ?_) (fun _ => ?_)) <;> try (exfalso; omega)) | (with_reducible refine Ab.run_alt ?_ ?_) | (refine And.intro (by omega) ?_) | (refine gd_split (fun _ => ?_) (fun _ => ?_)) | (refine br_split (fun _ => ?_) (fun _ => ?_)) | omega)
  · repeat' (first | simp -implicitDefEqProofs only [Ab.R1, Ab.R2, Ab.R3, Ab.R4, Ab.R5, Ab.RH, Ab.RM, Ab.binV, Ab.binC, Nat.reduceLT, Nat.reduceBEq, Nat.reduceAdd, Nat.reduceMul, Nat.reduceEqDiff, Nat.reduceLeDiff, Nat.reduceSub, List.getElem?_cons_zero, List.getElem?_cons_succ, List.getElem?_nil, Option.getD_some, Option.getD_none, if_true, if_false, reduceIte, Option.map_some, Option.map_none, Option.bind_some, Option.bind_none, Option.isSome_some, List.map_cons, List.map_nil, AV.cells, List.length_cons, List.length_nil, List.all_cons, List.all_nil, AV.one, Value.oneCell', ne_eq, reduceCtorEq, Int.reduceNeg, Int.reduceEq, Int.reduceNe, Int.reduceAdd, Int.reduceSub, Int.reduceMul, Int.reduceLT, Int.reduceLE, Int.reduceToNat, List.drop_zero, List.take_zero, List.drop_succ_cons, List.take_succ_cons, List.nil_append, List.cons_append, List.append_nil, List.replicate_zero, List.flatten_nil, List.flatten_cons, List.reduceReplicate, ge_iff_le, gt_iff_lt, eq_self, Nat.add_assoc, facts, *] | simp (disch := omega) only [Ab.wrap_i64] | ((with_reducible refine Ab.gd_ndec (fun _ => ?_) (fun _ => ?_)) <;> try (exfalso; omega)) | ((with_reducible refine Ab.br_ndec (fun _ => ?_) (fun _ => ?_)) <;> try (exfalso; omega)) | ((with_reducible refine Ab.gd_dec (fun _ => ?_) (fun _ => ?_)) <;> try (exfalso; omega)) | ((with_reducible refine Ab.br_dec (fun _ => ?_) (fun _ => ?_)) <;> try (exfalso; omega)) | (with_reducible refine Ab.run_alt ?_ ?_) | (refine And.intro (by omega) ?_) | (refine gd_split (fun _ => ?_) (fun _ => ?_)) | (refine br_split (fun _ => ?_) (fun _ => ?_)) | omega)
    refine lw_loopS K49b0 (fun i : Nat => [(1, VI (1048576 - js.length - szG (js.take i))), (5, VI i)]) (fun _ => h) (fun i => i ≤ js.length ∧ js.length + szG (js.take i) ≤ 1048576) (fun i => js.length - i) 0 ⟨by omega, by simp [szG]; omega⟩ rfl (by simp -implicitDefEqProofs only [Ab.R1, Ab.R2, Ab.R3, Ab.R4, Ab.R5, Ab.RH, Ab.RM, Ab.binV, Ab.binC, Nat.reduceLT, Nat.reduceBEq, Nat.reduceAdd, Nat.reduceMul, Nat.reduceEqDiff, Nat.reduceLeDiff, Nat.reduceSub, List.getElem?_cons_zero, List.getElem?_cons_succ, List.getElem?_nil, Option.getD_some, Option.getD_none, if_true, if_false, reduceIte, Option.map_some, Option.map_none, Option.bind_some, Option.bind_none, Option.isSome_some, List.map_cons, List.map_nil, AV.cells, List.length_cons, List.length_nil, List.all_cons, List.all_nil, AV.one, Value.oneCell', ne_eq, reduceCtorEq, Int.reduceNeg, Int.reduceEq, Int.reduceNe, Int.reduceAdd, Int.reduceSub, Int.reduceMul, Int.reduceLT, Int.reduceLE, Int.reduceToNat, List.drop_zero, List.take_zero, List.drop_succ_cons, List.take_succ_cons, List.nil_append, List.cons_append, List.append_nil, List.replicate_zero, List.flatten_nil, List.flatten_cons, List.reduceReplicate, ge_iff_le, gt_iff_lt, eq_self, Nat.add_assoc, facts]; simp [szG]) (fun _ i _ => .same hc (by simp only [Ab.leB_cons, Ab.leB_nil, Ab.ok_raw, Ab.ok_own, Ab.ok_ptr, Ab.ok_sub, Ab.okAll_nil, Ab.okAll_cons, Ab.refOk_app, Ab.refOk_app0, Ab.okB_zero, Ab.okB_succ, Ab.rowI_ok, Ab.rowB_ok, Ab.rowS_ok, Ab.rowU_ok, Ab.rowI_len, Ab.rowB_len, Ab.rowS_len, Ab.rowU_len, List.mem_cons, List.not_mem_nil, or_false, forall_eq, forall_eq_or_imp, List.forall_mem_cons, List.length_replicate, and_true, true_and, and_self, Nat.le_refl, Nat.zero_le, implies_true, List.length_set, List.length_append, List.length_cons, List.length_nil, List.length_map, Bool.and_true, Bool.true_and, Bool.and_self, decide_true, decide_eq_true_eq] <;> omega)) ?_
    intro i ⟨hi, ht⟩ _
    refine lw_run mixed ?_
    unfold L49b0 K49b0
    have hro := hr.row
    have hGl : (rowOf gC (js.zip ids)).length = js.length * 3 := by rw [rowOf_len gC_len]; simp [hr.len]
    have hle := szG_le js i
    rcases Nat.lt_or_ge i js.length with hlt | hge
    · obtain ⟨j, hj⟩ := some_at hlt
      obtain ⟨i0, _, hz0, hr0⟩ := hr.elt hj
      have hs0 := sz_of hr0
      rw [rowS_len] at hs0 hr0
      have htk := szG_take hj
      have hle1 := szG_le js (i + 1)
      obtain ⟨hm1, hm2⟩ := hmx j (List.mem_of_getElem? hj)
      obtain ⟨j1, j2, j3⟩ := j
      dsimp only at *
      by_cases hg : js.length + szG (js.take i) + szT j3 ≤ 1048576
      · have hR : szR j3 (1048576 - js.length - szG (js.take i)) = 1048576 - js.length - szG (js.take i) - szT j3 := if_pos (by omega)
        have hcall := szCard_ok j1 j2 j3 i0 (1048576 - js.length - szG (js.take i)) hm1 hm2 (by omega) (by omega) h hr0
        rw [hR] at hcall
        clear hR
        repeat' (first | simp -implicitDefEqProofs only [Ab.R1, Ab.R2, Ab.R3, Ab.R4, Ab.R5, Ab.RH, Ab.RM, Ab.binV, Ab.binC, Nat.reduceLT, Nat.reduceBEq, Nat.reduceAdd, Nat.reduceMul, Nat.reduceEqDiff, Nat.reduceLeDiff, Nat.reduceSub, List.getElem?_cons_zero, List.getElem?_cons_succ, List.getElem?_nil, Option.getD_some, Option.getD_none, if_true, if_false, reduceIte, Option.map_some, Option.map_none, Option.bind_some, Option.bind_none, Option.isSome_some, List.map_cons, List.map_nil, AV.cells, List.length_cons, List.length_nil, List.all_cons, List.all_nil, AV.one, Value.oneCell', ne_eq, reduceCtorEq, Int.reduceNeg, Int.reduceEq, Int.reduceNe, Int.reduceAdd, Int.reduceSub, Int.reduceMul, Int.reduceLT, Int.reduceLE, Int.reduceToNat, List.drop_zero, List.take_zero, List.drop_succ_cons, List.take_succ_cons, List.nil_append, List.cons_append, List.append_nil, List.replicate_zero, List.flatten_nil, List.flatten_cons, List.reduceReplicate, ge_iff_le, gt_iff_lt, eq_self, Nat.add_assoc, facts, *, gC_seg] | simp (disch := omega) only [Ab.wrap_i64] | ((with_reducible refine Ab.gd_ndec (fun _ => ?_) (fun _ => ?_)) <;> try (exfalso; omega)) | ((with_reducible refine Ab.br_ndec (fun _ => ?_) (fun _ => ?_)) <;> try (exfalso; omega)) | ((with_reducible refine Ab.gd_dec (fun _ => ?_) (fun _ => ?_)) <;> try (exfalso; omega)) | ((with_reducible refine Ab.br_dec (fun _ => ?_) (fun _ => ?_)) <;> try (exfalso; omega)) | (with_reducible refine Ab.run_alt ?_ ?_) | (refine And.intro (by omega) ?_) | (refine gd_split (fun _ => ?_) (fun _ => ?_)) | (refine br_split (fun _ => ?_) (fun _ => ?_)) | (refine cl_same (hcall) ?_) | omega)
        refine ⟨i + 1, [], by omega, ⟨by omega, by omega⟩, by simp, ?_, by omega⟩
        rw [htk]; omega
      · have hC : ¬ js.length + szG js ≤ 1048576 := by omega
        have hR : szR j3 (1048576 - js.length - szG (js.take i)) = -1 := if_neg (by omega)
        have hcall := szCard_ok j1 j2 j3 i0 (1048576 - js.length - szG (js.take i)) hm1 hm2 (by omega) (by omega) h hr0
        rw [hR] at hcall
        rw [if_neg hC]
        clear hR
        repeat' (first | simp -implicitDefEqProofs only [Ab.R1, Ab.R2, Ab.R3, Ab.R4, Ab.R5, Ab.RH, Ab.RM, Ab.binV, Ab.binC, Nat.reduceLT, Nat.reduceBEq, Nat.reduceAdd, Nat.reduceMul, Nat.reduceEqDiff, Nat.reduceLeDiff, Nat.reduceSub, List.getElem?_cons_zero, List.getElem?_cons_succ, List.getElem?_nil, Option.getD_some, Option.getD_none, if_true, if_false, reduceIte, Option.map_some, Option.map_none, Option.bind_some, Option.bind_none, Option.isSome_some, List.map_cons, List.map_nil, AV.cells, List.length_cons, List.length_nil, List.all_cons, List.all_nil, AV.one, Value.oneCell', ne_eq, reduceCtorEq, Int.reduceNeg, Int.reduceEq, Int.reduceNe, Int.reduceAdd, Int.reduceSub, Int.reduceMul, Int.reduceLT, Int.reduceLE, Int.reduceToNat, List.drop_zero, List.take_zero, List.drop_succ_cons, List.take_succ_cons, List.nil_append, List.cons_append, List.append_nil, List.replicate_zero, List.flatten_nil, List.flatten_cons, List.reduceReplicate, ge_iff_le, gt_iff_lt, eq_self, Nat.add_assoc, facts, *, gC_seg] | simp (disch := omega) only [Ab.wrap_i64] | ((with_reducible refine Ab.gd_ndec (fun _ => ?_) (fun _ => ?_)) <;> try (exfalso; omega)) | ((with_reducible refine Ab.br_ndec (fun _ => ?_) (fun _ => ?_)) <;> try (exfalso; omega)) | ((with_reducible refine Ab.gd_dec (fun _ => ?_) (fun _ => ?_)) <;> try (exfalso; omega)) | ((with_reducible refine Ab.br_dec (fun _ => ?_) (fun _ => ?_)) <;> try (exfalso; omega)) | (with_reducible refine Ab.run_alt ?_ ?_) | (refine And.intro (by omega) ?_) | (refine gd_split (fun _ => ?_) (fun _ => ?_)) | (refine br_split (fun _ => ?_) (fun _ => ?_)) | (refine cl_same (hcall) ?_) | omega)
    · have hti : js.take i = js := take_all hge
      rw [hti] at ht ⊢
      rw [if_pos ht]
      repeat' (first | simp -implicitDefEqProofs only [Ab.R1, Ab.R2, Ab.R3, Ab.R4, Ab.R5, Ab.RH, Ab.RM, Ab.binV, Ab.binC, Nat.reduceLT, Nat.reduceBEq, Nat.reduceAdd, Nat.reduceMul, Nat.reduceEqDiff, Nat.reduceLeDiff, Nat.reduceSub, List.getElem?_cons_zero, List.getElem?_cons_succ, List.getElem?_nil, Option.getD_some, Option.getD_none, if_true, if_false, reduceIte, Option.map_some, Option.map_none, Option.bind_some, Option.bind_none, Option.isSome_some, List.map_cons, List.map_nil, AV.cells, List.length_cons, List.length_nil, List.all_cons, List.all_nil, AV.one, Value.oneCell', ne_eq, reduceCtorEq, Int.reduceNeg, Int.reduceEq, Int.reduceNe, Int.reduceAdd, Int.reduceSub, Int.reduceMul, Int.reduceLT, Int.reduceLE, Int.reduceToNat, List.drop_zero, List.take_zero, List.drop_succ_cons, List.take_succ_cons, List.nil_append, List.cons_append, List.append_nil, List.replicate_zero, List.flatten_nil, List.flatten_cons, List.reduceReplicate, ge_iff_le, gt_iff_lt, eq_self, Nat.add_assoc, facts, *] | simp (disch := omega) only [Ab.wrap_i64] | ((with_reducible refine Ab.gd_ndec (fun _ => ?_) (fun _ => ?_)) <;> try (exfalso; omega)) | ((with_reducible refine Ab.br_ndec (fun _ => ?_) (fun _ => ?_)) <;> try (exfalso; omega)) | ((with_reducible refine Ab.gd_dec (fun _ => ?_) (fun _ => ?_)) <;> try (exfalso; omega)) | ((with_reducible refine Ab.br_dec (fun _ => ?_) (fun _ => ?_)) <;> try (exfalso; omega)) | (with_reducible refine Ab.run_alt ?_ ?_) | (refine And.intro (by omega) ?_) | (refine gd_split (fun _ => ?_) (fun _ => ?_)) | (refine br_split (fun _ => ?_) (fun _ => ?_)) | omega)
end Go.Proofs.Ytppjagbdpmopdaa
