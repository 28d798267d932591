/- Parts as they lie in the heap; comparing, marking, testing them. -/
import Derived.Test.YtdpopimpdhgfaaaAb32
import Derived.Test.YtdpopimpdhgfaaaW1
import Derived.Test.YtdpopimpdhgfaaaInts
import Derived.Test.YtdpopimpdhgfaaaPartP
namespace Go.Proofs.Ytdpopimpdhgfaaa
set_option maxRecDepth 20000
set_option linter.unusedSimpArgs false
set_option linter.unusedVariables false
open Go Go.Ab

def oC (b m : Nat) : List AV := (List.range' b m).map fun i => AV.own i 1 2
theorem oC_len (b m : Nat) : (oC b m).length = m := by simp [oC]
theorem oC_at {b m i : Nat} (h : i < m) : (oC b m)[i]? = some (.own (b + i) 1 2) := by
  rw [oC, List.getElem?_map, List.getElem?_range' h]; simp
theorem oC_snoc (b m : Nat) : oC b m ++ [.own (b + m) 1 2] = oC b (m + 1) := by
  rw [oC, oC, List.range'_concat]; simp
theorem oC_ok {h : Heap} {b m : Nat} (hr : ∀ i, i < m → refOk h (b + i) 2 = true) : okAll h (oC b m) = true := by
  rw [okAll_iff]
  intro c hc
  simp only [oC, List.mem_map, List.mem_range'] at hc
  obtain ⟨i, ⟨j, hj, rfl⟩, rfl⟩ := hc
  have := hr j hj
  simpa [AV.ok] using this
def inP (ps : List PT) : Heap := ps.map fun p => rowW [p.1, p.2]
theorem inP_len (ps : List PT) : (inP ps).length = ps.length := by simp [inP]
theorem inP_snoc (ps : List PT) (a b : Int) : inP (ps ++ [(a, b)]) = inP ps ++ [rowW [a, b]] := by simp [inP]
theorem inP_at {ps : List PT} {k : Nat} {p : PT} (h : ps[k]? = some p) : (inP ps)[k]? = some (rowW [p.1, p.2]) := by simp [inP, h]
theorem inP_cells {ps : List PT} {h : Heap} : ∀ c ∈ inP ps, okAll h c.cells = true := by
  intro c hc
  simp only [inP, List.mem_map] at hc
  obtain ⟨p, _, rfl⟩ := hc
  exact rowI_ok _ _
/-- reading behind the inner rows -/
theorem rd_in {ps : List PT} {l : Heap} {k st : Nat} : rd (inP ps ++ l) (ps.length + k) st = rd l k st := by
  have := rd_newk (h := inP ps) (l := l) (k := k) (st := st)
  rwa [inP_len] at this
theorem rd_in0 {ps : List PT} {l : Heap} {st : Nat} : rd (inP ps ++ l) ps.length st = rd l 0 st := rd_in (k := 0)
theorem sz_in {ps : List PT} {l : Heap} {k : Nat} : sz (inP ps ++ l) (ps.length + k) = sz l k := by
  have := sz_newk (h := inP ps) (l := l) (k := k)
  rwa [inP_len] at this
theorem sz_in0 {ps : List PT} {l : Heap} : sz (inP ps ++ l) ps.length = sz l 0 := sz_in (k := 0)
theorem wr_in {ps : List PT} {l : Heap} {k st : Nat} : wr (inP ps ++ l) (ps.length + k) st = wr l k st := by
  have := wr_newk (h := inP ps) (l := l) (k := k) (st := st)
  rwa [inP_len] at this
theorem wr_in0 {ps : List PT} {l : Heap} {st : Nat} : wr (inP ps ++ l) ps.length st = wr l 0 st := wr_in (k := 0)
theorem set_in {ps : List PT} {l : Heap} {k : Nat} {b : Blk} : List.set (inP ps ++ l) (ps.length + k) b = inP ps ++ List.set l k b := by
  have := set_newk (h := inP ps) (l := l) (k := k) (b := b)
  rwa [inP_len] at this
theorem set_in0 {ps : List PT} {l : Heap} {b : Blk} : List.set (inP ps ++ l) ps.length b = inP ps ++ List.set l 0 b := set_in (k := 0)

structure NP (h : Heap) (id b : Nat) (ps : List PT) : Prop where
  row : rd h id ps.length = some (oC b ps.length)
  get : ∀ (k : Nat) p, ps[k]? = some p → rd h (b + k) 2 = some (rowI [p.1, p.2])
theorem NP.old {h : Heap} {id b : Nat} {ps : List PT} (n : NP h id b ps) (l : Heap) : NP (h ++ l) id b ps := ⟨rd_old n.row l, fun k p hk => rd_old (n.get k p hk) l⟩
/-- a heap with the inner rows at their place -/
theorem NP_new (A l : Heap) (id : Nat) (ps : List PT) (hr : ∀ l, rd (A ++ l) id ps.length = some (oC A.length ps.length)) : NP (A ++ (inP ps ++ l)) id A.length ps :=
  ⟨hr _, fun k p hk => by
    rw [rd_newk]
    unfold rd
    rw [List.getElem?_append_left (by rw [inP_len]; exact some_lt hk), inP_at hk]
    simp [rowI_len]⟩

theorem eqP_ok (a b : PT) (i j : Nat) (h : Heap) (ha : rd h i 2 = some (rowI [a.1, a.2])) (hb : rd h j 2 = some (rowI [b.1, b.2])) :
    AC Try.prog 25 [.own i 1 2, .own j 1 2] h fun r h' => r = VB (decide (a = b)) ∧ h' = h := by
  have := eqIntS_ok [a.1, a.2] [b.1, b.2] i j (by simp) h ha hb
  have he : decide ([a.1, a.2] = [b.1, b.2]) = decide (a = b) := by
    obtain ⟨a1, a2⟩ := a; obtain ⟨b1, b2⟩ := b; simp
  rwa [he] at this

theorem eqIntSS_ok (xs ys : List PT) (ida idb ba bb : Nat) (hx : xs.length ≤ 1048576) (h : Heap) (ha : NP h ida ba xs) (hb : NP h idb bb ys) :
    AC Try.prog 34 [.own ida 1 xs.length, .own idb 1 ys.length] h fun r h' => r = VB (decide (xs = ys)) ∧ h' = h := by
  refine AC_go mixed ok34 (by simp) fun hc _ => ?_
  unfold L34
  have hra := ha.row
  have hrb := hb.row
  have hsa := sz_of hra
  have hsb := sz_of hrb
  repeat' (first | simp -implicitDefEqProofs only [Ab.R1, Ab.R2, Ab.R3, Ab.R4, Ab.R5, Ab.RH, Ab.RM, Ab.binV, Ab.binC, Nat.reduceLT, Nat.reduceBEq, Nat.reduceAdd, Nat.reduceMul, Nat.reduceEqDiff, Nat.reduceLeDiff, Nat.reduceSub, List.getElem?_cons_zero, List.getElem?_cons_succ, List.getElem?_nil, Option.getD_some, Option.getD_none, if_true, if_false, reduceIte, Option.map_some, Option.map_none, Option.bind_some, Option.bind_none, Option.isSome_some, List.map_cons, List.map_nil, AV.cells, List.length_cons, List.length_nil, List.all_cons, List.all_nil, AV.one, Value.oneCell', ne_eq, reduceCtorEq, Int.reduceNeg, Int.reduceEq, Int.reduceNe, Int.reduceAdd, Int.reduceSub, Int.reduceMul, Int.reduceLT, Int.reduceLE, Int.reduceToNat, List.drop_zero, List.take_zero, List.drop_succ_cons, List.take_succ_cons, List.nil_append, List.cons_append, List.append_nil, List.replicate_zero, List.flatten_nil, List.flatten_cons, List.reduceReplicate, ge_iff_le, gt_iff_lt, eq_self, Nat.add_assoc, facts, *] | simp (disch := omega) only [Ab.wrap_i64] | ((with_reducible refine Ab.gd_ndec (fun _ => ?_) (fun _ => ?_)) <;> try (exfalso; omega)) | ((with_reducible refine Ab.br_ndec (fun _ => ?_) (fun _ => ?_)) <;> try (exfalso; omega)) | ((with_reducible refine Ab.gd_dec (fun _ => ?_) (fun _ => ?_)) <;> try (exfalso; omega)) | ((with_reducible refine Ab.br_dec (fun _ => ?_) (fun _ => ?_)) <;> try (exfalso; omega)) | (with_reducible refine Ab.run_alt ?_ ?_) | (refine And.intro (by omega) ?_) | (refine gd_split (fun _ => ?_) (fun _ => ?_)) | (refine br_split (fun _ => ?_) (fun _ => ?_)) | omega)
  · exact (dec_ne_len (by omega)).symm
  · refine lw_loopS K34b0 (fun i : Nat => [(5, VI i)]) (fun _ => h) (fun i => i ≤ xs.length ∧ xs.take i = ys.take i) (fun i => xs.length - i) 0 ⟨by omega, rfl⟩ rfl (by simp -implicitDefEqProofs only [Ab.R1, Ab.R2, Ab.R3, Ab.R4, Ab.R5, Ab.RH, Ab.RM, Ab.binV, Ab.binC, Nat.reduceLT, Nat.reduceBEq, Nat.reduceAdd, Nat.reduceMul, Nat.reduceEqDiff, Nat.reduceLeDiff, Nat.reduceSub, List.getElem?_cons_zero, List.getElem?_cons_succ, List.getElem?_nil, Option.getD_some, Option.getD_none, if_true, if_false, reduceIte, Option.map_some, Option.map_none, Option.bind_some, Option.bind_none, Option.isSome_some, List.map_cons, List.map_nil, AV.cells, List.length_cons, List.length_nil, List.all_cons, List.all_nil, AV.one, Value.oneCell', ne_eq, reduceCtorEq, Int.reduceNeg, Int.reduceEq, Int.reduceNe, Int.reduceAdd, Int.reduceSub, Int.reduceMul, Int.reduceLT, Int.reduceLE, Int.reduceToNat, List.drop_zero, List.take_zero, List.drop_succ_cons, List.take_succ_cons, List.nil_append, List.cons_append, List.append_nil, List.replicate_zero, List.flatten_nil, List.flatten_cons, List.reduceReplicate, ge_iff_le, gt_iff_lt, eq_self, Nat.add_assoc, facts]; rfl) (fun _ i _ => .same hc (by simp only [Ab.leB_cons, Ab.leB_nil, Ab.ok_raw, Ab.ok_own, Ab.ok_ptr, Ab.ok_sub, Ab.okAll_nil, Ab.okAll_cons, Ab.refOk_app, Ab.refOk_app0, Ab.okB_zero, Ab.okB_succ, Ab.rowI_ok, Ab.rowB_ok, Ab.rowS_ok, Ab.rowU_ok, Ab.rowI_len, Ab.rowB_len, Ab.rowS_len, Ab.rowU_len, List.mem_cons, List.not_mem_nil, or_false, forall_eq, forall_eq_or_imp, List.forall_mem_cons, List.length_replicate, and_true, true_and, and_self, Nat.le_refl, Nat.zero_le, implies_true, List.length_set, List.length_append, List.length_cons, List.length_nil, List.length_map, Bool.and_true, Bool.true_and, Bool.and_self, decide_true, decide_eq_true_eq] <;> omega)) ?_
    intro i ⟨hi, ht⟩ _
    refine lw_run mixed ?_
    unfold L34b0 K34b0
    have hla := oC_len ba xs.length
    have hlb := oC_len bb ys.length
    rcases Nat.lt_or_ge i xs.length with hlt | hge
    · obtain ⟨a, hxa⟩ := some_at hlt
      obtain ⟨b, hyb⟩ := some_at (show i < ys.length by omega)
      have hza := oC_at (b := ba) hlt
      have hzb := oC_at (b := bb) (show i < ys.length by omega)
      repeat' (first | simp -implicitDefEqProofs only [Ab.R1, Ab.R2, Ab.R3, Ab.R4, Ab.R5, Ab.RH, Ab.RM, Ab.binV, Ab.binC, Nat.reduceLT, Nat.reduceBEq, Nat.reduceAdd, Nat.reduceMul, Nat.reduceEqDiff, Nat.reduceLeDiff, Nat.reduceSub, List.getElem?_cons_zero, List.getElem?_cons_succ, List.getElem?_nil, Option.getD_some, Option.getD_none, if_true, if_false, reduceIte, Option.map_some, Option.map_none, Option.bind_some, Option.bind_none, Option.isSome_some, List.map_cons, List.map_nil, AV.cells, List.length_cons, List.length_nil, List.all_cons, List.all_nil, AV.one, Value.oneCell', ne_eq, reduceCtorEq, Int.reduceNeg, Int.reduceEq, Int.reduceNe, Int.reduceAdd, Int.reduceSub, Int.reduceMul, Int.reduceLT, Int.reduceLE, Int.reduceToNat, List.drop_zero, List.take_zero, List.drop_succ_cons, List.take_succ_cons, List.nil_append, List.cons_append, List.append_nil, List.replicate_zero, List.flatten_nil, List.flatten_cons, List.reduceReplicate, ge_iff_le, gt_iff_lt, eq_self, Nat.add_assoc, facts, *] | simp (disch := omega) only [Ab.wrap_i64] | ((with_reducible refine Ab.gd_ndec (fun _ => ?_) (fun _ => ?_)) <;> try (exfalso; omega)) | ((with_reducible refine Ab.br_ndec (fun _ => ?_) (fun _ => ?_)) <;> try (exfalso; omega)) | ((with_reducible refine Ab.gd_dec (fun _ => ?_) (fun _ => ?_)) <;> try (exfalso; omega)) | ((with_reducible refine Ab.br_dec (fun _ => ?_) (fun _ => ?_)) <;> try (exfalso; omega)) | (with_reducible refine Ab.run_alt ?_ ?_) | (refine And.intro (by omega) ?_) | (refine gd_split (fun _ => ?_) (fun _ => ?_)) | (refine br_split (fun _ => ?_) (fun _ => ?_)) | (refine cl_same (eqP_ok a b (ba + i) (bb + i) _ (ha.get i a hxa) (hb.get i b hyb)) ?_) | omega)
      · exact (decide_eq_false (differ_at hxa hyb ‹¬ a = b›)).symm
      · refine ⟨i + 1, [], by omega, ⟨by omega, take_more hxa hyb ht ‹a = b›⟩, by simp, by omega⟩
    · repeat' (first | simp -implicitDefEqProofs only [Ab.R1, Ab.R2, Ab.R3, Ab.R4, Ab.R5, Ab.RH, Ab.RM, Ab.binV, Ab.binC, Nat.reduceLT, Nat.reduceBEq, Nat.reduceAdd, Nat.reduceMul, Nat.reduceEqDiff, Nat.reduceLeDiff, Nat.reduceSub, List.getElem?_cons_zero, List.getElem?_cons_succ, List.getElem?_nil, Option.getD_some, Option.getD_none, if_true, if_false, reduceIte, Option.map_some, Option.map_none, Option.bind_some, Option.bind_none, Option.isSome_some, List.map_cons, List.map_nil, AV.cells, List.length_cons, List.length_nil, List.all_cons, List.all_nil, AV.one, Value.oneCell', ne_eq, reduceCtorEq, Int.reduceNeg, Int.reduceEq, Int.reduceNe, Int.reduceAdd, Int.reduceSub, Int.reduceMul, Int.reduceLT, Int.reduceLE, Int.reduceToNat, List.drop_zero, List.take_zero, List.drop_succ_cons, List.take_succ_cons, List.nil_append, List.cons_append, List.append_nil, List.replicate_zero, List.flatten_nil, List.flatten_cons, List.reduceReplicate, ge_iff_le, gt_iff_lt, eq_self, Nat.add_assoc, facts, *] | simp (disch := omega) only [Ab.wrap_i64] | ((with_reducible refine Ab.gd_ndec (fun _ => ?_) (fun _ => ?_)) <;> try (exfalso; omega)) | ((with_reducible refine Ab.br_ndec (fun _ => ?_) (fun _ => ?_)) <;> try (exfalso; omega)) | ((with_reducible refine Ab.gd_dec (fun _ => ?_) (fun _ => ?_)) <;> try (exfalso; omega)) | ((with_reducible refine Ab.br_dec (fun _ => ?_) (fun _ => ?_)) <;> try (exfalso; omega)) | (with_reducible refine Ab.run_alt ?_ ?_) | (refine And.intro (by omega) ?_) | (refine gd_split (fun _ => ?_) (fun _ => ?_)) | (refine br_split (fun _ => ?_) (fun _ => ?_)) | omega)
      exact (decide_eq_true (eq_of_len_take (by omega) (by omega) ht)).symm

def mkP (m : Nat) : List PT := (List.range m).map fun (i : Nat) => ((1 + 2 * (i : Int)), 2 + 2 * (i : Int))
theorem mkP_len (m : Nat) : (mkP m).length = m := by simp [mkP]
theorem mkP_at {m i : Nat} (h : i < m) : (mkP m)[i]? = some (1 + 2 * (i : Int), 2 + 2 * (i : Int)) := by simp [mkP, h]
def mdP (ps : List PT) (i : Nat) : List PT := mkP i ++ ps.drop i
theorem mdP_len {ps : List PT} {i : Nat} (hi : i ≤ ps.length) : (mdP ps i).length = ps.length := by simp [mdP, mkP]; omega
theorem mdP_zero (ps : List PT) : mdP ps 0 = ps := by simp [mdP, mkP]
theorem mdP_all (ps : List PT) : mdP ps ps.length = mkP ps.length := by simp [mdP]
theorem mdP_at {ps : List PT} {i : Nat} {p : PT} (h : ps[i]? = some p) : (mdP ps i)[i]? = some p := by
  unfold mdP
  rw [List.getElem?_append_right (by simp [mkP])]
  simp [mkP, h]
theorem mdP_set {ps : List PT} {i : Nat} {p : PT} (h : ps[i]? = some p) : (mdP ps i).set i (1 + 2 * (i : Int), 2 + 2 * (i : Int)) = mdP ps (i + 1) := by
  unfold mdP
  rw [List.set_append_right _ _ (by simp [mkP]), drop_at h, mkP, mkP, List.range_succ, List.map_append]
  simp
section
variable {A l : Heap}
theorem inP_wr {X : List PT} {k : Nat} {a : PT} (hk : X[k]? = some a) : wr (A ++ (inP X ++ l)) (A.length + k) 2 = some (3, 1, rowI [a.1, a.2]) := by
  rw [wr_newk]
  have hg := inP_at hk
  unfold wr
  rw [List.getElem?_append_left (lt_len hg), hg]
  simp [rowI_len]
theorem inP_set {X : List PT} {k : Nat} {a : PT} (hk : X[k]? = some a) (x y : Int) : List.set (A ++ (inP X ++ l)) (A.length + k) ⟨.row 3 1, rowI [x, y]⟩ = A ++ (inP (X.set k (x, y)) ++ l) := by
  rw [set_newk]
  congr 1
  rw [List.set_append_left _ _ (by rw [inP_len]; exact some_lt hk)]
  congr 1
  rw [inP, inP, List.map_set]
theorem inP_side {ps X : List PT} (hX : X.length = ps.length) : closedH (A ++ (inP ps ++ l)) → Side (A ++ (inP ps ++ l)) [] (A ++ (inP X ++ l)) := by
  intro hc
  have hsh := same_shape (h' := A ++ (inP X ++ l)) hc (by simp [inP_len, hX]) fun id c hcc => by
    rcases three_at (e := inP ps) (by rw [inP_len, inP_len, hX]) hcc with h1 | ⟨k, rfl, hk, hk'⟩
    · exact ⟨c, h1, rfl, hc _ _ h1⟩
    · obtain ⟨p, hp⟩ := some_at (show k < ps.length by rw [inP_len] at hk; exact hk)
      obtain ⟨q, hq⟩ := some_at (show k < X.length by rw [inP_len] at hk; omega)
      rw [inP_at hq] at hk'
      injection hk' with hk'; subst hk'
      refine ⟨rowW [p.1, p.2], ?_, by simp [rowI_len], rowI_ok _ _⟩
      rw [get_new, List.getElem?_append_left (by rw [inP_len]; exact some_lt hp), inP_at hp]
  exact ⟨hsh.1, hsh.2, fun p hp => by cases hp⟩
end

theorem markIntSS_ok (ps : List PT) (A l : Heap) (id : Nat) (hn : ps.length ≤ 1048576) (hr : ∀ l, rd (A ++ l) id ps.length = some (oC A.length ps.length)) :
    AC Try.prog 35 [.own id 1 ps.length, VI 1] (A ++ (inP ps ++ l)) fun r h' => r = VI (1 + 2 * (ps.length : Int)) ∧ h' = A ++ (inP (mkP ps.length) ++ l) := by
  refine AC_go mixed ok35 (by simp) fun hc _ => ?_
  unfold L35
  repeat' (first | simp -implicitDefEqProofs only [Ab.R1, Ab.R2, Ab.R3, Ab.R4, Ab.R5, Ab.RH, Ab.RM, Ab.binV, Ab.binC, Nat.reduceLT, Nat.reduceBEq, Nat.reduceAdd, Nat.reduceMul, Nat.reduceEqDiff, Nat.reduceLeDiff, Nat.reduceSub, List.getElem?_cons_zero, List.getElem?_cons_succ, List.getElem?_nil, Option.getD_some, Option.getD_none, if_true, if_false, reduceIte, Option.map_some, Option.map_none, Option.bind_some, Option.bind_none, Option.isSome_some, List.map_cons, List.map_nil, AV.cells, List.length_cons, List.length_nil, List.all_cons, List.all_nil, AV.one, Value.oneCell', ne_eq, reduceCtorEq, Int.reduceNeg, Int.reduceEq, Int.reduceNe, Int.reduceAdd, Int.reduceSub, Int.reduceMul, Int.reduceLT, Int.reduceLE, Int.reduceToNat, List.drop_zero, List.take_zero, List.drop_succ_cons, List.take_succ_cons, List.nil_append, List.cons_append, List.append_nil, List.replicate_zero, List.flatten_nil, List.flatten_cons, List.reduceReplicate, ge_iff_le, gt_iff_lt, eq_self, Nat.add_assoc, facts, *] | simp (disch := omega) only [Ab.wrap_i64] | ((with_reducible refine Ab.gd_ndec (fun _ => ?_) (fun _ => ?_)) <;> try (exfalso; omega)) | ((with_reducible refine Ab.br_ndec (fun _ => ?_) (fun _ => ?_)) <;> try (exfalso; omega)) | ((with_reducible refine Ab.gd_dec (fun _ => ?_) (fun _ => ?_)) <;> try (exfalso; omega)) | ((with_reducible refine Ab.br_dec (fun _ => ?_) (fun _ => ?_)) <;> try (exfalso; omega)) | (with_reducible refine Ab.run_alt ?_ ?_) | (refine And.intro (by omega) ?_) | (refine gd_split (fun _ => ?_) (fun _ => ?_)) | (refine br_split (fun _ => ?_) (fun _ => ?_)) | omega)
  refine lw_loopS K35b0 (fun i : Nat => [(1, VI (1 + 2 * (i : Int))), (5, VI i)]) (fun i => A ++ (inP (mdP ps i) ++ l)) (fun i => i ≤ ps.length) (fun i => ps.length - i) 0 (by omega) (by rw [mdP_zero]) (by simp -implicitDefEqProofs only [Ab.R1, Ab.R2, Ab.R3, Ab.R4, Ab.R5, Ab.RH, Ab.RM, Ab.binV, Ab.binC, Nat.reduceLT, Nat.reduceBEq, Nat.reduceAdd, Nat.reduceMul, Nat.reduceEqDiff, Nat.reduceLeDiff, Nat.reduceSub, List.getElem?_cons_zero, List.getElem?_cons_succ, List.getElem?_nil, Option.getD_some, Option.getD_none, if_true, if_false, reduceIte, Option.map_some, Option.map_none, Option.bind_some, Option.bind_none, Option.isSome_some, List.map_cons, List.map_nil, AV.cells, List.length_cons, List.length_nil, List.all_cons, List.all_nil, AV.one, Value.oneCell', ne_eq, reduceCtorEq, Int.reduceNeg, Int.reduceEq, Int.reduceNe, Int.reduceAdd, Int.reduceSub, Int.reduceMul, Int.reduceLT, Int.reduceLE, Int.reduceToNat, List.drop_zero, List.take_zero, List.drop_succ_cons, List.take_succ_cons, List.nil_append, List.cons_append, List.append_nil, List.replicate_zero, List.flatten_nil, List.flatten_cons, List.reduceReplicate, ge_iff_le, gt_iff_lt, eq_self, Nat.add_assoc, facts]; simp) ?_ ?_
  · intro hc' i hi
    have hs := inP_side (A := A) (l := l) (mdP_len hi) hc'
    exact ⟨hs.closed, hs.le, by simp [AV.ok]⟩
  · intro i hi _
    refine lw_run mixed ?_
    unfold L35b0 K35b0
    have hrr := hr (inP (mdP ps i) ++ l)
    have hsr := sz_of hrr
    have hla := oC_len A.length ps.length
    rcases Nat.lt_or_ge i ps.length with hlt | hge
    · obtain ⟨p, hp⟩ := some_at hlt
      have hza := oC_at (b := A.length) hlt
      have hmk := markIntS_ok [p.1, p.2] (A.length + i) (1 + 2 * (i : Int)) (by omega) (by simp) _ (inP_wr (A := A) (l := l) (mdP_at hp))
      have hio : iotaI (1 + 2 * (i : Int)) [p.1, p.2].length = [1 + 2 * (i : Int), 2 + 2 * (i : Int)] := by
        simp [iotaI, List.range_succ]; omega
      rw [hio, inP_set (mdP_at hp), mdP_set hp] at hmk
      simp only [List.length_cons, List.length_nil] at hmk
      repeat' (first | simp -implicitDefEqProofs only [Ab.R1, Ab.R2, Ab.R3, Ab.R4, Ab.R5, Ab.RH, Ab.RM, Ab.binV, Ab.binC, Nat.reduceLT, Nat.reduceBEq, Nat.reduceAdd, Nat.reduceMul, Nat.reduceEqDiff, Nat.reduceLeDiff, Nat.reduceSub, List.getElem?_cons_zero, List.getElem?_cons_succ, List.getElem?_nil, Option.getD_some, Option.getD_none, if_true, if_false, reduceIte, Option.map_some, Option.map_none, Option.bind_some, Option.bind_none, Option.isSome_some, List.map_cons, List.map_nil, AV.cells, List.length_cons, List.length_nil, List.all_cons, List.all_nil, AV.one, Value.oneCell', ne_eq, reduceCtorEq, Int.reduceNeg, Int.reduceEq, Int.reduceNe, Int.reduceAdd, Int.reduceSub, Int.reduceMul, Int.reduceLT, Int.reduceLE, Int.reduceToNat, List.drop_zero, List.take_zero, List.drop_succ_cons, List.take_succ_cons, List.nil_append, List.cons_append, List.append_nil, List.replicate_zero, List.flatten_nil, List.flatten_cons, List.reduceReplicate, ge_iff_le, gt_iff_lt, eq_self, Nat.add_assoc, facts, *] | simp (disch := omega) only [Ab.wrap_i64] | ((with_reducible refine Ab.gd_ndec (fun _ => ?_) (fun _ => ?_)) <;> try (exfalso; omega)) | ((with_reducible refine Ab.br_ndec (fun _ => ?_) (fun _ => ?_)) <;> try (exfalso; omega)) | ((with_reducible refine Ab.gd_dec (fun _ => ?_) (fun _ => ?_)) <;> try (exfalso; omega)) | ((with_reducible refine Ab.br_dec (fun _ => ?_) (fun _ => ?_)) <;> try (exfalso; omega)) | (with_reducible refine Ab.run_alt ?_ ?_) | (refine And.intro (by omega) ?_) | (refine gd_split (fun _ => ?_) (fun _ => ?_)) | (refine br_split (fun _ => ?_) (fun _ => ?_)) | (refine cl_use ( hmk) (fun hd => by cases hd) ?_) | omega)
      exact ⟨i + 1, [], by omega, by omega, by simp, by omega, by omega⟩
    · obtain rfl : i = ps.length := by omega
      rw [mdP_all] at *
      repeat' (first | simp -implicitDefEqProofs only [Ab.R1, Ab.R2, Ab.R3, Ab.R4, Ab.R5, Ab.RH, Ab.RM, Ab.binV, Ab.binC, Nat.reduceLT, Nat.reduceBEq, Nat.reduceAdd, Nat.reduceMul, Nat.reduceEqDiff, Nat.reduceLeDiff, Nat.reduceSub, List.getElem?_cons_zero, List.getElem?_cons_succ, List.getElem?_nil, Option.getD_some, Option.getD_none, if_true, if_false, reduceIte, Option.map_some, Option.map_none, Option.bind_some, Option.bind_none, Option.isSome_some, List.map_cons, List.map_nil, AV.cells, List.length_cons, List.length_nil, List.all_cons, List.all_nil, AV.one, Value.oneCell', ne_eq, reduceCtorEq, Int.reduceNeg, Int.reduceEq, Int.reduceNe, Int.reduceAdd, Int.reduceSub, Int.reduceMul, Int.reduceLT, Int.reduceLE, Int.reduceToNat, List.drop_zero, List.take_zero, List.drop_succ_cons, List.take_succ_cons, List.nil_append, List.cons_append, List.append_nil, List.replicate_zero, List.flatten_nil, List.flatten_cons, List.reduceReplicate, ge_iff_le, gt_iff_lt, eq_self, Nat.add_assoc, facts, *] | simp (disch := omega) only [Ab.wrap_i64] | ((with_reducible refine Ab.gd_ndec (fun _ => ?_) (fun _ => ?_)) <;> try (exfalso; omega)) | ((with_reducible refine Ab.br_ndec (fun _ => ?_) (fun _ => ?_)) <;> try (exfalso; omega)) | ((with_reducible refine Ab.gd_dec (fun _ => ?_) (fun _ => ?_)) <;> try (exfalso; omega)) | ((with_reducible refine Ab.br_dec (fun _ => ?_) (fun _ => ?_)) <;> try (exfalso; omega)) | (with_reducible refine Ab.run_alt ?_ ?_) | (refine And.intro (by omega) ?_) | (refine gd_split (fun _ => ?_) (fun _ => ?_)) | (refine br_split (fun _ => ?_) (fun _ => ?_)) | omega)

theorem heldIntSS_ok (m id b : Nat) (hn : m ≤ 1048576) (h : Heap) (ha : NP h id b (mkP m)) :
    AC Try.prog 36 [.own id 1 m, VI 1] h fun r h' => r = VI (1 + 2 * (m : Int)) ∧ h' = h := by
  refine AC_go mixed ok36 (by simp) fun hc _ => ?_
  unfold L36
  have hra := ha.row
  rw [mkP_len] at hra
  have hsa := sz_of hra
  repeat' (first | simp -implicitDefEqProofs only [Ab.R1, Ab.R2, Ab.R3, Ab.R4, Ab.R5, Ab.RH, Ab.RM, Ab.binV, Ab.binC, Nat.reduceLT, Nat.reduceBEq, Nat.reduceAdd, Nat.reduceMul, Nat.reduceEqDiff, Nat.reduceLeDiff, Nat.reduceSub, List.getElem?_cons_zero, List.getElem?_cons_succ, List.getElem?_nil, Option.getD_some, Option.getD_none, if_true, if_false, reduceIte, Option.map_some, Option.map_none, Option.bind_some, Option.bind_none, Option.isSome_some, List.map_cons, List.map_nil, AV.cells, List.length_cons, List.length_nil, List.all_cons, List.all_nil, AV.one, Value.oneCell', ne_eq, reduceCtorEq, Int.reduceNeg, Int.reduceEq, Int.reduceNe, Int.reduceAdd, Int.reduceSub, Int.reduceMul, Int.reduceLT, Int.reduceLE, Int.reduceToNat, List.drop_zero, List.take_zero, List.drop_succ_cons, List.take_succ_cons, List.nil_append, List.cons_append, List.append_nil, List.replicate_zero, List.flatten_nil, List.flatten_cons, List.reduceReplicate, ge_iff_le, gt_iff_lt, eq_self, Nat.add_assoc, facts, *] | simp (disch := omega) only [Ab.wrap_i64] | ((with_reducible refine Ab.gd_ndec (fun _ => ?_) (fun _ => ?_)) <;> try (exfalso; omega)) | ((with_reducible refine Ab.br_ndec (fun _ => ?_) (fun _ => ?_)) <;> try (exfalso; omega)) | ((with_reducible refine Ab.gd_dec (fun _ => ?_) (fun _ => ?_)) <;> try (exfalso; omega)) | ((with_reducible refine Ab.br_dec (fun _ => ?_) (fun _ => ?_)) <;> try (exfalso; omega)) | (with_reducible refine Ab.run_alt ?_ ?_) | (refine And.intro (by omega) ?_) | (refine gd_split (fun _ => ?_) (fun _ => ?_)) | (refine br_split (fun _ => ?_) (fun _ => ?_)) | omega)
  refine lw_loopS K36b0 (fun i : Nat => [(1, VI (1 + 2 * (i : Int))), (5, VI i)]) (fun _ => h) (fun i => i ≤ m) (fun i => m - i) 0 (by omega) rfl (by simp -implicitDefEqProofs only [Ab.R1, Ab.R2, Ab.R3, Ab.R4, Ab.R5, Ab.RH, Ab.RM, Ab.binV, Ab.binC, Nat.reduceLT, Nat.reduceBEq, Nat.reduceAdd, Nat.reduceMul, Nat.reduceEqDiff, Nat.reduceLeDiff, Nat.reduceSub, List.getElem?_cons_zero, List.getElem?_cons_succ, List.getElem?_nil, Option.getD_some, Option.getD_none, if_true, if_false, reduceIte, Option.map_some, Option.map_none, Option.bind_some, Option.bind_none, Option.isSome_some, List.map_cons, List.map_nil, AV.cells, List.length_cons, List.length_nil, List.all_cons, List.all_nil, AV.one, Value.oneCell', ne_eq, reduceCtorEq, Int.reduceNeg, Int.reduceEq, Int.reduceNe, Int.reduceAdd, Int.reduceSub, Int.reduceMul, Int.reduceLT, Int.reduceLE, Int.reduceToNat, List.drop_zero, List.take_zero, List.drop_succ_cons, List.take_succ_cons, List.nil_append, List.cons_append, List.append_nil, List.replicate_zero, List.flatten_nil, List.flatten_cons, List.reduceReplicate, ge_iff_le, gt_iff_lt, eq_self, Nat.add_assoc, facts]; simp) (fun _ i _ => .same hc (by simp only [Ab.leB_cons, Ab.leB_nil, Ab.ok_raw, Ab.ok_own, Ab.ok_ptr, Ab.ok_sub, Ab.okAll_nil, Ab.okAll_cons, Ab.refOk_app, Ab.refOk_app0, Ab.okB_zero, Ab.okB_succ, Ab.rowI_ok, Ab.rowB_ok, Ab.rowS_ok, Ab.rowU_ok, Ab.rowI_len, Ab.rowB_len, Ab.rowS_len, Ab.rowU_len, List.mem_cons, List.not_mem_nil, or_false, forall_eq, forall_eq_or_imp, List.forall_mem_cons, List.length_replicate, and_true, true_and, and_self, Nat.le_refl, Nat.zero_le, implies_true, List.length_set, List.length_append, List.length_cons, List.length_nil, List.length_map, Bool.and_true, Bool.true_and, Bool.and_self, decide_true, decide_eq_true_eq] <;> omega)) ?_
  intro i hi _
  refine lw_run mixed ?_
  unfold L36b0 K36b0
  have hla := oC_len b m
  rcases Nat.lt_or_ge i m with hlt | hge
  · have hza := oC_at (b := b) hlt
    have hio : iotaI (1 + 2 * (i : Int)) 2 = [1 + 2 * (i : Int), 2 + 2 * (i : Int)] := by
      simp [iotaI, List.range_succ]; omega
    have hg := ha.get i _ (mkP_at hlt)
    rw [← hio] at hg
    have hmk := heldIntS_ok 2 (b + i) (1 + 2 * (i : Int)) (by omega) (by omega) _ hg
    repeat' (first | simp -implicitDefEqProofs only [Ab.R1, Ab.R2, Ab.R3, Ab.R4, Ab.R5, Ab.RH, Ab.RM, Ab.binV, Ab.binC, Nat.reduceLT, Nat.reduceBEq, Nat.reduceAdd, Nat.reduceMul, Nat.reduceEqDiff, Nat.reduceLeDiff, Nat.reduceSub, List.getElem?_cons_zero, List.getElem?_cons_succ, List.getElem?_nil, Option.getD_some, Option.getD_none, if_true, if_false, reduceIte, Option.map_some, Option.map_none, Option.bind_some, Option.bind_none, Option.isSome_some, List.map_cons, List.map_nil, AV.cells, List.length_cons, List.length_nil, List.all_cons, List.all_nil, AV.one, Value.oneCell', ne_eq, reduceCtorEq, Int.reduceNeg, Int.reduceEq, Int.reduceNe, Int.reduceAdd, Int.reduceSub, Int.reduceMul, Int.reduceLT, Int.reduceLE, Int.reduceToNat, List.drop_zero, List.take_zero, List.drop_succ_cons, List.take_succ_cons, List.nil_append, List.cons_append, List.append_nil, List.replicate_zero, List.flatten_nil, List.flatten_cons, List.reduceReplicate, ge_iff_le, gt_iff_lt, eq_self, Nat.add_assoc, facts, *] | simp (disch := omega) only [Ab.wrap_i64] | ((with_reducible refine Ab.gd_ndec (fun _ => ?_) (fun _ => ?_)) <;> try (exfalso; omega)) | ((with_reducible refine Ab.br_ndec (fun _ => ?_) (fun _ => ?_)) <;> try (exfalso; omega)) | ((with_reducible refine Ab.gd_dec (fun _ => ?_) (fun _ => ?_)) <;> try (exfalso; omega)) | ((with_reducible refine Ab.br_dec (fun _ => ?_) (fun _ => ?_)) <;> try (exfalso; omega)) | (with_reducible refine Ab.run_alt ?_ ?_) | (refine And.intro (by omega) ?_) | (refine gd_split (fun _ => ?_) (fun _ => ?_)) | (refine br_split (fun _ => ?_) (fun _ => ?_)) | (refine cl_same (hmk) ?_) | omega)
    exact ⟨i + 1, [], by omega, by omega, by simp, by omega, by omega⟩
  · obtain rfl : i = m := by omega
    repeat' (first | simp -implicitDefEqProofs only [Ab.R1, Ab.R2, Ab.R3, Ab.R4, Ab.R5, Ab.RH, Ab.RM, Ab.binV, Ab.binC, Nat.reduceLT, Nat.reduceBEq, Nat.reduceAdd, Nat.reduceMul, Nat.reduceEqDiff, Nat.reduceLeDiff, Nat.reduceSub, List.getElem?_cons_zero, List.getElem?_cons_succ, List.getElem?_nil, Option.getD_some, Option.getD_none, if_true, if_false, reduceIte, Option.map_some, Option.map_none, Option.bind_some, Option.bind_none, Option.isSome_some, List.map_cons, List.map_nil, AV.cells, List.length_cons, List.length_nil, List.all_cons, List.all_nil, AV.one, Value.oneCell', ne_eq, reduceCtorEq, Int.reduceNeg, Int.reduceEq, Int.reduceNe, Int.reduceAdd, Int.reduceSub, Int.reduceMul, Int.reduceLT, Int.reduceLE, Int.reduceToNat, List.drop_zero, List.take_zero, List.drop_succ_cons, List.take_succ_cons, List.nil_append, List.cons_append, List.append_nil, List.replicate_zero, List.flatten_nil, List.flatten_cons, List.reduceReplicate, ge_iff_le, gt_iff_lt, eq_self, Nat.add_assoc, facts, *] | simp (disch := omega) only [Ab.wrap_i64] | ((with_reducible refine Ab.gd_ndec (fun _ => ?_) (fun _ => ?_)) <;> try (exfalso; omega)) | ((with_reducible refine Ab.br_ndec (fun _ => ?_) (fun _ => ?_)) <;> try (exfalso; omega)) | ((with_reducible refine Ab.gd_dec (fun _ => ?_) (fun _ => ?_)) <;> try (exfalso; omega)) | ((with_reducible refine Ab.br_dec (fun _ => ?_) (fun _ => ?_)) <;> try (exfalso; omega)) | (with_reducible refine Ab.run_alt ?_ ?_) | (refine And.intro (by omega) ?_) | (refine gd_split (fun _ => ?_) (fun _ => ?_)) | (refine br_split (fun _ => ?_) (fun _ => ?_)) | omega)
end Go.Proofs.Ytdpopimpdhgfaaa
