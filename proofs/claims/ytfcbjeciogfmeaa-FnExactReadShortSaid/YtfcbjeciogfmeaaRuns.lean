/- Strips from their runs; ReadShort. -/
import Derived.Test.YtfcbjeciogfmeaaAb32
import Derived.Test.YtfcbjeciogfmeaaCard
import Derived.Test.YtfcbjeciogfmeaaRepeat
import Derived.Test.YtfcbjeciogfmeaaCorn
namespace Go.Proofs.Ytfcbjeciogfmeaa
set_option maxRecDepth 20000
set_option linter.unusedSimpArgs false
set_option linter.unusedVariables false
open Go Go.Ab

def oth (c : UInt8) : UInt8 := if c = 100 then 102 else 100
/-- the letter of the run k -/
def ltr (c : UInt8) (k : Nat) : UInt8 := if k % 2 = 0 then c else oth c
def bldG (c : UInt8) (r : List Int) : Nat → List UInt8
  | 0 => []
  | k + 1 => bldG c r k ++ List.replicate (r.getD k 0).toNat (ltr c k)
def all8 (r : List Int) : Bool := r.all in8
def frB (c : UInt8) (r : List Int) : ByteArray := if (all8 r && stripB (mkB (bldG c r r.length))) = true then mkB (bldG c r r.length) else ⟨#[]⟩
theorem ltr_next {c : UInt8} (hc : c = 100 ∨ c = 102) (k : Nat) : oth (ltr c k) = ltr c (k + 1) := by
  unfold ltr
  rcases Nat.mod_two_eq_zero_or_one k with h | h
  · rw [if_pos h, if_neg (by omega)]
  · rw [if_neg (by omega), if_pos (by omega)]
    rcases hc with rfl | rfl <;> decide
theorem ltr_or {c : UInt8} (hc : c = 100 ∨ c = 102) (k : Nat) : ltr c k = 100 ∨ ltr c k = 102 := by
  unfold ltr
  split
  · exact hc
  · rcases hc with rfl | rfl <;> decide
theorem bld_succ {c : UInt8} {r : List Int} {k : Nat} {x : Int} (h : r[k]? = some x) : mkB (bldG c r (k + 1)) = mkB (bldG c r k) ++ mkB (List.replicate x.toNat (ltr c k)) := by
  rw [bldG]
  have : r.getD k 0 = x := by simp [List.getD, h]
  rw [this]
  apply bsL_inj
  simp [bsL, mkB]
theorem bld_len {c : UInt8} {r : List Int} : ∀ k, k ≤ r.length → all8 (r.take k) = true → k ≤ (bldG c r k).length ∧ (bldG c r k).length ≤ 8 * k
  | 0, _, _ => ⟨Nat.le_refl _, Nat.le_refl _⟩
  | k + 1, hk, h => by
    obtain ⟨x, hx⟩ := some_at (show k < r.length by omega)
    have ht := take_snoc hx
    rw [all8, ht, List.all_append, Bool.and_eq_true] at h
    have ih := bld_len (c := c) k (by omega) h.1
    have h2 : in8 x = true := by simpa using h.2
    simp only [in8, Bool.and_eq_true, decide_eq_true_eq] at h2
    have hg : r.getD k 0 = x := by simp [List.getD, hx]
    rw [bldG, List.length_append, List.length_replicate, hg]
    omega
theorem bld_mono {c : UInt8} {r : List Int} {k : Nat} : ∀ m, (bldG c r k).length ≤ (bldG c r (k + m)).length
  | 0 => Nat.le_refl _
  | m + 1 => by
    have := bld_mono (c := c) (r := r) (k := k) m
    rw [← Nat.add_assoc, bldG, List.length_append]; omega
theorem fr_long {c : UInt8} {r : List Int} {k : Nat} (hk : k ≤ r.length) (h : 16 < (bldG c r k).length) : frB c r = ⟨#[]⟩ := by
  refine if_neg fun e => ?_
  simp only [Bool.and_eq_true] at e
  have h1 := (strip_iff.1 e.2).size
  have h2 := bld_mono (c := c) (r := r) (k := k) (r.length - k)
  rw [show k + (r.length - k) = r.length by omega] at h2
  rw [mkB_size] at h1
  omega
theorem fr_many {c : UInt8} {r : List Int} (h : 16 < r.length) : frB c r = ⟨#[]⟩ := by
  refine if_neg fun e => ?_
  simp only [Bool.and_eq_true] at e
  have h1 := (strip_iff.1 e.2).size
  have h2 := bld_len (c := c) r.length (Nat.le_refl _) (by rw [List.take_length]; exact e.1)
  rw [mkB_size] at h1
  omega
theorem fr_bad {c : UInt8} {r : List Int} {k : Nat} {x : Int} (hx : r[k]? = some x) (h : in8 x = false) : frB c r = ⟨#[]⟩ := by
  refine if_neg fun e => ?_
  simp only [Bool.and_eq_true, all8, List.all_eq_true] at e
  rw [e.1 x (List.mem_of_getElem? hx)] at h; cases h
theorem all8_more {r : List Int} {k : Nat} {x : Int} (hx : r[k]? = some x) (h : all8 (r.take k) = true) (h2 : in8 x = true) : all8 (r.take (k + 1)) = true := by
  rw [all8, take_snoc hx, List.all_append, Bool.and_eq_true]
  exact ⟨h, by simp [h2]⟩

theorem fr_end {c : UInt8} {r : List Int} (h : all8 r = true) : frB c r = if stripB (mkB (bldG c r r.length)) = true then mkB (bldG c r r.length) else ⟨#[]⟩ := by
  rw [frB, h, Bool.true_and]
theorem many_ok (c : UInt8) (n : Nat) (hn : n ≤ 1048576) (h : Heap) : AC Try.prog 71 [VS ⟨#[c]⟩, VI n] h fun r h' => r = VS (mkB (List.replicate n c)) ∧ h' = h := by
  refine AC_go mixed ok71 (by simp) fun hc _ => ?_
  unfold L71
  repeat' (first | simp -implicitDefEqProofs only [Ab.R1, Ab.R2, Ab.R3, Ab.R4, Ab.R5, Ab.RH, Ab.RM, Ab.binV, Ab.binC, Nat.reduceLT, Nat.reduceBEq, Nat.reduceAdd, Nat.reduceMul, Nat.reduceEqDiff, Nat.reduceLeDiff, Nat.reduceSub, List.getElem?_cons_zero, List.getElem?_cons_succ, List.getElem?_nil, Option.getD_some, Option.getD_none, if_true, if_false, reduceIte, Option.map_some, Option.map_none, Option.bind_some, Option.bind_none, Option.isSome_some, List.map_cons, List.map_nil, AV.cells, List.length_cons, List.length_nil, List.all_cons, List.all_nil, AV.one, Value.oneCell', ne_eq, reduceCtorEq, Int.reduceNeg, Int.reduceEq, Int.reduceNe, Int.reduceAdd, Int.reduceSub, Int.reduceMul, Int.reduceLT, Int.reduceLE, Int.reduceToNat, List.drop_zero, List.take_zero, List.drop_succ_cons, List.take_succ_cons, List.nil_append, List.cons_append, List.append_nil, List.replicate_zero, List.flatten_nil, List.flatten_cons, List.reduceReplicate, ge_iff_le, gt_iff_lt, eq_self, Nat.add_assoc, facts, *] | simp (disch := omega) only [Ab.wrap_i64] | ((with_reducible refine Ab.gd_ndec (fun _ => ?_) (fun _ => ?_)) <;> try (exfalso; omega)) | ((with_reducible refine Ab.br_ndec (fun _ => ?_) (fun _ => ?_)) <;> try (exfalso; omega)) | ((with_reducible refine Ab.gd_dec (fun _ => ?_) (fun _ => ?_)) <;> try (exfalso; omega)) | ((with_reducible refine Ab.br_dec (fun _ => ?_) (fun _ => ?_)) <;> try (exfalso; omega)) | (with_reducible refine Ab.run_alt ?_ ?_) | (refine And.intro (by omega) ?_) | (refine gd_split (fun _ => ?_) (fun _ => ?_)) | (refine br_split (fun _ => ?_) (fun _ => ?_)) | omega)
  refine lw_loopS K71b0 (fun k : Nat => [(5, VS (mkB (List.replicate k c))), (6, VI k)]) (fun _ => h) (fun k => k ≤ n) (fun k => n - k) 0 (by omega) rfl (by (simp -implicitDefEqProofs only [Ab.R1, Ab.R2, Ab.R3, Ab.R4, Ab.R5, Ab.RH, Ab.RM, Ab.binV, Ab.binC, Nat.reduceLT, Nat.reduceBEq, Nat.reduceAdd, Nat.reduceMul, Nat.reduceEqDiff, Nat.reduceLeDiff, Nat.reduceSub, List.getElem?_cons_zero, List.getElem?_cons_succ, List.getElem?_nil, Option.getD_some, Option.getD_none, if_true, if_false, reduceIte, Option.map_some, Option.map_none, Option.bind_some, Option.bind_none, Option.isSome_some, List.map_cons, List.map_nil, AV.cells, List.length_cons, List.length_nil, List.all_cons, List.all_nil, AV.one, Value.oneCell', ne_eq, reduceCtorEq, Int.reduceNeg, Int.reduceEq, Int.reduceNe, Int.reduceAdd, Int.reduceSub, Int.reduceMul, Int.reduceLT, Int.reduceLE, Int.reduceToNat, List.drop_zero, List.take_zero, List.drop_succ_cons, List.take_succ_cons, List.nil_append, List.cons_append, List.append_nil, List.replicate_zero, List.flatten_nil, List.flatten_cons, List.reduceReplicate, ge_iff_le, gt_iff_lt, eq_self, Nat.add_assoc, facts, mkB_nil] <;> first | rfl | exact ⟨rfl, rfl⟩ | exact ⟨rfl, rfl, rfl⟩ | (simp; done))) (fun hc' _ _ => .same hc' (by simp [AV.ok])) ?_
  intro k hk _
  refine lw_run mixed ?_
  unfold L71b0 K71b0
  have hs : (mkB (List.replicate k c)).size = k := by rw [mkB_size, List.length_replicate]
  have h1 : (⟨#[c]⟩ : ByteArray).size = 1 := rfl
  rcases Nat.lt_or_ge k n with hlt | hge
  · have hsn : mkB (List.replicate k c) ++ ⟨#[c]⟩ = mkB (List.replicate (k + 1) c) := by rw [mkB_snoc, List.replicate_succ']
    repeat' (first | simp -implicitDefEqProofs only [Ab.R1, Ab.R2, Ab.R3, Ab.R4, Ab.R5, Ab.RH, Ab.RM, Ab.binV, Ab.binC, Nat.reduceLT, Nat.reduceBEq, Nat.reduceAdd, Nat.reduceMul, Nat.reduceEqDiff, Nat.reduceLeDiff, Nat.reduceSub, List.getElem?_cons_zero, List.getElem?_cons_succ, List.getElem?_nil, Option.getD_some, Option.getD_none, if_true, if_false, reduceIte, Option.map_some, Option.map_none, Option.bind_some, Option.bind_none, Option.isSome_some, List.map_cons, List.map_nil, AV.cells, List.length_cons, List.length_nil, List.all_cons, List.all_nil, AV.one, Value.oneCell', ne_eq, reduceCtorEq, Int.reduceNeg, Int.reduceEq, Int.reduceNe, Int.reduceAdd, Int.reduceSub, Int.reduceMul, Int.reduceLT, Int.reduceLE, Int.reduceToNat, List.drop_zero, List.take_zero, List.drop_succ_cons, List.take_succ_cons, List.nil_append, List.cons_append, List.append_nil, List.replicate_zero, List.flatten_nil, List.flatten_cons, List.reduceReplicate, ge_iff_le, gt_iff_lt, eq_self, Nat.add_assoc, facts, *] | simp (disch := omega) only [Ab.wrap_i64] | ((with_reducible refine Ab.gd_ndec (fun _ => ?_) (fun _ => ?_)) <;> try (exfalso; omega)) | ((with_reducible refine Ab.br_ndec (fun _ => ?_) (fun _ => ?_)) <;> try (exfalso; omega)) | ((with_reducible refine Ab.gd_dec (fun _ => ?_) (fun _ => ?_)) <;> try (exfalso; omega)) | ((with_reducible refine Ab.br_dec (fun _ => ?_) (fun _ => ?_)) <;> try (exfalso; omega)) | (with_reducible refine Ab.run_alt ?_ ?_) | (refine And.intro (by omega) ?_) | (refine gd_split (fun _ => ?_) (fun _ => ?_)) | (refine br_split (fun _ => ?_) (fun _ => ?_)) | omega)
    exact ⟨k + 1, [], by omega, by omega, by simp, by first | rfl | simp, by omega⟩
  · obtain rfl : k = n := by omega
    repeat' (first | simp -implicitDefEqProofs only [Ab.R1, Ab.R2, Ab.R3, Ab.R4, Ab.R5, Ab.RH, Ab.RM, Ab.binV, Ab.binC, Nat.reduceLT, Nat.reduceBEq, Nat.reduceAdd, Nat.reduceMul, Nat.reduceEqDiff, Nat.reduceLeDiff, Nat.reduceSub, List.getElem?_cons_zero, List.getElem?_cons_succ, List.getElem?_nil, Option.getD_some, Option.getD_none, if_true, if_false, reduceIte, Option.map_some, Option.map_none, Option.bind_some, Option.bind_none, Option.isSome_some, List.map_cons, List.map_nil, AV.cells, List.length_cons, List.length_nil, List.all_cons, List.all_nil, AV.one, Value.oneCell', ne_eq, reduceCtorEq, Int.reduceNeg, Int.reduceEq, Int.reduceNe, Int.reduceAdd, Int.reduceSub, Int.reduceMul, Int.reduceLT, Int.reduceLE, Int.reduceToNat, List.drop_zero, List.take_zero, List.drop_succ_cons, List.take_succ_cons, List.nil_append, List.cons_append, List.append_nil, List.replicate_zero, List.flatten_nil, List.flatten_cons, List.reduceReplicate, ge_iff_le, gt_iff_lt, eq_self, Nat.add_assoc, facts, *] | simp (disch := omega) only [Ab.wrap_i64] | ((with_reducible refine Ab.gd_ndec (fun _ => ?_) (fun _ => ?_)) <;> try (exfalso; omega)) | ((with_reducible refine Ab.br_ndec (fun _ => ?_) (fun _ => ?_)) <;> try (exfalso; omega)) | ((with_reducible refine Ab.gd_dec (fun _ => ?_) (fun _ => ?_)) <;> try (exfalso; omega)) | ((with_reducible refine Ab.br_dec (fun _ => ?_) (fun _ => ?_)) <;> try (exfalso; omega)) | (with_reducible refine Ab.run_alt ?_ ?_) | (refine And.intro (by omega) ?_) | (refine gd_split (fun _ => ?_) (fun _ => ?_)) | (refine br_split (fun _ => ?_) (fun _ => ?_)) | omega)

def exB (c : UInt8) (k : Nat) : List AV := if k = 0 then [] else [.raw (.int .u8 (oth c).toNat)]
theorem exB_len {c : UInt8} {k : Nat} (h : k ≤ 1) : (exB c k).length = k := by
  unfold exB; split
  · rename_i e; rw [e]; rfl
  · show 1 = k; omega
theorem exB_ok {c : UInt8} {k : Nat} (h : Heap) : okAll h (exB c k) = true := by unfold exB; split <;> rfl
theorem exch_ok (c : UInt8) (hcc : c = 100 ∨ c = 102) (h : Heap) : AC Try.prog 74 [VS ⟨#[c]⟩] h fun r h' => r = VS ⟨#[oth c]⟩ ∧ h' = h := by
  refine AC.plain ?_
  refine AC_go mixed ok74 (by simp) fun hc _ => ?_
  unfold L74
  have h1 : (⟨#[c]⟩ : ByteArray).size = 1 := rfl
  have hb : (⟨#[c]⟩ : ByteArray).data.toList.getD 0 0 = c := rfl
  repeat' (first | simp -implicitDefEqProofs only [Ab.R1, Ab.R2, Ab.R3, Ab.R4, Ab.R5, Ab.RH, Ab.RM, Ab.binV, Ab.binC, Nat.reduceLT, Nat.reduceBEq, Nat.reduceAdd, Nat.reduceMul, Nat.reduceEqDiff, Nat.reduceLeDiff, Nat.reduceSub, List.getElem?_cons_zero, List.getElem?_cons_succ, List.getElem?_nil, Option.getD_some, Option.getD_none, if_true, if_false, reduceIte, Option.map_some, Option.map_none, Option.bind_some, Option.bind_none, Option.isSome_some, List.map_cons, List.map_nil, AV.cells, List.length_cons, List.length_nil, List.all_cons, List.all_nil, AV.one, Value.oneCell', ne_eq, reduceCtorEq, Int.reduceNeg, Int.reduceEq, Int.reduceNe, Int.reduceAdd, Int.reduceSub, Int.reduceMul, Int.reduceLT, Int.reduceLE, Int.reduceToNat, List.drop_zero, List.take_zero, List.drop_succ_cons, List.take_succ_cons, List.nil_append, List.cons_append, List.append_nil, List.replicate_zero, List.flatten_nil, List.flatten_cons, List.reduceReplicate, ge_iff_le, gt_iff_lt, eq_self, Nat.add_assoc, facts, *] | simp (disch := omega) only [Ab.wrap_i64] | ((with_reducible refine Ab.gd_ndec (fun _ => ?_) (fun _ => ?_)) <;> try (exfalso; omega)) | ((with_reducible refine Ab.br_ndec (fun _ => ?_) (fun _ => ?_)) <;> try (exfalso; omega)) | ((with_reducible refine Ab.gd_dec (fun _ => ?_) (fun _ => ?_)) <;> try (exfalso; omega)) | ((with_reducible refine Ab.br_dec (fun _ => ?_) (fun _ => ?_)) <;> try (exfalso; omega)) | (with_reducible refine Ab.run_alt ?_ ?_) | (refine And.intro (by omega) ?_) | (refine gd_split (fun _ => ?_) (fun _ => ?_)) | (refine br_split (fun _ => ?_) (fun _ => ?_)) | omega)
  refine lw_loopS K74b0 (fun k : Nat => [(3, .own h.length 1 k), (8, VI k)]) (fun k => h ++ [⟨.row 5 1, exB c k⟩]) (fun k => k ≤ 1) (fun k => 1 - k) 0 (by omega) rfl (by (simp -implicitDefEqProofs only [Ab.R1, Ab.R2, Ab.R3, Ab.R4, Ab.R5, Ab.RH, Ab.RM, Ab.binV, Ab.binC, Nat.reduceLT, Nat.reduceBEq, Nat.reduceAdd, Nat.reduceMul, Nat.reduceEqDiff, Nat.reduceLeDiff, Nat.reduceSub, List.getElem?_cons_zero, List.getElem?_cons_succ, List.getElem?_nil, Option.getD_some, Option.getD_none, if_true, if_false, reduceIte, Option.map_some, Option.map_none, Option.bind_some, Option.bind_none, Option.isSome_some, List.map_cons, List.map_nil, AV.cells, List.length_cons, List.length_nil, List.all_cons, List.all_nil, AV.one, Value.oneCell', ne_eq, reduceCtorEq, Int.reduceNeg, Int.reduceEq, Int.reduceNe, Int.reduceAdd, Int.reduceSub, Int.reduceMul, Int.reduceLT, Int.reduceLE, Int.reduceToNat, List.drop_zero, List.take_zero, List.drop_succ_cons, List.take_succ_cons, List.nil_append, List.cons_append, List.append_nil, List.replicate_zero, List.flatten_nil, List.flatten_cons, List.reduceReplicate, ge_iff_le, gt_iff_lt, eq_self, Nat.add_assoc, facts] <;> first | rfl | exact ⟨rfl, rfl⟩ | exact ⟨rfl, rfl, rfl⟩ | (simp; done))) ?_ ?_
  · intro hc' k hk
    have q := exB_len (c := c) hk
    have q0 := exB_len (c := c) (k := 0) (by omega)
    exact .app hc (by simp only [Ab.leB_cons, Ab.leB_nil, Ab.ok_raw, Ab.ok_own, Ab.ok_ptr, Ab.ok_sub, Ab.okAll_nil, Ab.okAll_cons, Ab.refOk_app, Ab.refOk_app0, Ab.okB_zero, Ab.okB_succ, Ab.rowI_ok, Ab.rowB_ok, Ab.rowS_ok, Ab.rowU_ok, Ab.rowI_len, Ab.rowB_len, Ab.rowS_len, Ab.rowU_len, List.mem_cons, List.not_mem_nil, or_false, forall_eq, forall_eq_or_imp, List.forall_mem_cons, List.length_replicate, and_true, true_and, and_self, Nat.le_refl, Nat.zero_le, implies_true, List.length_set, List.length_append, List.length_cons, List.length_nil, List.length_map, Bool.and_true, Bool.true_and, Bool.and_self, decide_true, decide_eq_true_eq, exB_ok, q, q0, Nat.mul_one] <;> omega) (by simp only [Ab.leB_cons, Ab.leB_nil, Ab.ok_raw, Ab.ok_own, Ab.ok_ptr, Ab.ok_sub, Ab.okAll_nil, Ab.okAll_cons, Ab.refOk_app, Ab.refOk_app0, Ab.okB_zero, Ab.okB_succ, Ab.rowI_ok, Ab.rowB_ok, Ab.rowS_ok, Ab.rowU_ok, Ab.rowI_len, Ab.rowB_len, Ab.rowS_len, Ab.rowU_len, List.mem_cons, List.not_mem_nil, or_false, forall_eq, forall_eq_or_imp, List.forall_mem_cons, List.length_replicate, and_true, true_and, and_self, Nat.le_refl, Nat.zero_le, implies_true, List.length_set, List.length_append, List.length_cons, List.length_nil, List.length_map, Bool.and_true, Bool.true_and, Bool.and_self, decide_true, decide_eq_true_eq, exB_ok, q, q0, Nat.mul_one] <;> omega) (by simp only [Ab.leB_cons, Ab.leB_nil, Ab.ok_raw, Ab.ok_own, Ab.ok_ptr, Ab.ok_sub, Ab.okAll_nil, Ab.okAll_cons, Ab.refOk_app, Ab.refOk_app0, Ab.okB_zero, Ab.okB_succ, Ab.rowI_ok, Ab.rowB_ok, Ab.rowS_ok, Ab.rowU_ok, Ab.rowI_len, Ab.rowB_len, Ab.rowS_len, Ab.rowU_len, List.mem_cons, List.not_mem_nil, or_false, forall_eq, forall_eq_or_imp, List.forall_mem_cons, List.length_replicate, and_true, true_and, and_self, Nat.le_refl, Nat.zero_le, implies_true, List.length_set, List.length_append, List.length_cons, List.length_nil, List.length_map, Bool.and_true, Bool.true_and, Bool.and_self, decide_true, decide_eq_true_eq, exB_ok, q, q0, Nat.mul_one] <;> omega)
  · intro k hk _
    refine lw_run mixed ?_
    unfold L74b0 K74b0
    rcases Nat.lt_or_ge k 1 with hlt | hge
    · obtain rfl : k = 0 := by omega
      have hx0 : exB c 0 = [] := rfl
      rcases hcc with rfl | rfl
      · have ho : (oth 100).toNat = 102 := by decide
        have hn : (UInt8.toNat 100) = 100 := by decide
        repeat' (first | simp -implicitDefEqProofs only [Ab.R1, Ab.R2, Ab.R3, Ab.R4, Ab.R5, Ab.RH, Ab.RM, Ab.binV, Ab.binC, Nat.reduceLT, Nat.reduceBEq, Nat.reduceAdd, Nat.reduceMul, Nat.reduceEqDiff, Nat.reduceLeDiff, Nat.reduceSub, List.getElem?_cons_zero, List.getElem?_cons_succ, List.getElem?_nil, Option.getD_some, Option.getD_none, if_true, if_false, reduceIte, Option.map_some, Option.map_none, Option.bind_some, Option.bind_none, Option.isSome_some, List.map_cons, List.map_nil, AV.cells, List.length_cons, List.length_nil, List.all_cons, List.all_nil, AV.one, Value.oneCell', ne_eq, reduceCtorEq, Int.reduceNeg, Int.reduceEq, Int.reduceNe, Int.reduceAdd, Int.reduceSub, Int.reduceMul, Int.reduceLT, Int.reduceLE, Int.reduceToNat, List.drop_zero, List.take_zero, List.drop_succ_cons, List.take_succ_cons, List.nil_append, List.cons_append, List.append_nil, List.replicate_zero, List.flatten_nil, List.flatten_cons, List.reduceReplicate, ge_iff_le, gt_iff_lt, eq_self, Nat.add_assoc, facts, *] | simp (disch := omega) only [Ab.wrap_i64] | ((with_reducible refine Ab.gd_ndec (fun _ => ?_) (fun _ => ?_)) <;> try (exfalso; omega)) | ((with_reducible refine Ab.br_ndec (fun _ => ?_) (fun _ => ?_)) <;> try (exfalso; omega)) | ((with_reducible refine Ab.gd_dec (fun _ => ?_) (fun _ => ?_)) <;> try (exfalso; omega)) | ((with_reducible refine Ab.br_dec (fun _ => ?_) (fun _ => ?_)) <;> try (exfalso; omega)) | (with_reducible refine Ab.run_alt ?_ ?_) | (refine And.intro (by omega) ?_) | (refine gd_split (fun _ => ?_) (fun _ => ?_)) | (refine br_split (fun _ => ?_) (fun _ => ?_)) | omega)
        exact ⟨1, [⟨.row 5 1, [.raw (.int .u8 102)]⟩], by omega, by omega, by simp [exB, ho], by simp, by omega⟩
      · have ho : (oth 102).toNat = 100 := by decide
        have hn : (UInt8.toNat 102) = 102 := by decide
        repeat' (first | simp -implicitDefEqProofs only [Ab.R1, Ab.R2, Ab.R3, Ab.R4, Ab.R5, Ab.RH, Ab.RM, Ab.binV, Ab.binC, Nat.reduceLT, Nat.reduceBEq, Nat.reduceAdd, Nat.reduceMul, Nat.reduceEqDiff, Nat.reduceLeDiff, Nat.reduceSub, List.getElem?_cons_zero, List.getElem?_cons_succ, List.getElem?_nil, Option.getD_some, Option.getD_none, if_true, if_false, reduceIte, Option.map_some, Option.map_none, Option.bind_some, Option.bind_none, Option.isSome_some, List.map_cons, List.map_nil, AV.cells, List.length_cons, List.length_nil, List.all_cons, List.all_nil, AV.one, Value.oneCell', ne_eq, reduceCtorEq, Int.reduceNeg, Int.reduceEq, Int.reduceNe, Int.reduceAdd, Int.reduceSub, Int.reduceMul, Int.reduceLT, Int.reduceLE, Int.reduceToNat, List.drop_zero, List.take_zero, List.drop_succ_cons, List.take_succ_cons, List.nil_append, List.cons_append, List.append_nil, List.replicate_zero, List.flatten_nil, List.flatten_cons, List.reduceReplicate, ge_iff_le, gt_iff_lt, eq_self, Nat.add_assoc, facts, *] | simp (disch := omega) only [Ab.wrap_i64] | ((with_reducible refine Ab.gd_ndec (fun _ => ?_) (fun _ => ?_)) <;> try (exfalso; omega)) | ((with_reducible refine Ab.br_ndec (fun _ => ?_) (fun _ => ?_)) <;> try (exfalso; omega)) | ((with_reducible refine Ab.gd_dec (fun _ => ?_) (fun _ => ?_)) <;> try (exfalso; omega)) | ((with_reducible refine Ab.br_dec (fun _ => ?_) (fun _ => ?_)) <;> try (exfalso; omega)) | (with_reducible refine Ab.run_alt ?_ ?_) | (refine And.intro (by omega) ?_) | (refine gd_split (fun _ => ?_) (fun _ => ?_)) | (refine br_split (fun _ => ?_) (fun _ => ?_)) | omega)
        exact ⟨1, [⟨.row 5 1, [.raw (.int .u8 100)]⟩], by omega, by omega, by simp [exB, ho], by simp, by omega⟩
    · obtain rfl : k = 1 := by omega
      have hby : bytesA (exB c 1) = some [oth c] := by
        rcases hcc with rfl | rfl <;> decide
      have hel := exB_len (c := c) (k := 1) (by omega)
      repeat' (first | simp -implicitDefEqProofs only [Ab.R1, Ab.R2, Ab.R3, Ab.R4, Ab.R5, Ab.RH, Ab.RM, Ab.binV, Ab.binC, Nat.reduceLT, Nat.reduceBEq, Nat.reduceAdd, Nat.reduceMul, Nat.reduceEqDiff, Nat.reduceLeDiff, Nat.reduceSub, List.getElem?_cons_zero, List.getElem?_cons_succ, List.getElem?_nil, Option.getD_some, Option.getD_none, if_true, if_false, reduceIte, Option.map_some, Option.map_none, Option.bind_some, Option.bind_none, Option.isSome_some, List.map_cons, List.map_nil, AV.cells, List.length_cons, List.length_nil, List.all_cons, List.all_nil, AV.one, Value.oneCell', ne_eq, reduceCtorEq, Int.reduceNeg, Int.reduceEq, Int.reduceNe, Int.reduceAdd, Int.reduceSub, Int.reduceMul, Int.reduceLT, Int.reduceLE, Int.reduceToNat, List.drop_zero, List.take_zero, List.drop_succ_cons, List.take_succ_cons, List.nil_append, List.cons_append, List.append_nil, List.replicate_zero, List.flatten_nil, List.flatten_cons, List.reduceReplicate, ge_iff_le, gt_iff_lt, eq_self, Nat.add_assoc, facts, *, hby] | simp (disch := omega) only [Ab.wrap_i64] | ((with_reducible refine Ab.gd_ndec (fun _ => ?_) (fun _ => ?_)) <;> try (exfalso; omega)) | ((with_reducible refine Ab.br_ndec (fun _ => ?_) (fun _ => ?_)) <;> try (exfalso; omega)) | ((with_reducible refine Ab.gd_dec (fun _ => ?_) (fun _ => ?_)) <;> try (exfalso; omega)) | ((with_reducible refine Ab.br_dec (fun _ => ?_) (fun _ => ?_)) <;> try (exfalso; omega)) | (with_reducible refine Ab.run_alt ?_ ?_) | (refine And.intro (by omega) ?_) | (refine gd_split (fun _ => ?_) (fun _ => ?_)) | (refine br_split (fun _ => ?_) (fun _ => ?_)) | omega)
      all_goals first | exact ⟨_, rfl⟩ | exact ⟨rfl, _, rfl⟩

theorem bool_eq1 (b : Bool) : (true == b) = b := by cases b <;> rfl
theorem bool_eq0 (b : Bool) : (false == b) = !b := by cases b <;> rfl
theorem b100 : ((⟨#[100]⟩ : ByteArray).toList == (⟨#[100]⟩ : ByteArray).toList) = true := bEq_self _
theorem b102 : ((⟨#[102]⟩ : ByteArray).toList == (⟨#[102]⟩ : ByteArray).toList) = true := bEq_self _
theorem b21 : ((⟨#[102]⟩ : ByteArray).toList == (⟨#[100]⟩ : ByteArray).toList) = false := bEq_ne (by decide)
theorem b12 : ((⟨#[100]⟩ : ByteArray).toList == (⟨#[102]⟩ : ByteArray).toList) = false := bEq_ne (by decide)
/-- the letter, as the reference finds it -/
theorem ltr_even (c : UInt8) {k : Nat} (h : (k : Int).tmod 2 = 0) : ltr c k = c := by
  have : ((k : Int).tmod 2) = ((k % 2 : Nat) : Int) := (Int.ofNat_tmod _ _).symm
  exact if_pos (by omega)
theorem ltr_odd (c : UInt8) {k : Nat} (h : ¬ (k : Int).tmod 2 = 0) : ltr c k = oth c := by
  have : ((k : Int).tmod 2) = ((k % 2 : Nat) : Int) := (Int.ofNat_tmod _ _).symm
  exact if_neg (by omega)

theorem specFR_ok (c : UInt8) (hcc : c = 100 ∨ c = 102) (r : List Int) (id : Nat) (hr1 : r.length ≤ 1048576) (h : Heap) (hr : rd h id r.length = some (rowI r)) :
    AC Try.prog 47 [VS ⟨#[c]⟩, .own id 1 r.length] h fun v h' => v = VS (frB c r) ∧ h' = h := by
  refine AC_go mixed ok47 (by simp) fun hc _ => ?_
  unfold L47
  have hsz := sz_of hr
  have o1 : oth 100 = 102 := rfl
  have o2 : oth 102 = 100 := rfl
  have z0 : (⟨#[]⟩ : ByteArray) = mkB (bldG c r 0) := rfl
  rcases hcc with rfl | rfl
  all_goals
    repeat' (first | simp -implicitDefEqProofs only [Ab.R1, Ab.R2, Ab.R3, Ab.R4, Ab.R5, Ab.RH, Ab.RM, Ab.binV, Ab.binC, Nat.reduceLT, Nat.reduceBEq, Nat.reduceAdd, Nat.reduceMul, Nat.reduceEqDiff, Nat.reduceLeDiff, Nat.reduceSub, List.getElem?_cons_zero, List.getElem?_cons_succ, List.getElem?_nil, Option.getD_some, Option.getD_none, if_true, if_false, reduceIte, Option.map_some, Option.map_none, Option.bind_some, Option.bind_none, Option.isSome_some, List.map_cons, List.map_nil, AV.cells, List.length_cons, List.length_nil, List.all_cons, List.all_nil, AV.one, Value.oneCell', ne_eq, reduceCtorEq, Int.reduceNeg, Int.reduceEq, Int.reduceNe, Int.reduceAdd, Int.reduceSub, Int.reduceMul, Int.reduceLT, Int.reduceLE, Int.reduceToNat, List.drop_zero, List.take_zero, List.drop_succ_cons, List.take_succ_cons, List.nil_append, List.cons_append, List.append_nil, List.replicate_zero, List.flatten_nil, List.flatten_cons, List.reduceReplicate, ge_iff_le, gt_iff_lt, eq_self, Nat.add_assoc, facts, *, b100, b102, b12, b21] | simp (disch := omega) only [Ab.wrap_i64] | ((with_reducible refine Ab.gd_ndec (fun _ => ?_) (fun _ => ?_)) <;> try (exfalso; omega)) | ((with_reducible refine Ab.br_ndec (fun _ => ?_) (fun _ => ?_)) <;> try (exfalso; omega)) | ((with_reducible refine Ab.gd_dec (fun _ => ?_) (fun _ => ?_)) <;> try (exfalso; omega)) | ((with_reducible refine Ab.br_dec (fun _ => ?_) (fun _ => ?_)) <;> try (exfalso; omega)) | (with_reducible refine Ab.run_alt ?_ ?_) | (refine And.intro (by omega) ?_) | (refine gd_split (fun _ => ?_) (fun _ => ?_)) | (refine br_split (fun _ => ?_) (fun _ => ?_)) | omega)
    refine lw_loopS K47b0 (fun k : Nat => [(5, VS (mkB (bldG _ r k))), (6, VI k)]) (fun _ => h) (fun k => k ≤ r.length ∧ k ≤ 17 ∧ all8 (r.take k) = true) (fun k => r.length - k) 0 ⟨by omega, by omega, rfl⟩ rfl (by (simp -implicitDefEqProofs only [Ab.R1, Ab.R2, Ab.R3, Ab.R4, Ab.R5, Ab.RH, Ab.RM, Ab.binV, Ab.binC, Nat.reduceLT, Nat.reduceBEq, Nat.reduceAdd, Nat.reduceMul, Nat.reduceEqDiff, Nat.reduceLeDiff, Nat.reduceSub, List.getElem?_cons_zero, List.getElem?_cons_succ, List.getElem?_nil, Option.getD_some, Option.getD_none, if_true, if_false, reduceIte, Option.map_some, Option.map_none, Option.bind_some, Option.bind_none, Option.isSome_some, List.map_cons, List.map_nil, AV.cells, List.length_cons, List.length_nil, List.all_cons, List.all_nil, AV.one, Value.oneCell', ne_eq, reduceCtorEq, Int.reduceNeg, Int.reduceEq, Int.reduceNe, Int.reduceAdd, Int.reduceSub, Int.reduceMul, Int.reduceLT, Int.reduceLE, Int.reduceToNat, List.drop_zero, List.take_zero, List.drop_succ_cons, List.take_succ_cons, List.nil_append, List.cons_append, List.append_nil, List.replicate_zero, List.flatten_nil, List.flatten_cons, List.reduceReplicate, ge_iff_le, gt_iff_lt, eq_self, Nat.add_assoc, facts, z0] <;> first | rfl | exact ⟨rfl, rfl⟩ | exact ⟨rfl, rfl, rfl⟩ | (simp; done))) (fun hc' _ _ => .same hc' (by simp [AV.ok])) ?_
    intro k ⟨hk, hk17, ha⟩ _
    refine lw_run mixed ?_
    unfold L47b0 K47b0
    clear z0
    rcases Nat.lt_or_ge k r.length with hlt | hge
    · obtain ⟨x, hx⟩ := some_at hlt
      have hin := l01In_ok x 1 8
      cases h8 : in8 x with
      | false =>
        rw [show (decide (1 ≤ x) && decide (x ≤ 8)) = false from h8] at hin
        have hno := fun c => fr_bad (c := c) hx h8
        repeat' (first | simp -implicitDefEqProofs only [Ab.R1, Ab.R2, Ab.R3, Ab.R4, Ab.R5, Ab.RH, Ab.RM, Ab.binV, Ab.binC, Nat.reduceLT, Nat.reduceBEq, Nat.reduceAdd, Nat.reduceMul, Nat.reduceEqDiff, Nat.reduceLeDiff, Nat.reduceSub, List.getElem?_cons_zero, List.getElem?_cons_succ, List.getElem?_nil, Option.getD_some, Option.getD_none, if_true, if_false, reduceIte, Option.map_some, Option.map_none, Option.bind_some, Option.bind_none, Option.isSome_some, List.map_cons, List.map_nil, AV.cells, List.length_cons, List.length_nil, List.all_cons, List.all_nil, AV.one, Value.oneCell', ne_eq, reduceCtorEq, Int.reduceNeg, Int.reduceEq, Int.reduceNe, Int.reduceAdd, Int.reduceSub, Int.reduceMul, Int.reduceLT, Int.reduceLE, Int.reduceToNat, List.drop_zero, List.take_zero, List.drop_succ_cons, List.take_succ_cons, List.nil_append, List.cons_append, List.append_nil, List.replicate_zero, List.flatten_nil, List.flatten_cons, List.reduceReplicate, ge_iff_le, gt_iff_lt, eq_self, Nat.add_assoc, facts, *, rowI_at] | simp (disch := omega) only [Ab.wrap_i64] | ((with_reducible refine Ab.gd_ndec (fun _ => ?_) (fun _ => ?_)) <;> try (exfalso; omega)) | ((with_reducible refine Ab.br_ndec (fun _ => ?_) (fun _ => ?_)) <;> try (exfalso; omega)) | ((with_reducible refine Ab.gd_dec (fun _ => ?_) (fun _ => ?_)) <;> try (exfalso; omega)) | ((with_reducible refine Ab.br_dec (fun _ => ?_) (fun _ => ?_)) <;> try (exfalso; omega)) | (with_reducible refine Ab.run_alt ?_ ?_) | (refine And.intro (by omega) ?_) | (refine gd_split (fun _ => ?_) (fun _ => ?_)) | (refine br_split (fun _ => ?_) (fun _ => ?_)) | (refine cl_same (hin _) ?_) | omega)
      | true =>
        rw [show (decide (1 ≤ x) && decide (x ≤ 8)) = true from h8] at hin
        simp only [in8, Bool.and_eq_true, decide_eq_true_eq] at h8
        by_cases h16 : 16 < k
        · have hno := fun c => fr_many (c := c) (r := r) (by omega)
          repeat' (first | simp -implicitDefEqProofs only [Ab.R1, Ab.R2, Ab.R3, Ab.R4, Ab.R5, Ab.RH, Ab.RM, Ab.binV, Ab.binC, Nat.reduceLT, Nat.reduceBEq, Nat.reduceAdd, Nat.reduceMul, Nat.reduceEqDiff, Nat.reduceLeDiff, Nat.reduceSub, List.getElem?_cons_zero, List.getElem?_cons_succ, List.getElem?_nil, Option.getD_some, Option.getD_none, if_true, if_false, reduceIte, Option.map_some, Option.map_none, Option.bind_some, Option.bind_none, Option.isSome_some, List.map_cons, List.map_nil, AV.cells, List.length_cons, List.length_nil, List.all_cons, List.all_nil, AV.one, Value.oneCell', ne_eq, reduceCtorEq, Int.reduceNeg, Int.reduceEq, Int.reduceNe, Int.reduceAdd, Int.reduceSub, Int.reduceMul, Int.reduceLT, Int.reduceLE, Int.reduceToNat, List.drop_zero, List.take_zero, List.drop_succ_cons, List.take_succ_cons, List.nil_append, List.cons_append, List.append_nil, List.replicate_zero, List.flatten_nil, List.flatten_cons, List.reduceReplicate, ge_iff_le, gt_iff_lt, eq_self, Nat.add_assoc, facts, *, rowI_at] | simp (disch := omega) only [Ab.wrap_i64] | ((with_reducible refine Ab.gd_ndec (fun _ => ?_) (fun _ => ?_)) <;> try (exfalso; omega)) | ((with_reducible refine Ab.br_ndec (fun _ => ?_) (fun _ => ?_)) <;> try (exfalso; omega)) | ((with_reducible refine Ab.gd_dec (fun _ => ?_) (fun _ => ?_)) <;> try (exfalso; omega)) | ((with_reducible refine Ab.br_dec (fun _ => ?_) (fun _ => ?_)) <;> try (exfalso; omega)) | (with_reducible refine Ab.run_alt ?_ ?_) | (refine And.intro (by omega) ?_) | (refine gd_split (fun _ => ?_) (fun _ => ?_)) | (refine br_split (fun _ => ?_) (fun _ => ?_)) | (refine cl_same (hin _) ?_) | omega)
        · have hmo := all8_more hx ha (by simp [in8, h8])
          obtain ⟨n, rfl⟩ : ∃ n : Nat, x = n := ⟨x.toNat, by omega⟩
          have hbl := fun c => (bld_len (c := c) k hk ha).2
          have hbs := fun c => mkB_size (bldG c r k)
          have hs := fun c => bld_succ (c := c) hx
          have hrs := fun c => mkB_size (List.replicate n (ltr c k))
          simp only [Int.toNat_natCast] at hs hrs
          by_cases hp : (k : Int).tmod 2 = 0
          · have hl := fun c => ltr_even c hp
            simp only [hl] at hs
            have m1 := fun H => many_ok 100 n (by omega) H
            have m2 := fun H => many_ok 102 n (by omega) H
            have q1 := hbl 100
            have q2 := hbl 102
            have q3 : (mkB (List.replicate n 100)).size = n := by rw [mkB_size, List.length_replicate]
            have q4 : (mkB (List.replicate n 102)).size = n := by rw [mkB_size, List.length_replicate]
            repeat' (first | simp -implicitDefEqProofs only [Ab.R1, Ab.R2, Ab.R3, Ab.R4, Ab.R5, Ab.RH, Ab.RM, Ab.binV, Ab.binC, Nat.reduceLT, Nat.reduceBEq, Nat.reduceAdd, Nat.reduceMul, Nat.reduceEqDiff, Nat.reduceLeDiff, Nat.reduceSub, List.getElem?_cons_zero, List.getElem?_cons_succ, List.getElem?_nil, Option.getD_some, Option.getD_none, if_true, if_false, reduceIte, Option.map_some, Option.map_none, Option.bind_some, Option.bind_none, Option.isSome_some, List.map_cons, List.map_nil, AV.cells, List.length_cons, List.length_nil, List.all_cons, List.all_nil, AV.one, Value.oneCell', ne_eq, reduceCtorEq, Int.reduceNeg, Int.reduceEq, Int.reduceNe, Int.reduceAdd, Int.reduceSub, Int.reduceMul, Int.reduceLT, Int.reduceLE, Int.reduceToNat, List.drop_zero, List.take_zero, List.drop_succ_cons, List.take_succ_cons, List.nil_append, List.cons_append, List.append_nil, List.replicate_zero, List.flatten_nil, List.flatten_cons, List.reduceReplicate, ge_iff_le, gt_iff_lt, eq_self, Nat.add_assoc, facts, *, rowI_at, b100, b102, b12, b21, bool_eq1, bool_eq0, mkB_size] | simp (disch := omega) only [Ab.wrap_i64] | ((with_reducible refine Ab.gd_ndec (fun _ => ?_) (fun _ => ?_)) <;> try (exfalso; omega)) | ((with_reducible refine Ab.br_ndec (fun _ => ?_) (fun _ => ?_)) <;> try (exfalso; omega)) | ((with_reducible refine Ab.gd_dec (fun _ => ?_) (fun _ => ?_)) <;> try (exfalso; omega)) | ((with_reducible refine Ab.br_dec (fun _ => ?_) (fun _ => ?_)) <;> try (exfalso; omega)) | (with_reducible refine Ab.run_alt ?_ ?_) | (refine And.intro (by omega) ?_) | (refine gd_split (fun _ => ?_) (fun _ => ?_)) | (refine br_split (fun _ => ?_) (fun _ => ?_)) | (refine cl_same (hin _) ?_) | (refine cl_same (m1 _) ?_) | (refine cl_same (m2 _) ?_) | omega)
            all_goals exact ⟨k + 1, [], by omega, ⟨by omega, by omega, hmo⟩, by simp, by rw [hs], by omega⟩
          · have hl := fun c => ltr_odd c hp
            simp only [hl] at hs
            have hs1 := hs 100
            have hs2 := hs 102
            rw [o1] at hs1
            rw [o2] at hs2
            have m1 := fun H => many_ok 100 n (by omega) H
            have m2 := fun H => many_ok 102 n (by omega) H
            have q1 := hbl 100
            have q2 := hbl 102
            have q3 : (mkB (List.replicate n 100)).size = n := by rw [mkB_size, List.length_replicate]
            have q4 : (mkB (List.replicate n 102)).size = n := by rw [mkB_size, List.length_replicate]
            clear hs hl hrs
            repeat' (first | simp -implicitDefEqProofs only [Ab.R1, Ab.R2, Ab.R3, Ab.R4, Ab.R5, Ab.RH, Ab.RM, Ab.binV, Ab.binC, Nat.reduceLT, Nat.reduceBEq, Nat.reduceAdd, Nat.reduceMul, Nat.reduceEqDiff, Nat.reduceLeDiff, Nat.reduceSub, List.getElem?_cons_zero, List.getElem?_cons_succ, List.getElem?_nil, Option.getD_some, Option.getD_none, if_true, if_false, reduceIte, Option.map_some, Option.map_none, Option.bind_some, Option.bind_none, Option.isSome_some, List.map_cons, List.map_nil, AV.cells, List.length_cons, List.length_nil, List.all_cons, List.all_nil, AV.one, Value.oneCell', ne_eq, reduceCtorEq, Int.reduceNeg, Int.reduceEq, Int.reduceNe, Int.reduceAdd, Int.reduceSub, Int.reduceMul, Int.reduceLT, Int.reduceLE, Int.reduceToNat, List.drop_zero, List.take_zero, List.drop_succ_cons, List.take_succ_cons, List.nil_append, List.cons_append, List.append_nil, List.replicate_zero, List.flatten_nil, List.flatten_cons, List.reduceReplicate, ge_iff_le, gt_iff_lt, eq_self, Nat.add_assoc, facts, *, rowI_at, b100, b102, b12, b21, bool_eq1, bool_eq0, mkB_size] | simp (disch := omega) only [Ab.wrap_i64] | ((with_reducible refine Ab.gd_ndec (fun _ => ?_) (fun _ => ?_)) <;> try (exfalso; omega)) | ((with_reducible refine Ab.br_ndec (fun _ => ?_) (fun _ => ?_)) <;> try (exfalso; omega)) | ((with_reducible refine Ab.gd_dec (fun _ => ?_) (fun _ => ?_)) <;> try (exfalso; omega)) | ((with_reducible refine Ab.br_dec (fun _ => ?_) (fun _ => ?_)) <;> try (exfalso; omega)) | (with_reducible refine Ab.run_alt ?_ ?_) | (refine And.intro (by omega) ?_) | (refine gd_split (fun _ => ?_) (fun _ => ?_)) | (refine br_split (fun _ => ?_) (fun _ => ?_)) | (refine cl_same (hin _) ?_) | (refine cl_same (m1 _) ?_) | (refine cl_same (m2 _) ?_) | omega)
            all_goals exact ⟨k + 1, [], by omega, ⟨by omega, by omega, hmo⟩, by simp, by first | rw [hs1] | rw [hs2], by omega⟩
    · obtain rfl : k = r.length := by omega
      rw [List.take_length] at ha
      have hfr := fun c => fr_end (c := c) ha
      have hbl := fun c => (bld_len (c := c) r.length (Nat.le_refl _) (by rw [List.take_length]; exact ha)).2
      have q1 := hbl 100
      have q2 := hbl 102
      clear hbl
      repeat' (first | simp -implicitDefEqProofs only [Ab.R1, Ab.R2, Ab.R3, Ab.R4, Ab.R5, Ab.RH, Ab.RM, Ab.binV, Ab.binC, Nat.reduceLT, Nat.reduceBEq, Nat.reduceAdd, Nat.reduceMul, Nat.reduceEqDiff, Nat.reduceLeDiff, Nat.reduceSub, List.getElem?_cons_zero, List.getElem?_cons_succ, List.getElem?_nil, Option.getD_some, Option.getD_none, if_true, if_false, reduceIte, Option.map_some, Option.map_none, Option.bind_some, Option.bind_none, Option.isSome_some, List.map_cons, List.map_nil, AV.cells, List.length_cons, List.length_nil, List.all_cons, List.all_nil, AV.one, Value.oneCell', ne_eq, reduceCtorEq, Int.reduceNeg, Int.reduceEq, Int.reduceNe, Int.reduceAdd, Int.reduceSub, Int.reduceMul, Int.reduceLT, Int.reduceLE, Int.reduceToNat, List.drop_zero, List.take_zero, List.drop_succ_cons, List.take_succ_cons, List.nil_append, List.cons_append, List.append_nil, List.replicate_zero, List.flatten_nil, List.flatten_cons, List.reduceReplicate, ge_iff_le, gt_iff_lt, eq_self, Nat.add_assoc, facts, *] | simp (disch := omega) only [Ab.wrap_i64] | ((with_reducible refine Ab.gd_ndec (fun _ => ?_) (fun _ => ?_)) <;> try (exfalso; omega)) | ((with_reducible refine Ab.br_ndec (fun _ => ?_) (fun _ => ?_)) <;> try (exfalso; omega)) | ((with_reducible refine Ab.gd_dec (fun _ => ?_) (fun _ => ?_)) <;> try (exfalso; omega)) | ((with_reducible refine Ab.br_dec (fun _ => ?_) (fun _ => ?_)) <;> try (exfalso; omega)) | (with_reducible refine Ab.run_alt ?_ ?_) | (refine And.intro (by omega) ?_) | (refine gd_split (fun _ => ?_) (fun _ => ?_)) | (refine br_split (fun _ => ?_) (fun _ => ?_)) | (refine cl_same (specStrip_ok _ (by rw [mkB_size]; omega) _) ?_) | omega)
      all_goals (try rw [hfr])
      all_goals (split <;> first | rfl | (exfalso; simp_all; done) | simp_all)

theorem implFR_ok (c : UInt8) (hcc : c = 100 ∨ c = 102) (r : List Int) (id : Nat) (hr1 : r.length ≤ 1048576) (h : Heap) (hr : rd h id r.length = some (rowI r)) :
    AC Try.prog 48 [VS ⟨#[c]⟩, .own id 1 r.length] h fun v h' => v = VS (frB c r) ∧ h' = h := by
  refine AC_go mixed ok48 (by simp) fun hc _ => ?_
  unfold L48
  have hsz := sz_of hr
  have z0 : (⟨#[]⟩ : ByteArray) = mkB (bldG c r 0) := rfl
  rcases hcc with rfl | rfl
  · repeat' (first | simp -implicitDefEqProofs only [Ab.R1, Ab.R2, Ab.R3, Ab.R4, Ab.R5, Ab.RH, Ab.RM, Ab.binV, Ab.binC, Nat.reduceLT, Nat.reduceBEq, Nat.reduceAdd, Nat.reduceMul, Nat.reduceEqDiff, Nat.reduceLeDiff, Nat.reduceSub, List.getElem?_cons_zero, List.getElem?_cons_succ, List.getElem?_nil, Option.getD_some, Option.getD_none, if_true, if_false, reduceIte, Option.map_some, Option.map_none, Option.bind_some, Option.bind_none, Option.isSome_some, List.map_cons, List.map_nil, AV.cells, List.length_cons, List.length_nil, List.all_cons, List.all_nil, AV.one, Value.oneCell', ne_eq, reduceCtorEq, Int.reduceNeg, Int.reduceEq, Int.reduceNe, Int.reduceAdd, Int.reduceSub, Int.reduceMul, Int.reduceLT, Int.reduceLE, Int.reduceToNat, List.drop_zero, List.take_zero, List.drop_succ_cons, List.take_succ_cons, List.nil_append, List.cons_append, List.append_nil, List.replicate_zero, List.flatten_nil, List.flatten_cons, List.reduceReplicate, ge_iff_le, gt_iff_lt, eq_self, Nat.add_assoc, facts, *, b100, b102, b12, b21] | simp (disch := omega) only [Ab.wrap_i64] | ((with_reducible refine Ab.gd_ndec (fun _ => ?_) (fun _ => ?_)) <;> try (exfalso; omega)) | ((with_reducible refine Ab.br_ndec (fun _ => ?_) (fun _ => ?_)) <;> try (exfalso; omega)) | ((with_reducible refine Ab.gd_dec (fun _ => ?_) (fun _ => ?_)) <;> try (exfalso; omega)) | ((with_reducible refine Ab.br_dec (fun _ => ?_) (fun _ => ?_)) <;> try (exfalso; omega)) | (with_reducible refine Ab.run_alt ?_ ?_) | (refine And.intro (by omega) ?_) | (refine gd_split (fun _ => ?_) (fun _ => ?_)) | (refine br_split (fun _ => ?_) (fun _ => ?_)) | omega)
    have z1 : (⟨#[100]⟩ : ByteArray) = ⟨#[ltr 100 0]⟩ := rfl
    refine lw_loopS K48b0 (fun k : Nat => [(0, VS ⟨#[ltr 100 k]⟩), (5, VS (mkB (bldG 100 r k))), (16, VI k)]) (fun _ => h) (fun k => k ≤ r.length ∧ k ≤ 17 ∧ all8 (r.take k) = true) (fun k => r.length - k) 0 ⟨by omega, by omega, rfl⟩ rfl (by (simp -implicitDefEqProofs only [Ab.R1, Ab.R2, Ab.R3, Ab.R4, Ab.R5, Ab.RH, Ab.RM, Ab.binV, Ab.binC, Nat.reduceLT, Nat.reduceBEq, Nat.reduceAdd, Nat.reduceMul, Nat.reduceEqDiff, Nat.reduceLeDiff, Nat.reduceSub, List.getElem?_cons_zero, List.getElem?_cons_succ, List.getElem?_nil, Option.getD_some, Option.getD_none, if_true, if_false, reduceIte, Option.map_some, Option.map_none, Option.bind_some, Option.bind_none, Option.isSome_some, List.map_cons, List.map_nil, AV.cells, List.length_cons, List.length_nil, List.all_cons, List.all_nil, AV.one, Value.oneCell', ne_eq, reduceCtorEq, Int.reduceNeg, Int.reduceEq, Int.reduceNe, Int.reduceAdd, Int.reduceSub, Int.reduceMul, Int.reduceLT, Int.reduceLE, Int.reduceToNat, List.drop_zero, List.take_zero, List.drop_succ_cons, List.take_succ_cons, List.nil_append, List.cons_append, List.append_nil, List.replicate_zero, List.flatten_nil, List.flatten_cons, List.reduceReplicate, ge_iff_le, gt_iff_lt, eq_self, Nat.add_assoc, facts, z0, z1] <;> first | rfl | exact ⟨rfl, rfl⟩ | exact ⟨rfl, rfl, rfl⟩ | (simp; done))) (fun hc' _ _ => .same hc' (by simp [AV.ok])) ?_
    intro k ⟨hk, hk17, ha⟩ _
    refine lw_run mixed ?_
    unfold L48b0 K48b0
    clear z0 z1
    rcases Nat.lt_or_ge k r.length with hlt | hge
    · obtain ⟨x, hx⟩ := some_at hlt
      have hin := fun H => isSteps_ok x H
      cases h8 : in8 x with
      | false =>
        rw [h8] at hin
        have hno := fun c => fr_bad (c := c) hx h8
        repeat' (first | simp -implicitDefEqProofs only [Ab.R1, Ab.R2, Ab.R3, Ab.R4, Ab.R5, Ab.RH, Ab.RM, Ab.binV, Ab.binC, Nat.reduceLT, Nat.reduceBEq, Nat.reduceAdd, Nat.reduceMul, Nat.reduceEqDiff, Nat.reduceLeDiff, Nat.reduceSub, List.getElem?_cons_zero, List.getElem?_cons_succ, List.getElem?_nil, Option.getD_some, Option.getD_none, if_true, if_false, reduceIte, Option.map_some, Option.map_none, Option.bind_some, Option.bind_none, Option.isSome_some, List.map_cons, List.map_nil, AV.cells, List.length_cons, List.length_nil, List.all_cons, List.all_nil, AV.one, Value.oneCell', ne_eq, reduceCtorEq, Int.reduceNeg, Int.reduceEq, Int.reduceNe, Int.reduceAdd, Int.reduceSub, Int.reduceMul, Int.reduceLT, Int.reduceLE, Int.reduceToNat, List.drop_zero, List.take_zero, List.drop_succ_cons, List.take_succ_cons, List.nil_append, List.cons_append, List.append_nil, List.replicate_zero, List.flatten_nil, List.flatten_cons, List.reduceReplicate, ge_iff_le, gt_iff_lt, eq_self, Nat.add_assoc, facts, *, rowI_at] | simp (disch := omega) only [Ab.wrap_i64] | ((with_reducible refine Ab.gd_ndec (fun _ => ?_) (fun _ => ?_)) <;> try (exfalso; omega)) | ((with_reducible refine Ab.br_ndec (fun _ => ?_) (fun _ => ?_)) <;> try (exfalso; omega)) | ((with_reducible refine Ab.gd_dec (fun _ => ?_) (fun _ => ?_)) <;> try (exfalso; omega)) | ((with_reducible refine Ab.br_dec (fun _ => ?_) (fun _ => ?_)) <;> try (exfalso; omega)) | (with_reducible refine Ab.run_alt ?_ ?_) | (refine And.intro (by omega) ?_) | (refine gd_split (fun _ => ?_) (fun _ => ?_)) | (refine br_split (fun _ => ?_) (fun _ => ?_)) | (refine cl_same (hin _) ?_) | omega)
      | true =>
        rw [h8] at hin
        have h8' := h8
        simp only [in8, Bool.and_eq_true, decide_eq_true_eq] at h8'
        have hbl := fun c => bld_len (c := c) k hk ha
        have hbs := fun c => mkB_size (bldG c r k)
        obtain ⟨n, rfl⟩ : ∃ n : Nat, x = n := ⟨x.toNat, by omega⟩
        have hmo := all8_more hx ha h8
        have hlo := fun c (hl : 16 < (bldG c r k).length) => fr_long (c := c) (r := r) hk hl
        have hs := fun c => bld_succ (c := c) hx
        simp only [Int.toNat_natCast] at hs
        have a1 := ltr_next (c := 100) (.inl rfl) k
        have a2 := ltr_next (c := 102) (.inr rfl) k
        have l1 := ltr_or (c := 100) (.inl rfl) k
        have l2 := ltr_or (c := 102) (.inr rfl) k
        have q1 := hbl 100
        have q2 := hbl 102
        have q3 := fun d : UInt8 => mkB_size (List.replicate n d)
        simp only [List.length_replicate] at q3
        clear hbl
        repeat' (first | simp -implicitDefEqProofs only [Ab.R1, Ab.R2, Ab.R3, Ab.R4, Ab.R5, Ab.RH, Ab.RM, Ab.binV, Ab.binC, Nat.reduceLT, Nat.reduceBEq, Nat.reduceAdd, Nat.reduceMul, Nat.reduceEqDiff, Nat.reduceLeDiff, Nat.reduceSub, List.getElem?_cons_zero, List.getElem?_cons_succ, List.getElem?_nil, Option.getD_some, Option.getD_none, if_true, if_false, reduceIte, Option.map_some, Option.map_none, Option.bind_some, Option.bind_none, Option.isSome_some, List.map_cons, List.map_nil, AV.cells, List.length_cons, List.length_nil, List.all_cons, List.all_nil, AV.one, Value.oneCell', ne_eq, reduceCtorEq, Int.reduceNeg, Int.reduceEq, Int.reduceNe, Int.reduceAdd, Int.reduceSub, Int.reduceMul, Int.reduceLT, Int.reduceLE, Int.reduceToNat, List.drop_zero, List.take_zero, List.drop_succ_cons, List.take_succ_cons, List.nil_append, List.cons_append, List.append_nil, List.replicate_zero, List.flatten_nil, List.flatten_cons, List.reduceReplicate, ge_iff_le, gt_iff_lt, eq_self, Nat.add_assoc, facts, *, rowI_at, mkB_size, List.length_replicate] | simp (disch := omega) only [Ab.wrap_i64] | ((with_reducible refine Ab.gd_ndec (fun _ => ?_) (fun _ => ?_)) <;> try (exfalso; omega)) | ((with_reducible refine Ab.br_ndec (fun _ => ?_) (fun _ => ?_)) <;> try (exfalso; omega)) | ((with_reducible refine Ab.gd_dec (fun _ => ?_) (fun _ => ?_)) <;> try (exfalso; omega)) | ((with_reducible refine Ab.br_dec (fun _ => ?_) (fun _ => ?_)) <;> try (exfalso; omega)) | (with_reducible refine Ab.run_alt ?_ ?_) | (refine And.intro (by omega) ?_) | (refine gd_split (fun _ => ?_) (fun _ => ?_)) | (refine br_split (fun _ => ?_) (fun _ => ?_)) | (refine cl_same (hin _) ?_) | (refine cl_same (repeat_ok _ n (by omega) _) ?_) | (refine cl_same (exch_ok _ l1 _) ?_) | (refine cl_same (exch_ok _ l2 _) ?_) | omega)
        all_goals first | (rw [hlo]; omega) | exact ⟨k + 1, [], by omega, ⟨by omega, by omega, hmo⟩, by simp, by first | rfl | rw [a1] | rw [a2], by first | rfl | rw [hs], by omega⟩
    · obtain rfl : k = r.length := by omega
      rw [List.take_length] at ha
      have hfr := fun c => fr_end (c := c) ha
      have hbl := fun c => (bld_len (c := c) r.length (Nat.le_refl _) (by rw [List.take_length]; exact ha)).2
      have q1 := hbl 100
      have q2 := hbl 102
      clear hbl
      repeat' (first | simp -implicitDefEqProofs only [Ab.R1, Ab.R2, Ab.R3, Ab.R4, Ab.R5, Ab.RH, Ab.RM, Ab.binV, Ab.binC, Nat.reduceLT, Nat.reduceBEq, Nat.reduceAdd, Nat.reduceMul, Nat.reduceEqDiff, Nat.reduceLeDiff, Nat.reduceSub, List.getElem?_cons_zero, List.getElem?_cons_succ, List.getElem?_nil, Option.getD_some, Option.getD_none, if_true, if_false, reduceIte, Option.map_some, Option.map_none, Option.bind_some, Option.bind_none, Option.isSome_some, List.map_cons, List.map_nil, AV.cells, List.length_cons, List.length_nil, List.all_cons, List.all_nil, AV.one, Value.oneCell', ne_eq, reduceCtorEq, Int.reduceNeg, Int.reduceEq, Int.reduceNe, Int.reduceAdd, Int.reduceSub, Int.reduceMul, Int.reduceLT, Int.reduceLE, Int.reduceToNat, List.drop_zero, List.take_zero, List.drop_succ_cons, List.take_succ_cons, List.nil_append, List.cons_append, List.append_nil, List.replicate_zero, List.flatten_nil, List.flatten_cons, List.reduceReplicate, ge_iff_le, gt_iff_lt, eq_self, Nat.add_assoc, facts, *] | simp (disch := omega) only [Ab.wrap_i64] | ((with_reducible refine Ab.gd_ndec (fun _ => ?_) (fun _ => ?_)) <;> try (exfalso; omega)) | ((with_reducible refine Ab.br_ndec (fun _ => ?_) (fun _ => ?_)) <;> try (exfalso; omega)) | ((with_reducible refine Ab.gd_dec (fun _ => ?_) (fun _ => ?_)) <;> try (exfalso; omega)) | ((with_reducible refine Ab.br_dec (fun _ => ?_) (fun _ => ?_)) <;> try (exfalso; omega)) | (with_reducible refine Ab.run_alt ?_ ?_) | (refine And.intro (by omega) ?_) | (refine gd_split (fun _ => ?_) (fun _ => ?_)) | (refine br_split (fun _ => ?_) (fun _ => ?_)) | (refine cl_same (implStrip_ok _ (by rw [mkB_size]; omega) _) ?_) | omega)
      all_goals (try rw [hfr])
      all_goals (split <;> first | rfl | (exfalso; simp_all; done) | simp_all)
  · repeat' (first | simp -implicitDefEqProofs only [Ab.R1, Ab.R2, Ab.R3, Ab.R4, Ab.R5, Ab.RH, Ab.RM, Ab.binV, Ab.binC, Nat.reduceLT, Nat.reduceBEq, Nat.reduceAdd, Nat.reduceMul, Nat.reduceEqDiff, Nat.reduceLeDiff, Nat.reduceSub, List.getElem?_cons_zero, List.getElem?_cons_succ, List.getElem?_nil, Option.getD_some, Option.getD_none, if_true, if_false, reduceIte, Option.map_some, Option.map_none, Option.bind_some, Option.bind_none, Option.isSome_some, List.map_cons, List.map_nil, AV.cells, List.length_cons, List.length_nil, List.all_cons, List.all_nil, AV.one, Value.oneCell', ne_eq, reduceCtorEq, Int.reduceNeg, Int.reduceEq, Int.reduceNe, Int.reduceAdd, Int.reduceSub, Int.reduceMul, Int.reduceLT, Int.reduceLE, Int.reduceToNat, List.drop_zero, List.take_zero, List.drop_succ_cons, List.take_succ_cons, List.nil_append, List.cons_append, List.append_nil, List.replicate_zero, List.flatten_nil, List.flatten_cons, List.reduceReplicate, ge_iff_le, gt_iff_lt, eq_self, Nat.add_assoc, facts, *, b100, b102, b12, b21] | simp (disch := omega) only [Ab.wrap_i64] | ((with_reducible refine Ab.gd_ndec (fun _ => ?_) (fun _ => ?_)) <;> try (exfalso; omega)) | ((with_reducible refine Ab.br_ndec (fun _ => ?_) (fun _ => ?_)) <;> try (exfalso; omega)) | ((with_reducible refine Ab.gd_dec (fun _ => ?_) (fun _ => ?_)) <;> try (exfalso; omega)) | ((with_reducible refine Ab.br_dec (fun _ => ?_) (fun _ => ?_)) <;> try (exfalso; omega)) | (with_reducible refine Ab.run_alt ?_ ?_) | (refine And.intro (by omega) ?_) | (refine gd_split (fun _ => ?_) (fun _ => ?_)) | (refine br_split (fun _ => ?_) (fun _ => ?_)) | omega)
    have z1 : (⟨#[102]⟩ : ByteArray) = ⟨#[ltr 102 0]⟩ := rfl
    refine lw_loopS K48b0 (fun k : Nat => [(0, VS ⟨#[ltr 102 k]⟩), (5, VS (mkB (bldG 102 r k))), (16, VI k)]) (fun _ => h) (fun k => k ≤ r.length ∧ k ≤ 17 ∧ all8 (r.take k) = true) (fun k => r.length - k) 0 ⟨by omega, by omega, rfl⟩ rfl (by (simp -implicitDefEqProofs only [Ab.R1, Ab.R2, Ab.R3, Ab.R4, Ab.R5, Ab.RH, Ab.RM, Ab.binV, Ab.binC, Nat.reduceLT, Nat.reduceBEq, Nat.reduceAdd, Nat.reduceMul, Nat.reduceEqDiff, Nat.reduceLeDiff, Nat.reduceSub, List.getElem?_cons_zero, List.getElem?_cons_succ, List.getElem?_nil, Option.getD_some, Option.getD_none, if_true, if_false, reduceIte, Option.map_some, Option.map_none, Option.bind_some, Option.bind_none, Option.isSome_some, List.map_cons, List.map_nil, AV.cells, List.length_cons, List.length_nil, List.all_cons, List.all_nil, AV.one, Value.oneCell', ne_eq, reduceCtorEq, Int.reduceNeg, Int.reduceEq, Int.reduceNe, Int.reduceAdd, Int.reduceSub, Int.reduceMul, Int.reduceLT, Int.reduceLE, Int.reduceToNat, List.drop_zero, List.take_zero, List.drop_succ_cons, List.take_succ_cons, List.nil_append, List.cons_append, List.append_nil, List.replicate_zero, List.flatten_nil, List.flatten_cons, List.reduceReplicate, ge_iff_le, gt_iff_lt, eq_self, Nat.add_assoc, facts, z0, z1] <;> first | rfl | exact ⟨rfl, rfl⟩ | exact ⟨rfl, rfl, rfl⟩ | (simp; done))) (fun hc' _ _ => .same hc' (by simp [AV.ok])) ?_
    intro k ⟨hk, hk17, ha⟩ _
    refine lw_run mixed ?_
    unfold L48b0 K48b0
    clear z0 z1
    rcases Nat.lt_or_ge k r.length with hlt | hge
    · obtain ⟨x, hx⟩ := some_at hlt
      have hin := fun H => isSteps_ok x H
      cases h8 : in8 x with
      | false =>
        rw [h8] at hin
        have hno := fun c => fr_bad (c := c) hx h8
        repeat' (first | simp -implicitDefEqProofs only [Ab.R1, Ab.R2, Ab.R3, Ab.R4, Ab.R5, Ab.RH, Ab.RM, Ab.binV, Ab.binC, Nat.reduceLT, Nat.reduceBEq, Nat.reduceAdd, Nat.reduceMul, Nat.reduceEqDiff, Nat.reduceLeDiff, Nat.reduceSub, List.getElem?_cons_zero, List.getElem?_cons_succ, List.getElem?_nil, Option.getD_some, Option.getD_none, if_true, if_false, reduceIte, Option.map_some, Option.map_none, Option.bind_some, Option.bind_none, Option.isSome_some, List.map_cons, List.map_nil, AV.cells, List.length_cons, List.length_nil, List.all_cons, List.all_nil, AV.one, Value.oneCell', ne_eq, reduceCtorEq, Int.reduceNeg, Int.reduceEq, Int.reduceNe, Int.reduceAdd, Int.reduceSub, Int.reduceMul, Int.reduceLT, Int.reduceLE, Int.reduceToNat, List.drop_zero, List.take_zero, List.drop_succ_cons, List.take_succ_cons, List.nil_append, List.cons_append, List.append_nil, List.replicate_zero, List.flatten_nil, List.flatten_cons, List.reduceReplicate, ge_iff_le, gt_iff_lt, eq_self, Nat.add_assoc, facts, *, rowI_at] | simp (disch := omega) only [Ab.wrap_i64] | ((with_reducible refine Ab.gd_ndec (fun _ => ?_) (fun _ => ?_)) <;> try (exfalso; omega)) | ((with_reducible refine Ab.br_ndec (fun _ => ?_) (fun _ => ?_)) <;> try (exfalso; omega)) | ((with_reducible refine Ab.gd_dec (fun _ => ?_) (fun _ => ?_)) <;> try (exfalso; omega)) | ((with_reducible refine Ab.br_dec (fun _ => ?_) (fun _ => ?_)) <;> try (exfalso; omega)) | (with_reducible refine Ab.run_alt ?_ ?_) | (refine And.intro (by omega) ?_) | (refine gd_split (fun _ => ?_) (fun _ => ?_)) | (refine br_split (fun _ => ?_) (fun _ => ?_)) | (refine cl_same (hin _) ?_) | omega)
      | true =>
        rw [h8] at hin
        have h8' := h8
        simp only [in8, Bool.and_eq_true, decide_eq_true_eq] at h8'
        have hbl := fun c => bld_len (c := c) k hk ha
        have hbs := fun c => mkB_size (bldG c r k)
        obtain ⟨n, rfl⟩ : ∃ n : Nat, x = n := ⟨x.toNat, by omega⟩
        have hmo := all8_more hx ha h8
        have hlo := fun c (hl : 16 < (bldG c r k).length) => fr_long (c := c) (r := r) hk hl
        have hs := fun c => bld_succ (c := c) hx
        simp only [Int.toNat_natCast] at hs
        have a1 := ltr_next (c := 100) (.inl rfl) k
        have a2 := ltr_next (c := 102) (.inr rfl) k
        have l1 := ltr_or (c := 100) (.inl rfl) k
        have l2 := ltr_or (c := 102) (.inr rfl) k
        have q1 := hbl 100
        have q2 := hbl 102
        have q3 := fun d : UInt8 => mkB_size (List.replicate n d)
        simp only [List.length_replicate] at q3
        clear hbl
        repeat' (first | simp -implicitDefEqProofs only [Ab.R1, Ab.R2, Ab.R3, Ab.R4, Ab.R5, Ab.RH, Ab.RM, Ab.binV, Ab.binC, Nat.reduceLT, Nat.reduceBEq, Nat.reduceAdd, Nat.reduceMul, Nat.reduceEqDiff, Nat.reduceLeDiff, Nat.reduceSub, List.getElem?_cons_zero, List.getElem?_cons_succ, List.getElem?_nil, Option.getD_some, Option.getD_none, if_true, if_false, reduceIte, Option.map_some, Option.map_none, Option.bind_some, Option.bind_none, Option.isSome_some, List.map_cons, List.map_nil, AV.cells, List.length_cons, List.length_nil, List.all_cons, List.all_nil, AV.one, Value.oneCell', ne_eq, reduceCtorEq, Int.reduceNeg, Int.reduceEq, Int.reduceNe, Int.reduceAdd, Int.reduceSub, Int.reduceMul, Int.reduceLT, Int.reduceLE, Int.reduceToNat, List.drop_zero, List.take_zero, List.drop_succ_cons, List.take_succ_cons, List.nil_append, List.cons_append, List.append_nil, List.replicate_zero, List.flatten_nil, List.flatten_cons, List.reduceReplicate, ge_iff_le, gt_iff_lt, eq_self, Nat.add_assoc, facts, *, rowI_at, mkB_size, List.length_replicate] | simp (disch := omega) only [Ab.wrap_i64] | ((with_reducible refine Ab.gd_ndec (fun _ => ?_) (fun _ => ?_)) <;> try (exfalso; omega)) | ((with_reducible refine Ab.br_ndec (fun _ => ?_) (fun _ => ?_)) <;> try (exfalso; omega)) | ((with_reducible refine Ab.gd_dec (fun _ => ?_) (fun _ => ?_)) <;> try (exfalso; omega)) | ((with_reducible refine Ab.br_dec (fun _ => ?_) (fun _ => ?_)) <;> try (exfalso; omega)) | (with_reducible refine Ab.run_alt ?_ ?_) | (refine And.intro (by omega) ?_) | (refine gd_split (fun _ => ?_) (fun _ => ?_)) | (refine br_split (fun _ => ?_) (fun _ => ?_)) | (refine cl_same (hin _) ?_) | (refine cl_same (repeat_ok _ n (by omega) _) ?_) | (refine cl_same (exch_ok _ l1 _) ?_) | (refine cl_same (exch_ok _ l2 _) ?_) | omega)
        all_goals first | (rw [hlo]; omega) | exact ⟨k + 1, [], by omega, ⟨by omega, by omega, hmo⟩, by simp, by first | rfl | rw [a1] | rw [a2], by first | rfl | rw [hs], by omega⟩
    · obtain rfl : k = r.length := by omega
      rw [List.take_length] at ha
      have hfr := fun c => fr_end (c := c) ha
      have hbl := fun c => (bld_len (c := c) r.length (Nat.le_refl _) (by rw [List.take_length]; exact ha)).2
      have q1 := hbl 100
      have q2 := hbl 102
      clear hbl
      repeat' (first | simp -implicitDefEqProofs only [Ab.R1, Ab.R2, Ab.R3, Ab.R4, Ab.R5, Ab.RH, Ab.RM, Ab.binV, Ab.binC, Nat.reduceLT, Nat.reduceBEq, Nat.reduceAdd, Nat.reduceMul, Nat.reduceEqDiff, Nat.reduceLeDiff, Nat.reduceSub, List.getElem?_cons_zero, List.getElem?_cons_succ, List.getElem?_nil, Option.getD_some, Option.getD_none, if_true, if_false, reduceIte, Option.map_some, Option.map_none, Option.bind_some, Option.bind_none, Option.isSome_some, List.map_cons, List.map_nil, AV.cells, List.length_cons, List.length_nil, List.all_cons, List.all_nil, AV.one, Value.oneCell', ne_eq, reduceCtorEq, Int.reduceNeg, Int.reduceEq, Int.reduceNe, Int.reduceAdd, Int.reduceSub, Int.reduceMul, Int.reduceLT, Int.reduceLE, Int.reduceToNat, List.drop_zero, List.take_zero, List.drop_succ_cons, List.take_succ_cons, List.nil_append, List.cons_append, List.append_nil, List.replicate_zero, List.flatten_nil, List.flatten_cons, List.reduceReplicate, ge_iff_le, gt_iff_lt, eq_self, Nat.add_assoc, facts, *] | simp (disch := omega) only [Ab.wrap_i64] | ((with_reducible refine Ab.gd_ndec (fun _ => ?_) (fun _ => ?_)) <;> try (exfalso; omega)) | ((with_reducible refine Ab.br_ndec (fun _ => ?_) (fun _ => ?_)) <;> try (exfalso; omega)) | ((with_reducible refine Ab.gd_dec (fun _ => ?_) (fun _ => ?_)) <;> try (exfalso; omega)) | ((with_reducible refine Ab.br_dec (fun _ => ?_) (fun _ => ?_)) <;> try (exfalso; omega)) | (with_reducible refine Ab.run_alt ?_ ?_) | (refine And.intro (by omega) ?_) | (refine gd_split (fun _ => ?_) (fun _ => ?_)) | (refine br_split (fun _ => ?_) (fun _ => ?_)) | (refine cl_same (implStrip_ok _ (by rw [mkB_size]; omega) _) ?_) | omega)
      all_goals (try rw [hfr])
      all_goals (split <;> first | rfl | (exfalso; simp_all; done) | simp_all)

/-! ### short texts -/
def runT (b : ByteArray) : Nat → List Int
  | 0 => []
  | k + 1 => runT b k ++ [byI b (k + 1) - 48]
theorem runT_len (b : ByteArray) : ∀ k, (runT b k).length = k
  | 0 => rfl
  | k + 1 => by simp [runT, runT_len b k]
def readS (b : ByteArray) : ByteArray := if 2 ≤ b.size ∧ b.size ≤ 20 ∧ (byAt b 0 = 100 ∨ byAt b 0 = 102) then frB (byAt b 0) (runT b (b.size - 1)) else ⟨#[]⟩
theorem extract01 {b : ByteArray} (h : 0 < b.size) : b.extract 0 1 = ⟨#[byAt b 0]⟩ := by
  apply bsL_inj
  have : bsL (b.extract 0 1) = (bsL b).take 1 := by simp [bsL]
  rw [this]
  have hl : 0 < (bsL b).length := by rw [bsL_len]; exact h
  rw [take_succ_getD (bsL b) 0 hl]; rfl
theorem specFRx_ok (f : ByteArray) (hf : f ≠ ⟨#[100]⟩ ∧ f ≠ ⟨#[102]⟩) (n id : Nat) (h : Heap) : AC Try.prog 47 [VS f, .own id 1 n] h fun v h' => v = VS ⟨#[]⟩ ∧ h' = h := by
  refine AC_go mixed ok47 (by simp) fun hc _ => ?_
  unfold L47
  have e1 := bEq_ne hf.1
  have e2 := bEq_ne hf.2
  repeat' (first | simp -implicitDefEqProofs only [Ab.R1, Ab.R2, Ab.R3, Ab.R4, Ab.R5, Ab.RH, Ab.RM, Ab.binV, Ab.binC, Nat.reduceLT, Nat.reduceBEq, Nat.reduceAdd, Nat.reduceMul, Nat.reduceEqDiff, Nat.reduceLeDiff, Nat.reduceSub, List.getElem?_cons_zero, List.getElem?_cons_succ, List.getElem?_nil, Option.getD_some, Option.getD_none, if_true, if_false, reduceIte, Option.map_some, Option.map_none, Option.bind_some, Option.bind_none, Option.isSome_some, List.map_cons, List.map_nil, AV.cells, List.length_cons, List.length_nil, List.all_cons, List.all_nil, AV.one, Value.oneCell', ne_eq, reduceCtorEq, Int.reduceNeg, Int.reduceEq, Int.reduceNe, Int.reduceAdd, Int.reduceSub, Int.reduceMul, Int.reduceLT, Int.reduceLE, Int.reduceToNat, List.drop_zero, List.take_zero, List.drop_succ_cons, List.take_succ_cons, List.nil_append, List.cons_append, List.append_nil, List.replicate_zero, List.flatten_nil, List.flatten_cons, List.reduceReplicate, ge_iff_le, gt_iff_lt, eq_self, Nat.add_assoc, facts, *] | simp (disch := omega) only [Ab.wrap_i64] | ((with_reducible refine Ab.gd_ndec (fun _ => ?_) (fun _ => ?_)) <;> try (exfalso; omega)) | ((with_reducible refine Ab.br_ndec (fun _ => ?_) (fun _ => ?_)) <;> try (exfalso; omega)) | ((with_reducible refine Ab.gd_dec (fun _ => ?_) (fun _ => ?_)) <;> try (exfalso; omega)) | ((with_reducible refine Ab.br_dec (fun _ => ?_) (fun _ => ?_)) <;> try (exfalso; omega)) | (with_reducible refine Ab.run_alt ?_ ?_) | (refine And.intro (by omega) ?_) | (refine gd_split (fun _ => ?_) (fun _ => ?_)) | (refine br_split (fun _ => ?_) (fun _ => ?_)) | omega)
theorem implFRx_ok (f : ByteArray) (hf : f ≠ ⟨#[100]⟩ ∧ f ≠ ⟨#[102]⟩) (n id : Nat) (h : Heap) : AC Try.prog 48 [VS f, .own id 1 n] h fun v h' => v = VS ⟨#[]⟩ ∧ h' = h := by
  refine AC_go mixed ok48 (by simp) fun hc _ => ?_
  unfold L48
  have e1 := bEq_ne hf.1
  have e2 := bEq_ne hf.2
  repeat' (first | simp -implicitDefEqProofs only [Ab.R1, Ab.R2, Ab.R3, Ab.R4, Ab.R5, Ab.RH, Ab.RM, Ab.binV, Ab.binC, Nat.reduceLT, Nat.reduceBEq, Nat.reduceAdd, Nat.reduceMul, Nat.reduceEqDiff, Nat.reduceLeDiff, Nat.reduceSub, List.getElem?_cons_zero, List.getElem?_cons_succ, List.getElem?_nil, Option.getD_some, Option.getD_none, if_true, if_false, reduceIte, Option.map_some, Option.map_none, Option.bind_some, Option.bind_none, Option.isSome_some, List.map_cons, List.map_nil, AV.cells, List.length_cons, List.length_nil, List.all_cons, List.all_nil, AV.one, Value.oneCell', ne_eq, reduceCtorEq, Int.reduceNeg, Int.reduceEq, Int.reduceNe, Int.reduceAdd, Int.reduceSub, Int.reduceMul, Int.reduceLT, Int.reduceLE, Int.reduceToNat, List.drop_zero, List.take_zero, List.drop_succ_cons, List.take_succ_cons, List.nil_append, List.cons_append, List.append_nil, List.replicate_zero, List.flatten_nil, List.flatten_cons, List.reduceReplicate, ge_iff_le, gt_iff_lt, eq_self, Nat.add_assoc, facts, *] | simp (disch := omega) only [Ab.wrap_i64] | ((with_reducible refine Ab.gd_ndec (fun _ => ?_) (fun _ => ?_)) <;> try (exfalso; omega)) | ((with_reducible refine Ab.br_ndec (fun _ => ?_) (fun _ => ?_)) <;> try (exfalso; omega)) | ((with_reducible refine Ab.gd_dec (fun _ => ?_) (fun _ => ?_)) <;> try (exfalso; omega)) | ((with_reducible refine Ab.br_dec (fun _ => ?_) (fun _ => ?_)) <;> try (exfalso; omega)) | (with_reducible refine Ab.run_alt ?_ ?_) | (refine And.intro (by omega) ?_) | (refine gd_split (fun _ => ?_) (fun _ => ?_)) | (refine br_split (fun _ => ?_) (fun _ => ?_)) | omega)
abbrev rowR (b : ByteArray) (k : Nat) : Blk := ⟨.row 3 1, rowI (runT b k)⟩
theorem rowR_succ (b : ByteArray) (k : Nat) : rowR b (k + 1) = ⟨.row 3 1, rowI (runT b k) ++ [VI (byI b (k + 1) - 48)]⟩ := by rw [rowR, runT, ← rowI_snoc]
theorem readS_not {b : ByteArray} (h : ¬ (2 ≤ b.size ∧ b.size ≤ 20)) : readS b = ⟨#[]⟩ := if_neg fun e => h ⟨e.1, e.2.1⟩
/-- what FromRuns gives of a text's runs -/
theorem fr_text (f : FuncId) (hF : ∀ (c : UInt8), c = 100 ∨ c = 102 → ∀ (r : List Int) (id : Nat), r.length ≤ 1048576 → ∀ h : Heap, rd h id r.length = some (rowI r) → AC Try.prog f [VS ⟨#[c]⟩, .own id 1 r.length] h fun v h' => v = VS (frB c r) ∧ h' = h)
    (hX : ∀ (g : ByteArray), g ≠ ⟨#[100]⟩ ∧ g ≠ ⟨#[102]⟩ → ∀ (n id : Nat) (h : Heap), AC Try.prog f [VS g, .own id 1 n] h fun v h' => v = VS ⟨#[]⟩ ∧ h' = h)
    (b : ByteArray) (hb : 1 ≤ b.size) (hb2 : b.size ≤ 1048576) (id : Nat) (h : Heap) (hr : rd h id (b.size - 1) = some (rowI (runT b (b.size - 1)))) :
    AC Try.prog f [VS ⟨#[byAt b 0]⟩, .own id 1 (b.size - 1)] h fun v h' => v = VS (readS b) ∧ h' = h := by
  by_cases hc : byAt b 0 = 100 ∨ byAt b 0 = 102
  · have hl := runT_len b (b.size - 1)
    have := hF (byAt b 0) hc (runT b (b.size - 1)) id (by omega) h (by rw [hl]; exact hr)
    rw [hl] at this
    have he : frB (byAt b 0) (runT b (b.size - 1)) = readS b := by
      by_cases h2 : 2 ≤ b.size ∧ b.size ≤ 20
      · rw [readS, if_pos ⟨h2.1, h2.2, hc⟩]
      · rw [readS_not h2]
        by_cases h3 : 16 < b.size - 1
        · exact fr_many (by omega)
        · have : b.size - 1 = 0 := by omega
          rw [this]
          refine if_neg fun e => ?_
          simp only [Bool.and_eq_true] at e
          have h1 := (strip_iff.1 e.2).size
          rw [mkB_size] at h1
          have : (bldG (byAt b 0) (runT b 0) (runT b 0).length).length = 0 := rfl
          omega
    rw [he] at this
    exact this
  · have he : readS b = ⟨#[]⟩ := if_neg fun e => hc e.2.2
    rw [he]
    refine hX _ ⟨fun e => hc (.inl ?_), fun e => hc (.inr ?_)⟩ _ _ _
    · have := congrArg (fun x => byAt x 0) e; exact this
    · have := congrArg (fun x => byAt x 0) e; exact this

theorem specRead_ok (b : ByteArray) (hb : b.size ≤ 1048576) (h : Heap) : AC Try.prog 28 [VS b] h fun v h' => v = VS (readS b) ∧ h' = h := by
  refine AC.plain ?_
  refine AC_go mixed ok28 (by simp) fun hc _ => ?_
  unfold L28
  by_cases h1 : b.size < 2
  · have hN := readS_not (b := b) (by omega)
    repeat' (first | simp -implicitDefEqProofs only [Ab.R1, Ab.R2, Ab.R3, Ab.R4, Ab.R5, Ab.RH, Ab.RM, Ab.binV, Ab.binC, Nat.reduceLT, Nat.reduceBEq, Nat.reduceAdd, Nat.reduceMul, Nat.reduceEqDiff, Nat.reduceLeDiff, Nat.reduceSub, List.getElem?_cons_zero, List.getElem?_cons_succ, List.getElem?_nil, Option.getD_some, Option.getD_none, if_true, if_false, reduceIte, Option.map_some, Option.map_none, Option.bind_some, Option.bind_none, Option.isSome_some, List.map_cons, List.map_nil, AV.cells, List.length_cons, List.length_nil, List.all_cons, List.all_nil, AV.one, Value.oneCell', ne_eq, reduceCtorEq, Int.reduceNeg, Int.reduceEq, Int.reduceNe, Int.reduceAdd, Int.reduceSub, Int.reduceMul, Int.reduceLT, Int.reduceLE, Int.reduceToNat, List.drop_zero, List.take_zero, List.drop_succ_cons, List.take_succ_cons, List.nil_append, List.cons_append, List.append_nil, List.replicate_zero, List.flatten_nil, List.flatten_cons, List.reduceReplicate, ge_iff_le, gt_iff_lt, eq_self, Nat.add_assoc, facts, *] | simp (disch := omega) only [Ab.wrap_i64] | ((with_reducible refine Ab.gd_ndec (fun _ => ?_) (fun _ => ?_)) <;> try (exfalso; omega)) | ((with_reducible refine Ab.br_ndec (fun _ => ?_) (fun _ => ?_)) <;> try (exfalso; omega)) | ((with_reducible refine Ab.gd_dec (fun _ => ?_) (fun _ => ?_)) <;> try (exfalso; omega)) | ((with_reducible refine Ab.br_dec (fun _ => ?_) (fun _ => ?_)) <;> try (exfalso; omega)) | (with_reducible refine Ab.run_alt ?_ ?_) | (refine And.intro (by omega) ?_) | (refine gd_split (fun _ => ?_) (fun _ => ?_)) | (refine br_split (fun _ => ?_) (fun _ => ?_)) | omega)
    all_goals exact ⟨_, (List.append_nil _).symm⟩
  · by_cases h2 : 20 < b.size
    · have hN := readS_not (b := b) (by omega)
      repeat' (first | simp -implicitDefEqProofs only [Ab.R1, Ab.R2, Ab.R3, Ab.R4, Ab.R5, Ab.RH, Ab.RM, Ab.binV, Ab.binC, Nat.reduceLT, Nat.reduceBEq, Nat.reduceAdd, Nat.reduceMul, Nat.reduceEqDiff, Nat.reduceLeDiff, Nat.reduceSub, List.getElem?_cons_zero, List.getElem?_cons_succ, List.getElem?_nil, Option.getD_some, Option.getD_none, if_true, if_false, reduceIte, Option.map_some, Option.map_none, Option.bind_some, Option.bind_none, Option.isSome_some, List.map_cons, List.map_nil, AV.cells, List.length_cons, List.length_nil, List.all_cons, List.all_nil, AV.one, Value.oneCell', ne_eq, reduceCtorEq, Int.reduceNeg, Int.reduceEq, Int.reduceNe, Int.reduceAdd, Int.reduceSub, Int.reduceMul, Int.reduceLT, Int.reduceLE, Int.reduceToNat, List.drop_zero, List.take_zero, List.drop_succ_cons, List.take_succ_cons, List.nil_append, List.cons_append, List.append_nil, List.replicate_zero, List.flatten_nil, List.flatten_cons, List.reduceReplicate, ge_iff_le, gt_iff_lt, eq_self, Nat.add_assoc, facts, *] | simp (disch := omega) only [Ab.wrap_i64] | ((with_reducible refine Ab.gd_ndec (fun _ => ?_) (fun _ => ?_)) <;> try (exfalso; omega)) | ((with_reducible refine Ab.br_ndec (fun _ => ?_) (fun _ => ?_)) <;> try (exfalso; omega)) | ((with_reducible refine Ab.gd_dec (fun _ => ?_) (fun _ => ?_)) <;> try (exfalso; omega)) | ((with_reducible refine Ab.br_dec (fun _ => ?_) (fun _ => ?_)) <;> try (exfalso; omega)) | (with_reducible refine Ab.run_alt ?_ ?_) | (refine And.intro (by omega) ?_) | (refine gd_split (fun _ => ?_) (fun _ => ?_)) | (refine br_split (fun _ => ?_) (fun _ => ?_)) | omega)
      all_goals exact ⟨_, (List.append_nil _).symm⟩
    · have hx := extract01 (b := b) (by omega)
      have hfr := fr_text 47 specFR_ok specFRx_ok b (by omega) hb
      have hz : (runT b 0).length = 0 := rfl
      repeat' (first | simp -implicitDefEqProofs only [Ab.R1, Ab.R2, Ab.R3, Ab.R4, Ab.R5, Ab.RH, Ab.RM, Ab.binV, Ab.binC, Nat.reduceLT, Nat.reduceBEq, Nat.reduceAdd, Nat.reduceMul, Nat.reduceEqDiff, Nat.reduceLeDiff, Nat.reduceSub, List.getElem?_cons_zero, List.getElem?_cons_succ, List.getElem?_nil, Option.getD_some, Option.getD_none, if_true, if_false, reduceIte, Option.map_some, Option.map_none, Option.bind_some, Option.bind_none, Option.isSome_some, List.map_cons, List.map_nil, AV.cells, List.length_cons, List.length_nil, List.all_cons, List.all_nil, AV.one, Value.oneCell', ne_eq, reduceCtorEq, Int.reduceNeg, Int.reduceEq, Int.reduceNe, Int.reduceAdd, Int.reduceSub, Int.reduceMul, Int.reduceLT, Int.reduceLE, Int.reduceToNat, List.drop_zero, List.take_zero, List.drop_succ_cons, List.take_succ_cons, List.nil_append, List.cons_append, List.append_nil, List.replicate_zero, List.flatten_nil, List.flatten_cons, List.reduceReplicate, ge_iff_le, gt_iff_lt, eq_self, Nat.add_assoc, facts, *] | simp (disch := omega) only [Ab.wrap_i64] | ((with_reducible refine Ab.gd_ndec (fun _ => ?_) (fun _ => ?_)) <;> try (exfalso; omega)) | ((with_reducible refine Ab.br_ndec (fun _ => ?_) (fun _ => ?_)) <;> try (exfalso; omega)) | ((with_reducible refine Ab.gd_dec (fun _ => ?_) (fun _ => ?_)) <;> try (exfalso; omega)) | ((with_reducible refine Ab.br_dec (fun _ => ?_) (fun _ => ?_)) <;> try (exfalso; omega)) | (with_reducible refine Ab.run_alt ?_ ?_) | (refine And.intro (by omega) ?_) | (refine gd_split (fun _ => ?_) (fun _ => ?_)) | (refine br_split (fun _ => ?_) (fun _ => ?_)) | omega)
      refine lw_loopS K28b0 (fun k : Nat => [(3, .own h.length 1 k), (4, VI ((k + 1 : Nat) : Int))]) (fun k => h ++ [rowR b k]) (fun k => k + 1 ≤ b.size) (fun k => b.size - k) 0 (by omega) rfl (by (simp -implicitDefEqProofs only [Ab.R1, Ab.R2, Ab.R3, Ab.R4, Ab.R5, Ab.RH, Ab.RM, Ab.binV, Ab.binC, Nat.reduceLT, Nat.reduceBEq, Nat.reduceAdd, Nat.reduceMul, Nat.reduceEqDiff, Nat.reduceLeDiff, Nat.reduceSub, List.getElem?_cons_zero, List.getElem?_cons_succ, List.getElem?_nil, Option.getD_some, Option.getD_none, if_true, if_false, reduceIte, Option.map_some, Option.map_none, Option.bind_some, Option.bind_none, Option.isSome_some, List.map_cons, List.map_nil, AV.cells, List.length_cons, List.length_nil, List.all_cons, List.all_nil, AV.one, Value.oneCell', ne_eq, reduceCtorEq, Int.reduceNeg, Int.reduceEq, Int.reduceNe, Int.reduceAdd, Int.reduceSub, Int.reduceMul, Int.reduceLT, Int.reduceLE, Int.reduceToNat, List.drop_zero, List.take_zero, List.drop_succ_cons, List.take_succ_cons, List.nil_append, List.cons_append, List.append_nil, List.replicate_zero, List.flatten_nil, List.flatten_cons, List.reduceReplicate, ge_iff_le, gt_iff_lt, eq_self, Nat.add_assoc, facts] <;> first | rfl | exact ⟨rfl, rfl⟩ | exact ⟨rfl, rfl, rfl⟩ | (simp; done))) ?_ ?_
      · intro hc' k hk
        have q := runT_len b k
        have q0 := runT_len b 0
        exact .app hc (by simp only [Ab.leB_cons, Ab.leB_nil, Ab.ok_raw, Ab.ok_own, Ab.ok_ptr, Ab.ok_sub, Ab.okAll_nil, Ab.okAll_cons, Ab.refOk_app, Ab.refOk_app0, Ab.okB_zero, Ab.okB_succ, Ab.rowI_ok, Ab.rowB_ok, Ab.rowS_ok, Ab.rowU_ok, Ab.rowI_len, Ab.rowB_len, Ab.rowS_len, Ab.rowU_len, List.mem_cons, List.not_mem_nil, or_false, forall_eq, forall_eq_or_imp, List.forall_mem_cons, List.length_replicate, and_true, true_and, and_self, Nat.le_refl, Nat.zero_le, implies_true, List.length_set, List.length_append, List.length_cons, List.length_nil, List.length_map, Bool.and_true, Bool.true_and, Bool.and_self, decide_true, decide_eq_true_eq, q, q0, Nat.mul_one] <;> omega) (by simp only [Ab.leB_cons, Ab.leB_nil, Ab.ok_raw, Ab.ok_own, Ab.ok_ptr, Ab.ok_sub, Ab.okAll_nil, Ab.okAll_cons, Ab.refOk_app, Ab.refOk_app0, Ab.okB_zero, Ab.okB_succ, Ab.rowI_ok, Ab.rowB_ok, Ab.rowS_ok, Ab.rowU_ok, Ab.rowI_len, Ab.rowB_len, Ab.rowS_len, Ab.rowU_len, List.mem_cons, List.not_mem_nil, or_false, forall_eq, forall_eq_or_imp, List.forall_mem_cons, List.length_replicate, and_true, true_and, and_self, Nat.le_refl, Nat.zero_le, implies_true, List.length_set, List.length_append, List.length_cons, List.length_nil, List.length_map, Bool.and_true, Bool.true_and, Bool.and_self, decide_true, decide_eq_true_eq, q, q0, Nat.mul_one] <;> omega) (by simp only [Ab.leB_cons, Ab.leB_nil, Ab.ok_raw, Ab.ok_own, Ab.ok_ptr, Ab.ok_sub, Ab.okAll_nil, Ab.okAll_cons, Ab.refOk_app, Ab.refOk_app0, Ab.okB_zero, Ab.okB_succ, Ab.rowI_ok, Ab.rowB_ok, Ab.rowS_ok, Ab.rowU_ok, Ab.rowI_len, Ab.rowB_len, Ab.rowS_len, Ab.rowU_len, List.mem_cons, List.not_mem_nil, or_false, forall_eq, forall_eq_or_imp, List.forall_mem_cons, List.length_replicate, and_true, true_and, and_self, Nat.le_refl, Nat.zero_le, implies_true, List.length_set, List.length_append, List.length_cons, List.length_nil, List.length_map, Bool.and_true, Bool.true_and, Bool.and_self, decide_true, decide_eq_true_eq, q, q0, Nat.mul_one] <;> omega)
      intro k hk _
      refine lw_run mixed ?_
      unfold L28b0 K28b0
      have q := runT_len b k
      have q2 := rowI_len (runT b k)
      rcases Nat.lt_or_ge (k + 1) b.size with hlt | hge
      · have hu := (byAt b (k + 1)).toNat_lt
        have hbb : ((byAt b (k + 1)).toNat : Int) = byI b (k + 1) := rfl
        have hs := rowR_succ b k
        repeat' (first | simp -implicitDefEqProofs only [Ab.R1, Ab.R2, Ab.R3, Ab.R4, Ab.R5, Ab.RH, Ab.RM, Ab.binV, Ab.binC, Nat.reduceLT, Nat.reduceBEq, Nat.reduceAdd, Nat.reduceMul, Nat.reduceEqDiff, Nat.reduceLeDiff, Nat.reduceSub, List.getElem?_cons_zero, List.getElem?_cons_succ, List.getElem?_nil, Option.getD_some, Option.getD_none, if_true, if_false, reduceIte, Option.map_some, Option.map_none, Option.bind_some, Option.bind_none, Option.isSome_some, List.map_cons, List.map_nil, AV.cells, List.length_cons, List.length_nil, List.all_cons, List.all_nil, AV.one, Value.oneCell', ne_eq, reduceCtorEq, Int.reduceNeg, Int.reduceEq, Int.reduceNe, Int.reduceAdd, Int.reduceSub, Int.reduceMul, Int.reduceLT, Int.reduceLE, Int.reduceToNat, List.drop_zero, List.take_zero, List.drop_succ_cons, List.take_succ_cons, List.nil_append, List.cons_append, List.append_nil, List.replicate_zero, List.flatten_nil, List.flatten_cons, List.reduceReplicate, ge_iff_le, gt_iff_lt, eq_self, Nat.add_assoc, facts, *] | simp (disch := omega) only [Ab.wrap_i64] | ((with_reducible refine Ab.gd_ndec (fun _ => ?_) (fun _ => ?_)) <;> try (exfalso; omega)) | ((with_reducible refine Ab.br_ndec (fun _ => ?_) (fun _ => ?_)) <;> try (exfalso; omega)) | ((with_reducible refine Ab.gd_dec (fun _ => ?_) (fun _ => ?_)) <;> try (exfalso; omega)) | ((with_reducible refine Ab.br_dec (fun _ => ?_) (fun _ => ?_)) <;> try (exfalso; omega)) | (with_reducible refine Ab.run_alt ?_ ?_) | (refine And.intro (by omega) ?_) | (refine gd_split (fun _ => ?_) (fun _ => ?_)) | (refine br_split (fun _ => ?_) (fun _ => ?_)) | omega)
        exact ⟨k + 1, [⟨.row 3 1, [VI (byI b (k + 1) - 48)]⟩], by omega, by omega, by rw [hs]; try simp, by first | rfl | simp, by omega⟩
      · obtain rfl : k = b.size - 1 := by omega
        repeat' (first | simp -implicitDefEqProofs only [Ab.R1, Ab.R2, Ab.R3, Ab.R4, Ab.R5, Ab.RH, Ab.RM, Ab.binV, Ab.binC, Nat.reduceLT, Nat.reduceBEq, Nat.reduceAdd, Nat.reduceMul, Nat.reduceEqDiff, Nat.reduceLeDiff, Nat.reduceSub, List.getElem?_cons_zero, List.getElem?_cons_succ, List.getElem?_nil, Option.getD_some, Option.getD_none, if_true, if_false, reduceIte, Option.map_some, Option.map_none, Option.bind_some, Option.bind_none, Option.isSome_some, List.map_cons, List.map_nil, AV.cells, List.length_cons, List.length_nil, List.all_cons, List.all_nil, AV.one, Value.oneCell', ne_eq, reduceCtorEq, Int.reduceNeg, Int.reduceEq, Int.reduceNe, Int.reduceAdd, Int.reduceSub, Int.reduceMul, Int.reduceLT, Int.reduceLE, Int.reduceToNat, List.drop_zero, List.take_zero, List.drop_succ_cons, List.take_succ_cons, List.nil_append, List.cons_append, List.append_nil, List.replicate_zero, List.flatten_nil, List.flatten_cons, List.reduceReplicate, ge_iff_le, gt_iff_lt, eq_self, Nat.add_assoc, facts, *] | simp (disch := omega) only [Ab.wrap_i64] | ((with_reducible refine Ab.gd_ndec (fun _ => ?_) (fun _ => ?_)) <;> try (exfalso; omega)) | ((with_reducible refine Ab.br_ndec (fun _ => ?_) (fun _ => ?_)) <;> try (exfalso; omega)) | ((with_reducible refine Ab.gd_dec (fun _ => ?_) (fun _ => ?_)) <;> try (exfalso; omega)) | ((with_reducible refine Ab.br_dec (fun _ => ?_) (fun _ => ?_)) <;> try (exfalso; omega)) | (with_reducible refine Ab.run_alt ?_ ?_) | (refine And.intro (by omega) ?_) | (refine gd_split (fun _ => ?_) (fun _ => ?_)) | (refine br_split (fun _ => ?_) (fun _ => ?_)) | (refine cl_same (hfr _ _ (by simp -implicitDefEqProofs only [Ab.app_assoc, Ab.len_app, Ab.sz_newk, Ab.sz_new0, Ab.rd_newk, Ab.rd_new0, Ab.wr_newk, Ab.wr_new0, Ab.set_newk, Ab.set_new0, Ab.sz_cons, Ab.sz_row0, Ab.sz_ro0, Ab.rd_cons, Ab.rd_row, Ab.rd_ro0, Ab.wr_cons, Ab.wr_row, Ab.set_cons_zero, Ab.set_cons_succ, Ab.rowI_len, Ab.rowB_len, Ab.rowS_len, Ab.rowU_len, Nat.add_assoc, List.cons_append, List.nil_append, List.append_nil, List.length_cons, List.length_nil, Nat.reduceAdd, Nat.reduceSub, Nat.reduceEqDiff, Nat.zero_add, Nat.add_zero, Nat.mul_one, Nat.one_mul, if_true, if_false, reduceIte, reduceCtorEq, eq_self, q2, q])) ?_) | omega)
        all_goals exact ⟨_, rfl⟩
theorem implRead_ok (b : ByteArray) (hb : b.size ≤ 1048576) (h : Heap) : AC Try.prog 29 [VS b] h fun v h' => v = VS (readS b) ∧ h' = h := by
  refine AC.plain ?_
  refine AC_go mixed ok29 (by simp) fun hc _ => ?_
  unfold L29
  by_cases h1 : b = ⟨#[]⟩
  · subst h1
    have e1 := bEq_self (⟨#[]⟩ : ByteArray)
    have hN : readS ⟨#[]⟩ = ⟨#[]⟩ := readS_not (by show ¬ (2 ≤ 0 ∧ _); omega)
    repeat' (first | simp -implicitDefEqProofs only [Ab.R1, Ab.R2, Ab.R3, Ab.R4, Ab.R5, Ab.RH, Ab.RM, Ab.binV, Ab.binC, Nat.reduceLT, Nat.reduceBEq, Nat.reduceAdd, Nat.reduceMul, Nat.reduceEqDiff, Nat.reduceLeDiff, Nat.reduceSub, List.getElem?_cons_zero, List.getElem?_cons_succ, List.getElem?_nil, Option.getD_some, Option.getD_none, if_true, if_false, reduceIte, Option.map_some, Option.map_none, Option.bind_some, Option.bind_none, Option.isSome_some, List.map_cons, List.map_nil, AV.cells, List.length_cons, List.length_nil, List.all_cons, List.all_nil, AV.one, Value.oneCell', ne_eq, reduceCtorEq, Int.reduceNeg, Int.reduceEq, Int.reduceNe, Int.reduceAdd, Int.reduceSub, Int.reduceMul, Int.reduceLT, Int.reduceLE, Int.reduceToNat, List.drop_zero, List.take_zero, List.drop_succ_cons, List.take_succ_cons, List.nil_append, List.cons_append, List.append_nil, List.replicate_zero, List.flatten_nil, List.flatten_cons, List.reduceReplicate, ge_iff_le, gt_iff_lt, eq_self, Nat.add_assoc, facts, *] | simp (disch := omega) only [Ab.wrap_i64] | ((with_reducible refine Ab.gd_ndec (fun _ => ?_) (fun _ => ?_)) <;> try (exfalso; omega)) | ((with_reducible refine Ab.br_ndec (fun _ => ?_) (fun _ => ?_)) <;> try (exfalso; omega)) | ((with_reducible refine Ab.gd_dec (fun _ => ?_) (fun _ => ?_)) <;> try (exfalso; omega)) | ((with_reducible refine Ab.br_dec (fun _ => ?_) (fun _ => ?_)) <;> try (exfalso; omega)) | (with_reducible refine Ab.run_alt ?_ ?_) | (refine And.intro (by omega) ?_) | (refine gd_split (fun _ => ?_) (fun _ => ?_)) | (refine br_split (fun _ => ?_) (fun _ => ?_)) | omega)
    all_goals exact ⟨_, (List.append_nil _).symm⟩
  · have e1 := bEq_ne h1
    have hpos : 1 ≤ b.size := by
      rcases Nat.eq_zero_or_pos b.size with h0 | h0
      · exfalso; apply h1; apply bsL_inj
        exact List.eq_nil_of_length_eq_zero (by rw [bsL_len]; exact h0)
      · exact h0
    have hx := extract01 (b := b) hpos
    have hfr := fr_text 48 implFR_ok implFRx_ok b hpos hb
    have hz : (runT b 0).length = 0 := rfl
    repeat' (first | simp -implicitDefEqProofs only [Ab.R1, Ab.R2, Ab.R3, Ab.R4, Ab.R5, Ab.RH, Ab.RM, Ab.binV, Ab.binC, Nat.reduceLT, Nat.reduceBEq, Nat.reduceAdd, Nat.reduceMul, Nat.reduceEqDiff, Nat.reduceLeDiff, Nat.reduceSub, List.getElem?_cons_zero, List.getElem?_cons_succ, List.getElem?_nil, Option.getD_some, Option.getD_none, if_true, if_false, reduceIte, Option.map_some, Option.map_none, Option.bind_some, Option.bind_none, Option.isSome_some, List.map_cons, List.map_nil, AV.cells, List.length_cons, List.length_nil, List.all_cons, List.all_nil, AV.one, Value.oneCell', ne_eq, reduceCtorEq, Int.reduceNeg, Int.reduceEq, Int.reduceNe, Int.reduceAdd, Int.reduceSub, Int.reduceMul, Int.reduceLT, Int.reduceLE, Int.reduceToNat, List.drop_zero, List.take_zero, List.drop_succ_cons, List.take_succ_cons, List.nil_append, List.cons_append, List.append_nil, List.replicate_zero, List.flatten_nil, List.flatten_cons, List.reduceReplicate, ge_iff_le, gt_iff_lt, eq_self, Nat.add_assoc, facts, *] | simp (disch := omega) only [Ab.wrap_i64] | ((with_reducible refine Ab.gd_ndec (fun _ => ?_) (fun _ => ?_)) <;> try (exfalso; omega)) | ((with_reducible refine Ab.br_ndec (fun _ => ?_) (fun _ => ?_)) <;> try (exfalso; omega)) | ((with_reducible refine Ab.gd_dec (fun _ => ?_) (fun _ => ?_)) <;> try (exfalso; omega)) | ((with_reducible refine Ab.br_dec (fun _ => ?_) (fun _ => ?_)) <;> try (exfalso; omega)) | (with_reducible refine Ab.run_alt ?_ ?_) | (refine And.intro (by omega) ?_) | (refine gd_split (fun _ => ?_) (fun _ => ?_)) | (refine br_split (fun _ => ?_) (fun _ => ?_)) | omega)
    refine lw_loopS K29b0 (fun k : Nat => [(3, .own h.length 1 k), (4, VI ((k + 1 : Nat) : Int))]) (fun k => h ++ [rowR b k]) (fun k => k + 1 ≤ b.size) (fun k => b.size - k) 0 (by omega) rfl (by (simp -implicitDefEqProofs only [Ab.R1, Ab.R2, Ab.R3, Ab.R4, Ab.R5, Ab.RH, Ab.RM, Ab.binV, Ab.binC, Nat.reduceLT, Nat.reduceBEq, Nat.reduceAdd, Nat.reduceMul, Nat.reduceEqDiff, Nat.reduceLeDiff, Nat.reduceSub, List.getElem?_cons_zero, List.getElem?_cons_succ, List.getElem?_nil, Option.getD_some, Option.getD_none, if_true, if_false, reduceIte, Option.map_some, Option.map_none, Option.bind_some, Option.bind_none, Option.isSome_some, List.map_cons, List.map_nil, AV.cells, List.length_cons, List.length_nil, List.all_cons, List.all_nil, AV.one, Value.oneCell', ne_eq, reduceCtorEq, Int.reduceNeg, Int.reduceEq, Int.reduceNe, Int.reduceAdd, Int.reduceSub, Int.reduceMul, Int.reduceLT, Int.reduceLE, Int.reduceToNat, List.drop_zero, List.take_zero, List.drop_succ_cons, List.take_succ_cons, List.nil_append, List.cons_append, List.append_nil, List.replicate_zero, List.flatten_nil, List.flatten_cons, List.reduceReplicate, ge_iff_le, gt_iff_lt, eq_self, Nat.add_assoc, facts] <;> first | rfl | exact ⟨rfl, rfl⟩ | exact ⟨rfl, rfl, rfl⟩ | (simp; done))) ?_ ?_
    · intro hc' k hk
      have q := runT_len b k
      have q0 := runT_len b 0
      exact .app hc (by simp only [Ab.leB_cons, Ab.leB_nil, Ab.ok_raw, Ab.ok_own, Ab.ok_ptr, Ab.ok_sub, Ab.okAll_nil, Ab.okAll_cons, Ab.refOk_app, Ab.refOk_app0, Ab.okB_zero, Ab.okB_succ, Ab.rowI_ok, Ab.rowB_ok, Ab.rowS_ok, Ab.rowU_ok, Ab.rowI_len, Ab.rowB_len, Ab.rowS_len, Ab.rowU_len, List.mem_cons, List.not_mem_nil, or_false, forall_eq, forall_eq_or_imp, List.forall_mem_cons, List.length_replicate, and_true, true_and, and_self, Nat.le_refl, Nat.zero_le, implies_true, List.length_set, List.length_append, List.length_cons, List.length_nil, List.length_map, Bool.and_true, Bool.true_and, Bool.and_self, decide_true, decide_eq_true_eq, q, q0, Nat.mul_one] <;> omega) (by simp only [Ab.leB_cons, Ab.leB_nil, Ab.ok_raw, Ab.ok_own, Ab.ok_ptr, Ab.ok_sub, Ab.okAll_nil, Ab.okAll_cons, Ab.refOk_app, Ab.refOk_app0, Ab.okB_zero, Ab.okB_succ, Ab.rowI_ok, Ab.rowB_ok, Ab.rowS_ok, Ab.rowU_ok, Ab.rowI_len, Ab.rowB_len, Ab.rowS_len, Ab.rowU_len, List.mem_cons, List.not_mem_nil, or_false, forall_eq, forall_eq_or_imp, List.forall_mem_cons, List.length_replicate, and_true, true_and, and_self, Nat.le_refl, Nat.zero_le, implies_true, List.length_set, List.length_append, List.length_cons, List.length_nil, List.length_map, Bool.and_true, Bool.true_and, Bool.and_self, decide_true, decide_eq_true_eq, q, q0, Nat.mul_one] <;> omega) (by simp only [Ab.leB_cons, Ab.leB_nil, Ab.ok_raw, Ab.ok_own, Ab.ok_ptr, Ab.ok_sub, Ab.okAll_nil, Ab.okAll_cons, Ab.refOk_app, Ab.refOk_app0, Ab.okB_zero, Ab.okB_succ, Ab.rowI_ok, Ab.rowB_ok, Ab.rowS_ok, Ab.rowU_ok, Ab.rowI_len, Ab.rowB_len, Ab.rowS_len, Ab.rowU_len, List.mem_cons, List.not_mem_nil, or_false, forall_eq, forall_eq_or_imp, List.forall_mem_cons, List.length_replicate, and_true, true_and, and_self, Nat.le_refl, Nat.zero_le, implies_true, List.length_set, List.length_append, List.length_cons, List.length_nil, List.length_map, Bool.and_true, Bool.true_and, Bool.and_self, decide_true, decide_eq_true_eq, q, q0, Nat.mul_one] <;> omega)
    intro k hk _
    refine lw_run mixed ?_
    unfold L29b0 K29b0
    have q := runT_len b k
    have q2 := rowI_len (runT b k)
    rcases Nat.lt_or_ge (k + 1) b.size with hlt | hge
    · have hu := (byAt b (k + 1)).toNat_lt
      have hbb : ((byAt b (k + 1)).toNat : Int) = byI b (k + 1) := rfl
      have hs := rowR_succ b k
      repeat' (first | simp -implicitDefEqProofs only [Ab.R1, Ab.R2, Ab.R3, Ab.R4, Ab.R5, Ab.RH, Ab.RM, Ab.binV, Ab.binC, Nat.reduceLT, Nat.reduceBEq, Nat.reduceAdd, Nat.reduceMul, Nat.reduceEqDiff, Nat.reduceLeDiff, Nat.reduceSub, List.getElem?_cons_zero, List.getElem?_cons_succ, List.getElem?_nil, Option.getD_some, Option.getD_none, if_true, if_false, reduceIte, Option.map_some, Option.map_none, Option.bind_some, Option.bind_none, Option.isSome_some, List.map_cons, List.map_nil, AV.cells, List.length_cons, List.length_nil, List.all_cons, List.all_nil, AV.one, Value.oneCell', ne_eq, reduceCtorEq, Int.reduceNeg, Int.reduceEq, Int.reduceNe, Int.reduceAdd, Int.reduceSub, Int.reduceMul, Int.reduceLT, Int.reduceLE, Int.reduceToNat, List.drop_zero, List.take_zero, List.drop_succ_cons, List.take_succ_cons, List.nil_append, List.cons_append, List.append_nil, List.replicate_zero, List.flatten_nil, List.flatten_cons, List.reduceReplicate, ge_iff_le, gt_iff_lt, eq_self, Nat.add_assoc, facts, *] | simp (disch := omega) only [Ab.wrap_i64] | ((with_reducible refine Ab.gd_ndec (fun _ => ?_) (fun _ => ?_)) <;> try (exfalso; omega)) | ((with_reducible refine Ab.br_ndec (fun _ => ?_) (fun _ => ?_)) <;> try (exfalso; omega)) | ((with_reducible refine Ab.gd_dec (fun _ => ?_) (fun _ => ?_)) <;> try (exfalso; omega)) | ((with_reducible refine Ab.br_dec (fun _ => ?_) (fun _ => ?_)) <;> try (exfalso; omega)) | (with_reducible refine Ab.run_alt ?_ ?_) | (refine And.intro (by omega) ?_) | (refine gd_split (fun _ => ?_) (fun _ => ?_)) | (refine br_split (fun _ => ?_) (fun _ => ?_)) | omega)
      exact ⟨k + 1, [⟨.row 3 1, [VI (byI b (k + 1) - 48)]⟩], by omega, by omega, by rw [hs]; try simp, by first | rfl | simp, by omega⟩
    · obtain rfl : k = b.size - 1 := by omega
      repeat' (first | simp -implicitDefEqProofs only [Ab.R1, Ab.R2, Ab.R3, Ab.R4, Ab.R5, Ab.RH, Ab.RM, Ab.binV, Ab.binC, Nat.reduceLT, Nat.reduceBEq, Nat.reduceAdd, Nat.reduceMul, Nat.reduceEqDiff, Nat.reduceLeDiff, Nat.reduceSub, List.getElem?_cons_zero, List.getElem?_cons_succ, List.getElem?_nil, Option.getD_some, Option.getD_none, if_true, if_false, reduceIte, Option.map_some, Option.map_none, Option.bind_some, Option.bind_none, Option.isSome_some, List.map_cons, List.map_nil, AV.cells, List.length_cons, List.length_nil, List.all_cons, List.all_nil, AV.one, Value.oneCell', ne_eq, reduceCtorEq, Int.reduceNeg, Int.reduceEq, Int.reduceNe, Int.reduceAdd, Int.reduceSub, Int.reduceMul, Int.reduceLT, Int.reduceLE, Int.reduceToNat, List.drop_zero, List.take_zero, List.drop_succ_cons, List.take_succ_cons, List.nil_append, List.cons_append, List.append_nil, List.replicate_zero, List.flatten_nil, List.flatten_cons, List.reduceReplicate, ge_iff_le, gt_iff_lt, eq_self, Nat.add_assoc, facts, *] | simp (disch := omega) only [Ab.wrap_i64] | ((with_reducible refine Ab.gd_ndec (fun _ => ?_) (fun _ => ?_)) <;> try (exfalso; omega)) | ((with_reducible refine Ab.br_ndec (fun _ => ?_) (fun _ => ?_)) <;> try (exfalso; omega)) | ((with_reducible refine Ab.gd_dec (fun _ => ?_) (fun _ => ?_)) <;> try (exfalso; omega)) | ((with_reducible refine Ab.br_dec (fun _ => ?_) (fun _ => ?_)) <;> try (exfalso; omega)) | (with_reducible refine Ab.run_alt ?_ ?_) | (refine And.intro (by omega) ?_) | (refine gd_split (fun _ => ?_) (fun _ => ?_)) | (refine br_split (fun _ => ?_) (fun _ => ?_)) | (refine cl_same (hfr _ _ (by simp -implicitDefEqProofs only [Ab.app_assoc, Ab.len_app, Ab.sz_newk, Ab.sz_new0, Ab.rd_newk, Ab.rd_new0, Ab.wr_newk, Ab.wr_new0, Ab.set_newk, Ab.set_new0, Ab.sz_cons, Ab.sz_row0, Ab.sz_ro0, Ab.rd_cons, Ab.rd_row, Ab.rd_ro0, Ab.wr_cons, Ab.wr_row, Ab.set_cons_zero, Ab.set_cons_succ, Ab.rowI_len, Ab.rowB_len, Ab.rowS_len, Ab.rowU_len, Nat.add_assoc, List.cons_append, List.nil_append, List.append_nil, List.length_cons, List.length_nil, Nat.reduceAdd, Nat.reduceSub, Nat.reduceEqDiff, Nat.zero_add, Nat.add_zero, Nat.mul_one, Nat.one_mul, if_true, if_false, reduceIte, reduceCtorEq, eq_self, q2, q])) ?_) | omega)
      all_goals exact ⟨_, rfl⟩

theorem lawRead_ok (b : ByteArray) (hb : b.size ≤ maxLen) (h : Heap) : AC Try.prog 7 [VS b] h fun r _ => r = VB true := by
  refine AC_go mixed ok7 (by simp) fun hc _ => ?_
  unfold L7
  unfold maxLen at hb
  by_cases hs : b.size ≤ 1048576
  · have e1 := bEq_self (readS b)
    repeat' (first | simp -implicitDefEqProofs only [Ab.R1, Ab.R2, Ab.R3, Ab.R4, Ab.R5, Ab.RH, Ab.RM, Ab.binV, Ab.binC, Nat.reduceLT, Nat.reduceBEq, Nat.reduceAdd, Nat.reduceMul, Nat.reduceEqDiff, Nat.reduceLeDiff, Nat.reduceSub, List.getElem?_cons_zero, List.getElem?_cons_succ, List.getElem?_nil, Option.getD_some, Option.getD_none, if_true, if_false, reduceIte, Option.map_some, Option.map_none, Option.bind_some, Option.bind_none, Option.isSome_some, List.map_cons, List.map_nil, AV.cells, List.length_cons, List.length_nil, List.all_cons, List.all_nil, AV.one, Value.oneCell', ne_eq, reduceCtorEq, Int.reduceNeg, Int.reduceEq, Int.reduceNe, Int.reduceAdd, Int.reduceSub, Int.reduceMul, Int.reduceLT, Int.reduceLE, Int.reduceToNat, List.drop_zero, List.take_zero, List.drop_succ_cons, List.take_succ_cons, List.nil_append, List.cons_append, List.append_nil, List.replicate_zero, List.flatten_nil, List.flatten_cons, List.reduceReplicate, ge_iff_le, gt_iff_lt, eq_self, Nat.add_assoc, facts, *] | simp (disch := omega) only [Ab.wrap_i64] | ((with_reducible refine Ab.gd_ndec (fun _ => ?_) (fun _ => ?_)) <;> try (exfalso; omega)) | ((with_reducible refine Ab.br_ndec (fun _ => ?_) (fun _ => ?_)) <;> try (exfalso; omega)) | ((with_reducible refine Ab.gd_dec (fun _ => ?_) (fun _ => ?_)) <;> try (exfalso; omega)) | ((with_reducible refine Ab.br_dec (fun _ => ?_) (fun _ => ?_)) <;> try (exfalso; omega)) | (with_reducible refine Ab.run_alt ?_ ?_) | (refine And.intro (by omega) ?_) | (refine gd_split (fun _ => ?_) (fun _ => ?_)) | (refine br_split (fun _ => ?_) (fun _ => ?_)) | (refine cl_same (specRead_ok b hs _) ?_) | (refine cl_same (implRead_ok b hs _) ?_) | omega)
  · repeat' (first | simp -implicitDefEqProofs only [Ab.R1, Ab.R2, Ab.R3, Ab.R4, Ab.R5, Ab.RH, Ab.RM, Ab.binV, Ab.binC, Nat.reduceLT, Nat.reduceBEq, Nat.reduceAdd, Nat.reduceMul, Nat.reduceEqDiff, Nat.reduceLeDiff, Nat.reduceSub, List.getElem?_cons_zero, List.getElem?_cons_succ, List.getElem?_nil, Option.getD_some, Option.getD_none, if_true, if_false, reduceIte, Option.map_some, Option.map_none, Option.bind_some, Option.bind_none, Option.isSome_some, List.map_cons, List.map_nil, AV.cells, List.length_cons, List.length_nil, List.all_cons, List.all_nil, AV.one, Value.oneCell', ne_eq, reduceCtorEq, Int.reduceNeg, Int.reduceEq, Int.reduceNe, Int.reduceAdd, Int.reduceSub, Int.reduceMul, Int.reduceLT, Int.reduceLE, Int.reduceToNat, List.drop_zero, List.take_zero, List.drop_succ_cons, List.take_succ_cons, List.nil_append, List.cons_append, List.append_nil, List.replicate_zero, List.flatten_nil, List.flatten_cons, List.reduceReplicate, ge_iff_le, gt_iff_lt, eq_self, Nat.add_assoc, facts, *] | simp (disch := omega) only [Ab.wrap_i64] | ((with_reducible refine Ab.gd_ndec (fun _ => ?_) (fun _ => ?_)) <;> try (exfalso; omega)) | ((with_reducible refine Ab.br_ndec (fun _ => ?_) (fun _ => ?_)) <;> try (exfalso; omega)) | ((with_reducible refine Ab.gd_dec (fun _ => ?_) (fun _ => ?_)) <;> try (exfalso; omega)) | ((with_reducible refine Ab.br_dec (fun _ => ?_) (fun _ => ?_)) <;> try (exfalso; omega)) | (with_reducible refine Ab.run_alt ?_ ?_) | (refine And.intro (by omega) ?_) | (refine gd_split (fun _ => ?_) (fun _ => ?_)) | (refine br_split (fun _ => ?_) (fun _ => ?_)) | omega)
end Go.Proofs.Ytfcbjeciogfmeaa
