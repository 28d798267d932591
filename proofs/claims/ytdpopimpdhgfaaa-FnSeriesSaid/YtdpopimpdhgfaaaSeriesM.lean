/- FnSeries: the law. -/
import Derived.Test.YtdpopimpdhgfaaaAb32
import Derived.Test.YtdpopimpdhgfaaaL
import Derived.Test.YtdpopimpdhgfaaaAb29
import Derived.Test.YtdpopimpdhgfaaaAb31
import Derived.Test.YtdpopimpdhgfaaaSellNx
import Derived.Test.YtdpopimpdhgfaaaDel
import Derived.Test.YtdpopimpdhgfaaaPartI
import Derived.Test.YtdpopimpdhgfaaaPartP
import Derived.Test.YtdpopimpdhgfaaaEdI
namespace Go.Proofs.Ytdpopimpdhgfaaa
set_option maxRecDepth 20000
set_option linter.unusedSimpArgs false
set_option linter.unusedVariables false

section
open Go Go.Ab

abbrev curV (ci n i : Nat) (hh : Int) : List AV := [.sub ci n 1 0 n, VI i, VI hh]
abbrev curB (c : List AV) : Blk := ⟨.row 82 3, c⟩
/-- a cursor's cells -/
def CurC (ci n : Nat) (c : List AV) : Prop := ∃ (i : Nat) (hh : Int), i ≤ n ∧ c = curV ci n i hh
theorem CurC.ok {ci n : Nat} {c : List AV} (hc : CurC ci n c) {h : Heap} (hr : refOk h ci n = true) : okAll h c = true := by
  obtain ⟨i, hh, _, rfl⟩ := hc
  simp [okAll, AV.ok, hr]
theorem CurC.len {ci n : Nat} {c : List AV} (hc : CurC ci n c) : c.length = 3 := by
  obtain ⟨i, hh, _, rfl⟩ := hc; rfl

theorem and_mask (X : Int) (m : Nat) (hm : m < 2147483648) : ∃ x : Nat, x ≤ m ∧ IntKind.i64.wrap (((BitVec.ofInt IntKind.i64.bits X &&& BitVec.ofInt IntKind.i64.bits (m : Int)).toNat : Nat) : Int) = x := by
  have h1 : (BitVec.ofInt IntKind.i64.bits X &&& BitVec.ofInt IntKind.i64.bits (m : Int)).toNat ≤ m := by
    rw [BitVec.toNat_and]
    refine Nat.le_trans Nat.and_le_right ?_
    simp only [BitVec.toNat_ofInt]
    show ((m : Int) % (2 ^ 64 : Nat)).toNat ≤ m
    omega
  exact ⟨_, h1, wrap_i64 (by omega) (by omega)⟩
theorem and_255 (X : Int) : 0 ≤ IntKind.i64.wrap (((BitVec.ofInt IntKind.i64.bits X &&& BitVec.ofInt IntKind.i64.bits 255).toNat : Nat) : Int) ∧ IntKind.i64.wrap (((BitVec.ofInt IntKind.i64.bits X &&& BitVec.ofInt IntKind.i64.bits 255).toNat : Nat) : Int) ≤ 255 := by
  obtain ⟨x, h1, h2⟩ := and_mask X 255 (by omega)
  have h3 : ((255 : Nat) : Int) = 255 := rfl
  rw [h3] at h2
  rw [h2]; omega

theorem l01New_ok (bs : List UInt8) (ci : Nat) (hn : bs.length ≤ 9223372036854700000) (h : Heap) (hr : rd h ci bs.length = some (rowU bs)) :
    AC Try.prog 67 [.sub ci bs.length 1 0 bs.length] h fun r h' => ∃ c, CurC ci bs.length c ∧ r = .ptr h.length 3 0 ∧ h' = h ++ [curB c] := by
  refine AC_go mixed ok67 (by simp) fun hc _ => ?_
  unfold L67
  have hsz := sz_of hr
  repeat' (first | simp -implicitDefEqProofs only [Ab.R1, Ab.R2, Ab.R3, Ab.R4, Ab.R5, Ab.RH, Ab.RM, Ab.binV, Ab.binC, Nat.reduceLT, Nat.reduceBEq, Nat.reduceAdd, Nat.reduceMul, Nat.reduceEqDiff, Nat.reduceLeDiff, Nat.reduceSub, List.getElem?_cons_zero, List.getElem?_cons_succ, List.getElem?_nil, Option.getD_some, Option.getD_none, if_true, if_false, reduceIte, Option.map_some, Option.map_none, Option.bind_some, Option.bind_none, Option.isSome_some, List.map_cons, List.map_nil, AV.cells, List.length_cons, List.length_nil, List.all_cons, List.all_nil, AV.one, Value.oneCell', ne_eq, reduceCtorEq, Int.reduceNeg, Int.reduceEq, Int.reduceNe, Int.reduceAdd, Int.reduceSub, Int.reduceMul, Int.reduceLT, Int.reduceLE, Int.reduceToNat, List.drop_zero, List.take_zero, List.drop_succ_cons, List.take_succ_cons, List.nil_append, List.cons_append, List.append_nil, List.replicate_zero, List.flatten_nil, List.flatten_cons, List.reduceReplicate, ge_iff_le, gt_iff_lt, eq_self, Nat.add_assoc, facts, *] | simp (disch := omega) only [Ab.wrap_i64] | ((with_reducible refine Ab.gd_ndec (fun _ => ?_) (fun _ => ?_)) <;> try (exfalso; omega)) | ((with_reducible refine Ab.br_ndec (fun _ => ?_) (fun _ => ?_)) <;> try (exfalso; omega)) | ((with_reducible refine Ab.gd_dec (fun _ => ?_) (fun _ => ?_)) <;> try (exfalso; omega)) | ((with_reducible refine Ab.br_dec (fun _ => ?_) (fun _ => ?_)) <;> try (exfalso; omega)) | (with_reducible refine Ab.run_alt ?_ ?_) | (refine And.intro (by omega) ?_) | (refine gd_split (fun _ => ?_) (fun _ => ?_)) | (refine br_split (fun _ => ?_) (fun _ => ?_)) | omega)
  refine lw_loopS K67b0 (fun a : Nat × Int => [(3, VI a.2), (4, VI a.1)]) (fun _ => h) (fun a => a.1 ≤ bs.length) (fun a => bs.length - a.1) (0, _) (by dsimp only; omega) rfl (by simp -implicitDefEqProofs only [Ab.R1, Ab.R2, Ab.R3, Ab.R4, Ab.R5, Ab.RH, Ab.RM, Ab.binV, Ab.binC, Nat.reduceLT, Nat.reduceBEq, Nat.reduceAdd, Nat.reduceMul, Nat.reduceEqDiff, Nat.reduceLeDiff, Nat.reduceSub, List.getElem?_cons_zero, List.getElem?_cons_succ, List.getElem?_nil, Option.getD_some, Option.getD_none, if_true, if_false, reduceIte, Option.map_some, Option.map_none, Option.bind_some, Option.bind_none, Option.isSome_some, List.map_cons, List.map_nil, AV.cells, List.length_cons, List.length_nil, List.all_cons, List.all_nil, AV.one, Value.oneCell', ne_eq, reduceCtorEq, Int.reduceNeg, Int.reduceEq, Int.reduceNe, Int.reduceAdd, Int.reduceSub, Int.reduceMul, Int.reduceLT, Int.reduceLE, Int.reduceToNat, List.drop_zero, List.take_zero, List.drop_succ_cons, List.take_succ_cons, List.nil_append, List.cons_append, List.append_nil, List.replicate_zero, List.flatten_nil, List.flatten_cons, List.reduceReplicate, ge_iff_le, gt_iff_lt, eq_self, Nat.add_assoc, facts]; exact ⟨rfl, rfl⟩) (fun _ i _ => .same hc (by simp only [Ab.leB_cons, Ab.leB_nil, Ab.ok_raw, Ab.ok_own, Ab.ok_ptr, Ab.ok_sub, Ab.okAll_nil, Ab.okAll_cons, Ab.refOk_app, Ab.refOk_app0, Ab.okB_zero, Ab.okB_succ, Ab.rowI_ok, Ab.rowB_ok, Ab.rowS_ok, Ab.rowU_ok, Ab.rowI_len, Ab.rowB_len, Ab.rowS_len, Ab.rowU_len, List.mem_cons, List.not_mem_nil, or_false, forall_eq, forall_eq_or_imp, List.forall_mem_cons, List.length_replicate, and_true, true_and, and_self, Nat.le_refl, Nat.zero_le, implies_true, List.length_set, List.length_append, List.length_cons, List.length_nil, List.length_map, Bool.and_true, Bool.true_and, Bool.and_self, decide_true, decide_eq_true_eq] <;> omega)) ?_
  rintro ⟨i, hh⟩ hi _
  dsimp only at hi ⊢
  refine lw_run mixed ?_
  unfold L67b0 K67b0
  rcases Nat.lt_or_ge i bs.length with hlt | hge
  · obtain ⟨x, hx⟩ := some_at hlt
    repeat' (first | simp -implicitDefEqProofs only [Ab.R1, Ab.R2, Ab.R3, Ab.R4, Ab.R5, Ab.RH, Ab.RM, Ab.binV, Ab.binC, Nat.reduceLT, Nat.reduceBEq, Nat.reduceAdd, Nat.reduceMul, Nat.reduceEqDiff, Nat.reduceLeDiff, Nat.reduceSub, List.getElem?_cons_zero, List.getElem?_cons_succ, List.getElem?_nil, Option.getD_some, Option.getD_none, if_true, if_false, reduceIte, Option.map_some, Option.map_none, Option.bind_some, Option.bind_none, Option.isSome_some, List.map_cons, List.map_nil, AV.cells, List.length_cons, List.length_nil, List.all_cons, List.all_nil, AV.one, Value.oneCell', ne_eq, reduceCtorEq, Int.reduceNeg, Int.reduceEq, Int.reduceNe, Int.reduceAdd, Int.reduceSub, Int.reduceMul, Int.reduceLT, Int.reduceLE, Int.reduceToNat, List.drop_zero, List.take_zero, List.drop_succ_cons, List.take_succ_cons, List.nil_append, List.cons_append, List.append_nil, List.replicate_zero, List.flatten_nil, List.flatten_cons, List.reduceReplicate, ge_iff_le, gt_iff_lt, eq_self, Nat.add_assoc, facts, *, rowU_at] | simp (disch := omega) only [Ab.wrap_i64] | ((with_reducible refine Ab.gd_ndec (fun _ => ?_) (fun _ => ?_)) <;> try (exfalso; omega)) | ((with_reducible refine Ab.br_ndec (fun _ => ?_) (fun _ => ?_)) <;> try (exfalso; omega)) | ((with_reducible refine Ab.gd_dec (fun _ => ?_) (fun _ => ?_)) <;> try (exfalso; omega)) | ((with_reducible refine Ab.br_dec (fun _ => ?_) (fun _ => ?_)) <;> try (exfalso; omega)) | (with_reducible refine Ab.run_alt ?_ ?_) | (refine And.intro (by omega) ?_) | (refine gd_split (fun _ => ?_) (fun _ => ?_)) | (refine br_split (fun _ => ?_) (fun _ => ?_)) | omega)
    · exact ⟨(i + 1, _), [], by dsimp only; omega, by dsimp only; omega, (List.append_nil _).symm, rfl, by dsimp only; omega⟩
    · exact ⟨_, ⟨0, _, by omega, rfl⟩, rfl⟩
  · repeat' (first | simp -implicitDefEqProofs only [Ab.R1, Ab.R2, Ab.R3, Ab.R4, Ab.R5, Ab.RH, Ab.RM, Ab.binV, Ab.binC, Nat.reduceLT, Nat.reduceBEq, Nat.reduceAdd, Nat.reduceMul, Nat.reduceEqDiff, Nat.reduceLeDiff, Nat.reduceSub, List.getElem?_cons_zero, List.getElem?_cons_succ, List.getElem?_nil, Option.getD_some, Option.getD_none, if_true, if_false, reduceIte, Option.map_some, Option.map_none, Option.bind_some, Option.bind_none, Option.isSome_some, List.map_cons, List.map_nil, AV.cells, List.length_cons, List.length_nil, List.all_cons, List.all_nil, AV.one, Value.oneCell', ne_eq, reduceCtorEq, Int.reduceNeg, Int.reduceEq, Int.reduceNe, Int.reduceAdd, Int.reduceSub, Int.reduceMul, Int.reduceLT, Int.reduceLE, Int.reduceToNat, List.drop_zero, List.take_zero, List.drop_succ_cons, List.take_succ_cons, List.nil_append, List.cons_append, List.append_nil, List.replicate_zero, List.flatten_nil, List.flatten_cons, List.reduceReplicate, ge_iff_le, gt_iff_lt, eq_self, Nat.add_assoc, facts, *] | simp (disch := omega) only [Ab.wrap_i64] | ((with_reducible refine Ab.gd_ndec (fun _ => ?_) (fun _ => ?_)) <;> try (exfalso; omega)) | ((with_reducible refine Ab.br_ndec (fun _ => ?_) (fun _ => ?_)) <;> try (exfalso; omega)) | ((with_reducible refine Ab.gd_dec (fun _ => ?_) (fun _ => ?_)) <;> try (exfalso; omega)) | ((with_reducible refine Ab.br_dec (fun _ => ?_) (fun _ => ?_)) <;> try (exfalso; omega)) | (with_reducible refine Ab.run_alt ?_ ?_) | (refine And.intro (by omega) ?_) | (refine gd_split (fun _ => ?_) (fun _ => ?_)) | (refine br_split (fun _ => ?_) (fun _ => ?_)) | omega)
    exact ⟨_, ⟨0, _, by omega, rfl⟩, rfl⟩

theorem cur_ne {bs : List UInt8} {ci id : Nat} {h : Heap} {c : List AV} (hr : rd h ci bs.length = some (rowU bs)) (hw : wr h id 3 = some (82, 3, c)) (hc : CurC ci bs.length c) : ci ≠ id := by
  intro he
  subst he
  have h1 := wr_rd hw
  obtain ⟨i, hh, _, rfl⟩ := hc
  have hl := (rd_spec hr).1
  have hl1 := (rd_spec h1).1
  have h2 : bs.length = 3 := by
    obtain ⟨_, hb, hz⟩ := rd_spec hr
    obtain ⟨_, hb1, hz1⟩ := rd_spec h1
    rw [hz] at hz1; injection hz1
  rw [h2, h1] at hr
  injection hr with hr
  match bs, h2 with
  | [a, b, c], _ => simp [rowU] at hr

theorem l01Byte_ok (bs : List UInt8) (ci id : Nat) (c : List AV) (hn : bs.length ≤ 9223372036854700000) (hc0 : CurC ci bs.length c) (h : Heap) (hr : rd h ci bs.length = some (rowU bs)) (hw : wr h id 3 = some (82, 3, c)) :
    AC Try.prog 90 [.ptr id 3 0] h fun r h' => ∃ (x : Int) (c' : List AV), 0 ≤ x ∧ x ≤ 255 ∧ CurC ci bs.length c' ∧ r = VI x ∧ h' = List.set h id (curB c') := by
  refine AC_go mixed ok90 (by simp) fun hc _ => ?_
  unfold L90
  have hid := wr_lt hw
  have hne := cur_ne hr hw hc0
  obtain ⟨i, hh, hi, rfl⟩ := hc0
  have hrs : ∀ b, rd (List.set h id b) ci bs.length = some (rowU bs) := fun b => by rw [rd_set_ne hne]; exact hr
  have hss : ∀ b, sz (List.set h id b) ci = some bs.length := fun b => sz_of (hrs b)
  have hrw := wr_rd hw
  have hsw := sz_of hrw
  rcases Nat.lt_or_ge i bs.length with hlt | hge
  · obtain ⟨y, hy⟩ := some_at hlt
    have hE : ((i : Int) < bs.length) = True := eq_true (by omega)
    repeat' (first | simp -implicitDefEqProofs only [Ab.R1, Ab.R2, Ab.R3, Ab.R4, Ab.R5, Ab.RH, Ab.RM, Ab.binV, Ab.binC, Nat.reduceLT, Nat.reduceBEq, Nat.reduceAdd, Nat.reduceMul, Nat.reduceEqDiff, Nat.reduceLeDiff, Nat.reduceSub, List.getElem?_cons_zero, List.getElem?_cons_succ, List.getElem?_nil, Option.getD_some, Option.getD_none, if_true, if_false, reduceIte, Option.map_some, Option.map_none, Option.bind_some, Option.bind_none, Option.isSome_some, List.map_cons, List.map_nil, AV.cells, List.length_cons, List.length_nil, List.all_cons, List.all_nil, AV.one, Value.oneCell', ne_eq, reduceCtorEq, Int.reduceNeg, Int.reduceEq, Int.reduceNe, Int.reduceAdd, Int.reduceSub, Int.reduceMul, Int.reduceLT, Int.reduceLE, Int.reduceToNat, List.drop_zero, List.take_zero, List.drop_succ_cons, List.take_succ_cons, List.nil_append, List.cons_append, List.append_nil, List.replicate_zero, List.flatten_nil, List.flatten_cons, List.reduceReplicate, ge_iff_le, gt_iff_lt, eq_self, Nat.add_assoc, facts, *, rowU_at, rd_set, wr_set, sz_set, set_set] | simp (disch := omega) only [Ab.wrap_i64] | ((with_reducible refine Ab.gd_ndec (fun _ => ?_) (fun _ => ?_)) <;> try (exfalso; omega)) | ((with_reducible refine Ab.br_ndec (fun _ => ?_) (fun _ => ?_)) <;> try (exfalso; omega)) | ((with_reducible refine Ab.gd_dec (fun _ => ?_) (fun _ => ?_)) <;> try (exfalso; omega)) | ((with_reducible refine Ab.br_dec (fun _ => ?_) (fun _ => ?_)) <;> try (exfalso; omega)) | (with_reducible refine Ab.run_alt ?_ ?_) | (refine And.intro (by omega) ?_) | (refine gd_split (fun _ => ?_) (fun _ => ?_)) | (refine br_split (fun _ => ?_) (fun _ => ?_)) | omega)
    exact ⟨_, _, (and_255 _).1, (and_255 _).2, ⟨i + 1, _, by omega, rfl⟩, rfl, rfl⟩
  · have hE : ((i : Int) < bs.length) = False := eq_false (by omega)
    repeat' (first | simp -implicitDefEqProofs only [Ab.R1, Ab.R2, Ab.R3, Ab.R4, Ab.R5, Ab.RH, Ab.RM, Ab.binV, Ab.binC, Nat.reduceLT, Nat.reduceBEq, Nat.reduceAdd, Nat.reduceMul, Nat.reduceEqDiff, Nat.reduceLeDiff, Nat.reduceSub, List.getElem?_cons_zero, List.getElem?_cons_succ, List.getElem?_nil, Option.getD_some, Option.getD_none, if_true, if_false, reduceIte, Option.map_some, Option.map_none, Option.bind_some, Option.bind_none, Option.isSome_some, List.map_cons, List.map_nil, AV.cells, List.length_cons, List.length_nil, List.all_cons, List.all_nil, AV.one, Value.oneCell', ne_eq, reduceCtorEq, Int.reduceNeg, Int.reduceEq, Int.reduceNe, Int.reduceAdd, Int.reduceSub, Int.reduceMul, Int.reduceLT, Int.reduceLE, Int.reduceToNat, List.drop_zero, List.take_zero, List.drop_succ_cons, List.take_succ_cons, List.nil_append, List.cons_append, List.append_nil, List.replicate_zero, List.flatten_nil, List.flatten_cons, List.reduceReplicate, ge_iff_le, gt_iff_lt, eq_self, Nat.add_assoc, facts, *, rowU_at, rd_set, wr_set, sz_set, set_set] | simp (disch := omega) only [Ab.wrap_i64] | ((with_reducible refine Ab.gd_ndec (fun _ => ?_) (fun _ => ?_)) <;> try (exfalso; omega)) | ((with_reducible refine Ab.br_ndec (fun _ => ?_) (fun _ => ?_)) <;> try (exfalso; omega)) | ((with_reducible refine Ab.gd_dec (fun _ => ?_) (fun _ => ?_)) <;> try (exfalso; omega)) | ((with_reducible refine Ab.br_dec (fun _ => ?_) (fun _ => ?_)) <;> try (exfalso; omega)) | (with_reducible refine Ab.run_alt ?_ ?_) | (refine And.intro (by omega) ?_) | (refine gd_split (fun _ => ?_) (fun _ => ?_)) | (refine br_split (fun _ => ?_) (fun _ => ?_)) | omega)
    exact ⟨_, _, (and_255 _).1, (and_255 _).2, ⟨i, _, by omega, rfl⟩, rfl, rfl⟩

theorem l01Below_ok (bs : List UInt8) (ci id : Nat) (c : List AV) (k : Int) (hn : bs.length ≤ 9223372036854700000) (hk : k ≤ 1000000000000) (hc0 : CurC ci bs.length c) (h : Heap) (hr : rd h ci bs.length = some (rowU bs)) (hw : wr h id 3 = some (82, 3, c)) :
    AC Try.prog 75 [.ptr id 3 0, VI k] h fun r h' => ∃ (x : Int) (c' : List AV), 0 ≤ x ∧ (0 < k → x < k) ∧ CurC ci bs.length c' ∧ r = VI x ∧ h' = List.set h id (curB c') := by
  refine AC_go mixed ok75 (by simp) fun hc _ => ?_
  unfold L75
  have hid := wr_lt hw
  have hne := cur_ne hr hw hc0
  have hrs : ∀ b, rd (List.set h id b) ci bs.length = some (rowU bs) := fun b => by rw [rd_set_ne hne]; exact hr
  have hwc : ∀ c', CurC ci bs.length c' → wr (List.set h id (curB c')) id 3 = some (82, 3, c') := fun c' hc' => by rw [wr_set hid, if_pos hc'.len]
  rcases Int.lt_or_le 0 k with hpos | hneg
  · rcases Int.lt_or_le 256 k with hbig | hsmall
    · repeat' (first | simp -implicitDefEqProofs only [Ab.R1, Ab.R2, Ab.R3, Ab.R4, Ab.R5, Ab.RH, Ab.RM, Ab.binV, Ab.binC, Nat.reduceLT, Nat.reduceBEq, Nat.reduceAdd, Nat.reduceMul, Nat.reduceEqDiff, Nat.reduceLeDiff, Nat.reduceSub, List.getElem?_cons_zero, List.getElem?_cons_succ, List.getElem?_nil, Option.getD_some, Option.getD_none, if_true, if_false, reduceIte, Option.map_some, Option.map_none, Option.bind_some, Option.bind_none, Option.isSome_some, List.map_cons, List.map_nil, AV.cells, List.length_cons, List.length_nil, List.all_cons, List.all_nil, AV.one, Value.oneCell', ne_eq, reduceCtorEq, Int.reduceNeg, Int.reduceEq, Int.reduceNe, Int.reduceAdd, Int.reduceSub, Int.reduceMul, Int.reduceLT, Int.reduceLE, Int.reduceToNat, List.drop_zero, List.take_zero, List.drop_succ_cons, List.take_succ_cons, List.nil_append, List.cons_append, List.append_nil, List.replicate_zero, List.flatten_nil, List.flatten_cons, List.reduceReplicate, ge_iff_le, gt_iff_lt, eq_self, Nat.add_assoc, facts, *] | simp (disch := omega) only [Ab.wrap_i64] | ((with_reducible refine Ab.gd_ndec (fun _ => ?_) (fun _ => ?_)) <;> try (exfalso; omega)) | ((with_reducible refine Ab.br_ndec (fun _ => ?_) (fun _ => ?_)) <;> try (exfalso; omega)) | ((with_reducible refine Ab.gd_dec (fun _ => ?_) (fun _ => ?_)) <;> try (exfalso; omega)) | ((with_reducible refine Ab.br_dec (fun _ => ?_) (fun _ => ?_)) <;> try (exfalso; omega)) | (with_reducible refine Ab.run_alt ?_ ?_) | (refine And.intro (by omega) ?_) | (refine gd_split (fun _ => ?_) (fun _ => ?_)) | (refine br_split (fun _ => ?_) (fun _ => ?_)) | omega)
      refine cl_any (l01Byte_ok bs ci id c hn hc0 _ hr hw) ?_
      rintro _ _ ⟨x1, c1, a1, b1, k1, rfl, rfl⟩
      repeat' (first | simp -implicitDefEqProofs only [Ab.R1, Ab.R2, Ab.R3, Ab.R4, Ab.R5, Ab.RH, Ab.RM, Ab.binV, Ab.binC, Nat.reduceLT, Nat.reduceBEq, Nat.reduceAdd, Nat.reduceMul, Nat.reduceEqDiff, Nat.reduceLeDiff, Nat.reduceSub, List.getElem?_cons_zero, List.getElem?_cons_succ, List.getElem?_nil, Option.getD_some, Option.getD_none, if_true, if_false, reduceIte, Option.map_some, Option.map_none, Option.bind_some, Option.bind_none, Option.isSome_some, List.map_cons, List.map_nil, AV.cells, List.length_cons, List.length_nil, List.all_cons, List.all_nil, AV.one, Value.oneCell', ne_eq, reduceCtorEq, Int.reduceNeg, Int.reduceEq, Int.reduceNe, Int.reduceAdd, Int.reduceSub, Int.reduceMul, Int.reduceLT, Int.reduceLE, Int.reduceToNat, List.drop_zero, List.take_zero, List.drop_succ_cons, List.take_succ_cons, List.nil_append, List.cons_append, List.append_nil, List.replicate_zero, List.flatten_nil, List.flatten_cons, List.reduceReplicate, ge_iff_le, gt_iff_lt, eq_self, Nat.add_assoc, facts, *] | simp (disch := omega) only [Ab.wrap_i64] | ((with_reducible refine Ab.gd_ndec (fun _ => ?_) (fun _ => ?_)) <;> try (exfalso; omega)) | ((with_reducible refine Ab.br_ndec (fun _ => ?_) (fun _ => ?_)) <;> try (exfalso; omega)) | ((with_reducible refine Ab.gd_dec (fun _ => ?_) (fun _ => ?_)) <;> try (exfalso; omega)) | ((with_reducible refine Ab.br_dec (fun _ => ?_) (fun _ => ?_)) <;> try (exfalso; omega)) | (with_reducible refine Ab.run_alt ?_ ?_) | (refine And.intro (by omega) ?_) | (refine gd_split (fun _ => ?_) (fun _ => ?_)) | (refine br_split (fun _ => ?_) (fun _ => ?_)) | omega)
      refine cl_any (l01Byte_ok bs ci id c1 hn k1 _ (hrs _) (hwc _ k1)) ?_
      rintro _ _ ⟨x2, c2, a2, b2, k2, rfl, rfl⟩
      simp only [set_set]
      repeat' (first | simp -implicitDefEqProofs only [Ab.R1, Ab.R2, Ab.R3, Ab.R4, Ab.R5, Ab.RH, Ab.RM, Ab.binV, Ab.binC, Nat.reduceLT, Nat.reduceBEq, Nat.reduceAdd, Nat.reduceMul, Nat.reduceEqDiff, Nat.reduceLeDiff, Nat.reduceSub, List.getElem?_cons_zero, List.getElem?_cons_succ, List.getElem?_nil, Option.getD_some, Option.getD_none, if_true, if_false, reduceIte, Option.map_some, Option.map_none, Option.bind_some, Option.bind_none, Option.isSome_some, List.map_cons, List.map_nil, AV.cells, List.length_cons, List.length_nil, List.all_cons, List.all_nil, AV.one, Value.oneCell', ne_eq, reduceCtorEq, Int.reduceNeg, Int.reduceEq, Int.reduceNe, Int.reduceAdd, Int.reduceSub, Int.reduceMul, Int.reduceLT, Int.reduceLE, Int.reduceToNat, List.drop_zero, List.take_zero, List.drop_succ_cons, List.take_succ_cons, List.nil_append, List.cons_append, List.append_nil, List.replicate_zero, List.flatten_nil, List.flatten_cons, List.reduceReplicate, ge_iff_le, gt_iff_lt, eq_self, Nat.add_assoc, facts, *] | simp (disch := omega) only [Ab.wrap_i64] | ((with_reducible refine Ab.gd_ndec (fun _ => ?_) (fun _ => ?_)) <;> try (exfalso; omega)) | ((with_reducible refine Ab.br_ndec (fun _ => ?_) (fun _ => ?_)) <;> try (exfalso; omega)) | ((with_reducible refine Ab.gd_dec (fun _ => ?_) (fun _ => ?_)) <;> try (exfalso; omega)) | ((with_reducible refine Ab.br_dec (fun _ => ?_) (fun _ => ?_)) <;> try (exfalso; omega)) | (with_reducible refine Ab.run_alt ?_ ?_) | (refine And.intro (by omega) ?_) | (refine gd_split (fun _ => ?_) (fun _ => ?_)) | (refine br_split (fun _ => ?_) (fun _ => ?_)) | omega)
      refine cl_any (l01Byte_ok bs ci id c2 hn k2 _ (hrs _) (hwc _ k2)) ?_
      rintro _ _ ⟨x3, c3, a3, b3, k3, rfl, rfl⟩
      simp only [set_set]
      repeat' (first | simp -implicitDefEqProofs only [Ab.R1, Ab.R2, Ab.R3, Ab.R4, Ab.R5, Ab.RH, Ab.RM, Ab.binV, Ab.binC, Nat.reduceLT, Nat.reduceBEq, Nat.reduceAdd, Nat.reduceMul, Nat.reduceEqDiff, Nat.reduceLeDiff, Nat.reduceSub, List.getElem?_cons_zero, List.getElem?_cons_succ, List.getElem?_nil, Option.getD_some, Option.getD_none, if_true, if_false, reduceIte, Option.map_some, Option.map_none, Option.bind_some, Option.bind_none, Option.isSome_some, List.map_cons, List.map_nil, AV.cells, List.length_cons, List.length_nil, List.all_cons, List.all_nil, AV.one, Value.oneCell', ne_eq, reduceCtorEq, Int.reduceNeg, Int.reduceEq, Int.reduceNe, Int.reduceAdd, Int.reduceSub, Int.reduceMul, Int.reduceLT, Int.reduceLE, Int.reduceToNat, List.drop_zero, List.take_zero, List.drop_succ_cons, List.take_succ_cons, List.nil_append, List.cons_append, List.append_nil, List.replicate_zero, List.flatten_nil, List.flatten_cons, List.reduceReplicate, ge_iff_le, gt_iff_lt, eq_self, Nat.add_assoc, facts, *] | simp (disch := omega) only [Ab.wrap_i64] | ((with_reducible refine Ab.gd_ndec (fun _ => ?_) (fun _ => ?_)) <;> try (exfalso; omega)) | ((with_reducible refine Ab.br_ndec (fun _ => ?_) (fun _ => ?_)) <;> try (exfalso; omega)) | ((with_reducible refine Ab.gd_dec (fun _ => ?_) (fun _ => ?_)) <;> try (exfalso; omega)) | ((with_reducible refine Ab.br_dec (fun _ => ?_) (fun _ => ?_)) <;> try (exfalso; omega)) | (with_reducible refine Ab.run_alt ?_ ?_) | (refine And.intro (by omega) ?_) | (refine gd_split (fun _ => ?_) (fun _ => ?_)) | (refine br_split (fun _ => ?_) (fun _ => ?_)) | omega)
      refine cl_any (l01Byte_ok bs ci id c3 hn k3 _ (hrs _) (hwc _ k3)) ?_
      rintro _ _ ⟨x4, c4, a4, b4, k4, rfl, rfl⟩
      simp only [set_set]
      have hk0 : (k = 0) = False := eq_false (by omega)
      repeat' (first | simp -implicitDefEqProofs only [Ab.R1, Ab.R2, Ab.R3, Ab.R4, Ab.R5, Ab.RH, Ab.RM, Ab.binV, Ab.binC, Nat.reduceLT, Nat.reduceBEq, Nat.reduceAdd, Nat.reduceMul, Nat.reduceEqDiff, Nat.reduceLeDiff, Nat.reduceSub, List.getElem?_cons_zero, List.getElem?_cons_succ, List.getElem?_nil, Option.getD_some, Option.getD_none, if_true, if_false, reduceIte, Option.map_some, Option.map_none, Option.bind_some, Option.bind_none, Option.isSome_some, List.map_cons, List.map_nil, AV.cells, List.length_cons, List.length_nil, List.all_cons, List.all_nil, AV.one, Value.oneCell', ne_eq, reduceCtorEq, Int.reduceNeg, Int.reduceEq, Int.reduceNe, Int.reduceAdd, Int.reduceSub, Int.reduceMul, Int.reduceLT, Int.reduceLE, Int.reduceToNat, List.drop_zero, List.take_zero, List.drop_succ_cons, List.take_succ_cons, List.nil_append, List.cons_append, List.append_nil, List.replicate_zero, List.flatten_nil, List.flatten_cons, List.reduceReplicate, ge_iff_le, gt_iff_lt, eq_self, Nat.add_assoc, facts, *, hk0] | simp (disch := omega) only [Ab.wrap_i64] | ((with_reducible refine Ab.gd_ndec (fun _ => ?_) (fun _ => ?_)) <;> try (exfalso; omega)) | ((with_reducible refine Ab.br_ndec (fun _ => ?_) (fun _ => ?_)) <;> try (exfalso; omega)) | ((with_reducible refine Ab.gd_dec (fun _ => ?_) (fun _ => ?_)) <;> try (exfalso; omega)) | ((with_reducible refine Ab.br_dec (fun _ => ?_) (fun _ => ?_)) <;> try (exfalso; omega)) | (with_reducible refine Ab.run_alt ?_ ?_) | (refine And.intro (by omega) ?_) | (refine gd_split (fun _ => ?_) (fun _ => ?_)) | (refine br_split (fun _ => ?_) (fun _ => ?_)) | omega)
      have hm : 0 ≤ x1 * 16777216 + x2 * 65536 + x3 * 256 + x4 := by omega
      rw [Int.tmod_eq_emod_of_nonneg hm]
      exact ⟨_, c4, Int.emod_nonneg _ (by omega), fun _ => Int.emod_lt_of_pos _ hpos, k4, rfl, rfl⟩
    · repeat' (first | simp -implicitDefEqProofs only [Ab.R1, Ab.R2, Ab.R3, Ab.R4, Ab.R5, Ab.RH, Ab.RM, Ab.binV, Ab.binC, Nat.reduceLT, Nat.reduceBEq, Nat.reduceAdd, Nat.reduceMul, Nat.reduceEqDiff, Nat.reduceLeDiff, Nat.reduceSub, List.getElem?_cons_zero, List.getElem?_cons_succ, List.getElem?_nil, Option.getD_some, Option.getD_none, if_true, if_false, reduceIte, Option.map_some, Option.map_none, Option.bind_some, Option.bind_none, Option.isSome_some, List.map_cons, List.map_nil, AV.cells, List.length_cons, List.length_nil, List.all_cons, List.all_nil, AV.one, Value.oneCell', ne_eq, reduceCtorEq, Int.reduceNeg, Int.reduceEq, Int.reduceNe, Int.reduceAdd, Int.reduceSub, Int.reduceMul, Int.reduceLT, Int.reduceLE, Int.reduceToNat, List.drop_zero, List.take_zero, List.drop_succ_cons, List.take_succ_cons, List.nil_append, List.cons_append, List.append_nil, List.replicate_zero, List.flatten_nil, List.flatten_cons, List.reduceReplicate, ge_iff_le, gt_iff_lt, eq_self, Nat.add_assoc, facts, *] | simp (disch := omega) only [Ab.wrap_i64] | ((with_reducible refine Ab.gd_ndec (fun _ => ?_) (fun _ => ?_)) <;> try (exfalso; omega)) | ((with_reducible refine Ab.br_ndec (fun _ => ?_) (fun _ => ?_)) <;> try (exfalso; omega)) | ((with_reducible refine Ab.gd_dec (fun _ => ?_) (fun _ => ?_)) <;> try (exfalso; omega)) | ((with_reducible refine Ab.br_dec (fun _ => ?_) (fun _ => ?_)) <;> try (exfalso; omega)) | (with_reducible refine Ab.run_alt ?_ ?_) | (refine And.intro (by omega) ?_) | (refine gd_split (fun _ => ?_) (fun _ => ?_)) | (refine br_split (fun _ => ?_) (fun _ => ?_)) | omega)
      refine cl_any (l01Byte_ok bs ci id c hn hc0 _ hr hw) ?_
      rintro _ _ ⟨x1, c1, a1, b1, k1, rfl, rfl⟩
      have hk0 : (k = 0) = False := eq_false (by omega)
      repeat' (first | simp -implicitDefEqProofs only [Ab.R1, Ab.R2, Ab.R3, Ab.R4, Ab.R5, Ab.RH, Ab.RM, Ab.binV, Ab.binC, Nat.reduceLT, Nat.reduceBEq, Nat.reduceAdd, Nat.reduceMul, Nat.reduceEqDiff, Nat.reduceLeDiff, Nat.reduceSub, List.getElem?_cons_zero, List.getElem?_cons_succ, List.getElem?_nil, Option.getD_some, Option.getD_none, if_true, if_false, reduceIte, Option.map_some, Option.map_none, Option.bind_some, Option.bind_none, Option.isSome_some, List.map_cons, List.map_nil, AV.cells, List.length_cons, List.length_nil, List.all_cons, List.all_nil, AV.one, Value.oneCell', ne_eq, reduceCtorEq, Int.reduceNeg, Int.reduceEq, Int.reduceNe, Int.reduceAdd, Int.reduceSub, Int.reduceMul, Int.reduceLT, Int.reduceLE, Int.reduceToNat, List.drop_zero, List.take_zero, List.drop_succ_cons, List.take_succ_cons, List.nil_append, List.cons_append, List.append_nil, List.replicate_zero, List.flatten_nil, List.flatten_cons, List.reduceReplicate, ge_iff_le, gt_iff_lt, eq_self, Nat.add_assoc, facts, *, hk0] | simp (disch := omega) only [Ab.wrap_i64] | ((with_reducible refine Ab.gd_ndec (fun _ => ?_) (fun _ => ?_)) <;> try (exfalso; omega)) | ((with_reducible refine Ab.br_ndec (fun _ => ?_) (fun _ => ?_)) <;> try (exfalso; omega)) | ((with_reducible refine Ab.gd_dec (fun _ => ?_) (fun _ => ?_)) <;> try (exfalso; omega)) | ((with_reducible refine Ab.br_dec (fun _ => ?_) (fun _ => ?_)) <;> try (exfalso; omega)) | (with_reducible refine Ab.run_alt ?_ ?_) | (refine And.intro (by omega) ?_) | (refine gd_split (fun _ => ?_) (fun _ => ?_)) | (refine br_split (fun _ => ?_) (fun _ => ?_)) | omega)
      rw [Int.tmod_eq_emod_of_nonneg a1]
      exact ⟨_, c1, Int.emod_nonneg _ (by omega), fun _ => Int.emod_lt_of_pos _ hpos, k1, rfl, rfl⟩
  · repeat' (first | simp -implicitDefEqProofs only [Ab.R1, Ab.R2, Ab.R3, Ab.R4, Ab.R5, Ab.RH, Ab.RM, Ab.binV, Ab.binC, Nat.reduceLT, Nat.reduceBEq, Nat.reduceAdd, Nat.reduceMul, Nat.reduceEqDiff, Nat.reduceLeDiff, Nat.reduceSub, List.getElem?_cons_zero, List.getElem?_cons_succ, List.getElem?_nil, Option.getD_some, Option.getD_none, if_true, if_false, reduceIte, Option.map_some, Option.map_none, Option.bind_some, Option.bind_none, Option.isSome_some, List.map_cons, List.map_nil, AV.cells, List.length_cons, List.length_nil, List.all_cons, List.all_nil, AV.one, Value.oneCell', ne_eq, reduceCtorEq, Int.reduceNeg, Int.reduceEq, Int.reduceNe, Int.reduceAdd, Int.reduceSub, Int.reduceMul, Int.reduceLT, Int.reduceLE, Int.reduceToNat, List.drop_zero, List.take_zero, List.drop_succ_cons, List.take_succ_cons, List.nil_append, List.cons_append, List.append_nil, List.replicate_zero, List.flatten_nil, List.flatten_cons, List.reduceReplicate, ge_iff_le, gt_iff_lt, eq_self, Nat.add_assoc, facts, *] | simp (disch := omega) only [Ab.wrap_i64] | ((with_reducible refine Ab.gd_ndec (fun _ => ?_) (fun _ => ?_)) <;> try (exfalso; omega)) | ((with_reducible refine Ab.br_ndec (fun _ => ?_) (fun _ => ?_)) <;> try (exfalso; omega)) | ((with_reducible refine Ab.gd_dec (fun _ => ?_) (fun _ => ?_)) <;> try (exfalso; omega)) | ((with_reducible refine Ab.br_dec (fun _ => ?_) (fun _ => ?_)) <;> try (exfalso; omega)) | (with_reducible refine Ab.run_alt ?_ ?_) | (refine And.intro (by omega) ?_) | (refine gd_split (fun _ => ?_) (fun _ => ?_)) | (refine br_split (fun _ => ?_) (fun _ => ?_)) | omega)
    exact ⟨0, c, by omega, fun hp => by omega, hc0, rfl, (set_same hw).symm⟩

theorem big_ok (bs : List UInt8) (ci : Nat) (h : Heap) (hr : rd h ci bs.length = some (rowU bs)) :
    AC Try.prog 37 [.sub ci bs.length 1 0 bs.length] h fun r h' => r = VB (decide ((bs.length : Int) > 1048576)) ∧ h' = h := by
  refine AC_go mixed ok37 (by simp) fun hc _ => ?_
  unfold L37
  have hsz := sz_of hr
  repeat' (first | simp -implicitDefEqProofs only [Ab.R1, Ab.R2, Ab.R3, Ab.R4, Ab.R5, Ab.RH, Ab.RM, Ab.binV, Ab.binC, Nat.reduceLT, Nat.reduceBEq, Nat.reduceAdd, Nat.reduceMul, Nat.reduceEqDiff, Nat.reduceLeDiff, Nat.reduceSub, List.getElem?_cons_zero, List.getElem?_cons_succ, List.getElem?_nil, Option.getD_some, Option.getD_none, if_true, if_false, reduceIte, Option.map_some, Option.map_none, Option.bind_some, Option.bind_none, Option.isSome_some, List.map_cons, List.map_nil, AV.cells, List.length_cons, List.length_nil, List.all_cons, List.all_nil, AV.one, Value.oneCell', ne_eq, reduceCtorEq, Int.reduceNeg, Int.reduceEq, Int.reduceNe, Int.reduceAdd, Int.reduceSub, Int.reduceMul, Int.reduceLT, Int.reduceLE, Int.reduceToNat, List.drop_zero, List.take_zero, List.drop_succ_cons, List.take_succ_cons, List.nil_append, List.cons_append, List.append_nil, List.replicate_zero, List.flatten_nil, List.flatten_cons, List.reduceReplicate, ge_iff_le, gt_iff_lt, eq_self, Nat.add_assoc, facts, *] | simp (disch := omega) only [Ab.wrap_i64] | ((with_reducible refine Ab.gd_ndec (fun _ => ?_) (fun _ => ?_)) <;> try (exfalso; omega)) | ((with_reducible refine Ab.br_ndec (fun _ => ?_) (fun _ => ?_)) <;> try (exfalso; omega)) | ((with_reducible refine Ab.gd_dec (fun _ => ?_) (fun _ => ?_)) <;> try (exfalso; omega)) | ((with_reducible refine Ab.br_dec (fun _ => ?_) (fun _ => ?_)) <;> try (exfalso; omega)) | (with_reducible refine Ab.run_alt ?_ ?_) | (refine And.intro (by omega) ?_) | (refine gd_split (fun _ => ?_) (fun _ => ?_)) | (refine br_split (fun _ => ?_) (fun _ => ?_)) | omega)
end

section
open Go Go.Ab

/-- the cursor stands behind g, other rows behind it -/
theorem below_at {bs : List UInt8} {ci : Nat} {c : List AV} (k : Int) (hn : bs.length ≤ 1048576) (hk : k ≤ 1000000000000) (hc0 : CurC ci bs.length c) (g l : Heap) (hr : rd g ci bs.length = some (rowU bs)) :
    AC Try.prog 75 [.ptr g.length 3 0, VI k] (g ++ (curB c :: l)) fun r h' => ∃ (x : Int) (c' : List AV), 0 ≤ x ∧ (0 < k → x < k) ∧ CurC ci bs.length c' ∧ r = VI x ∧ h' = g ++ (curB c' :: l) :=
  (l01Below_ok bs ci g.length c k (by omega) hk hc0 _ (rd_old hr _) (by rw [wr_new0, wr_row, if_pos hc0.len])).mono fun r h' ⟨x, c', h1, h2, h3, h4, h5⟩ =>
    ⟨x, c', h1, h2, h3, h4, by rw [h5, set_new0, set_cons_zero]⟩
theorem keepL_cur {g l : Heap} {c c' : List AV} {s : S} {F : List Operand} (ha : ApartL g.length (F.map (ev s))) : KeepL s F (g ++ (curB c :: l)) (g ++ (curB c' :: l)) := by
  have := keepL_set (h := g ++ (curB c :: l)) (b := curB c') ha
  rwa [set_new0, set_cons_zero] at this

/-- a new cursor -/
theorem new_at {bs : List UInt8} {ci : Nat} (hn : bs.length ≤ 1048576) (h : Heap) (hr : rd h ci bs.length = some (rowU bs)) :
    AC Try.prog 67 [.sub ci bs.length 1 0 bs.length] h fun r h' => ∃ c, CurC ci bs.length c ∧ r = .ptr h.length 3 0 ∧ h' = h ++ [curB c] :=
  l01New_ok bs ci (by omega) h hr
end

section
open Go Go.Ab

def dropI (n : Int) (xs : List Int) : List Int := xs.filter fun x => !decide (x = n)
theorem dropI_le (n : Int) (xs : List Int) : (dropI n xs).length ≤ xs.length := List.length_filter_le _ _
theorem dropI_more {n : Int} {xs : List Int} {k : Nat} {x : Int} (hx : xs[k]? = some x) (h : ¬ x = n) : dropI n (xs.take (k + 1)) = dropI n (xs.take k) ++ [x] := by
  rw [take_snoc hx, dropI, List.filter_append]; simp [dropI, h]
theorem dropI_skip {n : Int} {xs : List Int} {k : Nat} (hx : xs[k]? = some n) : dropI n (xs.take (k + 1)) = dropI n (xs.take k) := by
  rw [take_snoc hx, dropI, List.filter_append]; simp [dropI]
theorem dropI_none {n : Int} {xs : List Int} (h : hasI xs n = false) : dropI n xs = xs := by
  rw [hasI_not] at h
  rw [dropI, List.filter_eq_self]
  intro a ha
  have : a ≠ n := fun e => h (e ▸ ha)
  simp [this]
theorem idxI_no {n : Int} {xs : List Int} (h : hasI xs n = false) : idxI xs n = -1 := by rw [idxI, h]; rfl
theorem dropI_at {n : Int} {xs : List Int} (h : hasI xs n = true) (hd : xs.Nodup) : ∃ k : Nat, k < xs.length ∧ idxI xs n = k ∧ xs.take k ++ xs.drop (k + 1) = dropI n xs ∧ (dropI n xs).length = xs.length - 1 := by
  rw [hasI_iff] at h
  obtain ⟨k, hk⟩ := List.getElem?_of_mem h
  have hlt := some_lt hk
  have hs : xs = xs.take k ++ n :: xs.drop (k + 1) := by rw [← drop_at hk, List.take_append_drop]
  have hd2 := hd
  rw [hs, List.nodup_append] at hd2
  obtain ⟨d1, d2, d3⟩ := hd2
  rw [List.nodup_cons] at d2
  have n1 : n ∉ xs.take k := fun hm => d3 n hm n List.mem_cons_self rfl
  have n2 : n ∉ xs.drop (k + 1) := d2.1
  have e1 : dropI n (xs.take k) = xs.take k := dropI_none (hasI_not.2 n1)
  have e2 : dropI n (xs.drop (k + 1)) = xs.drop (k + 1) := dropI_none (hasI_not.2 n2)
  have e3 : dropI n xs = xs.take k ++ xs.drop (k + 1) := by
    conv => lhs; rw [hs]
    rw [dropI, List.filter_append, List.filter_cons]
    simp only [decide_true, Bool.not_true, Bool.false_eq_true, if_false]
    rw [show List.filter (fun x => !decide (x = n)) (xs.take k) = xs.take k from e1, show List.filter (fun x => !decide (x = n)) (xs.drop (k + 1)) = xs.drop (k + 1) from e2]
  refine ⟨k, hlt, idxI_at hk ?_ rfl, e3.symm, ?_⟩
  · have := hasI_not.2 n1; exact this
  · rw [e3]; simp; omega

def retB (s : Int) (xs : List Int) (n : Int) : Bool := edB s xs && hasI xs n
def retX (s : Int) (xs : List Int) (n : Int) : List Int := if retB s xs n = true then dropI n xs else xs
theorem retX_le (s : Int) (xs : List Int) (n : Int) : (retX s xs n).length ≤ xs.length := by
  unfold retX; split
  · exact dropI_le n xs
  · exact Nat.le_refl _

theorem specRet_ok (s : Int) (xs : List Int) (n : Int) (id : Nat) (hn : xs.length ≤ 1048576) (h : Heap) (hr : rd h id xs.length = some (rowI xs)) :
    AC Try.prog 28 [edV s id xs.length, VI n] h fun r h' => r = resE s h.length (retX s xs n).length (retB s xs n) ∧ h' = h ++ [rowW (retX s xs n)] := by
  refine AC_row1x (fun i => resE s i (retX s xs n).length (retB s xs n)) (rowW (retX s xs n)) (fun _ _ => rfl) (by simp [AV.ok, okAll, refOk, csz, rowI_len]) (fun h => rowI_ok h _) (fun ρ => ren_rowI ρ _) ?_
  refine AC_go mixed ok28 (by simp) fun hc _ => ?_
  unfold L28
  have hrd : ∀ l, rd (h ++ l) id xs.length = some (rowI xs) := fun l => rd_old hr l
  have hsd : ∀ l, sz (h ++ l) id = some xs.length := fun l => sz_old hr l
  have c1 := fun H hH => specEd_ok s xs id (by omega) H hH
  have cc := fun H hH => copyEd_ok s xs id (by omega) H hH
  have q1 := rowI_len xs
  have hid : id < h.length := by
    have := sz_of hr
    unfold sz at this
    rcases Nat.lt_or_ge id h.length with h1 | h1
    · exact h1
    · rw [List.getElem?_eq_none h1] at this; cases this
  repeat' (first | simp -implicitDefEqProofs only [Ab.R1, Ab.R2, Ab.R3, Ab.R4, Ab.R5, Ab.RH, Ab.RM, Ab.binV, Ab.binC, Nat.reduceLT, Nat.reduceBEq, Nat.reduceAdd, Nat.reduceMul, Nat.reduceEqDiff, Nat.reduceLeDiff, Nat.reduceSub, List.getElem?_cons_zero, List.getElem?_cons_succ, List.getElem?_nil, Option.getD_some, Option.getD_none, if_true, if_false, reduceIte, Option.map_some, Option.map_none, Option.bind_some, Option.bind_none, Option.isSome_some, List.map_cons, List.map_nil, AV.cells, List.length_cons, List.length_nil, List.all_cons, List.all_nil, AV.one, Value.oneCell', ne_eq, reduceCtorEq, Int.reduceNeg, Int.reduceEq, Int.reduceNe, Int.reduceAdd, Int.reduceSub, Int.reduceMul, Int.reduceLT, Int.reduceLE, Int.reduceToNat, List.drop_zero, List.take_zero, List.drop_succ_cons, List.take_succ_cons, List.nil_append, List.cons_append, List.append_nil, List.replicate_zero, List.flatten_nil, List.flatten_cons, List.reduceReplicate, ge_iff_le, gt_iff_lt, eq_self, Nat.add_assoc, facts, *] | simp (disch := omega) only [Ab.wrap_i64] | ((with_reducible refine Ab.gd_ndec (fun _ => ?_) (fun _ => ?_)) <;> try (exfalso; omega)) | ((with_reducible refine Ab.br_ndec (fun _ => ?_) (fun _ => ?_)) <;> try (exfalso; omega)) | ((with_reducible refine Ab.gd_dec (fun _ => ?_) (fun _ => ?_)) <;> try (exfalso; omega)) | ((with_reducible refine Ab.br_dec (fun _ => ?_) (fun _ => ?_)) <;> try (exfalso; omega)) | (with_reducible refine Ab.run_alt ?_ ?_) | (refine And.intro (by omega) ?_) | (refine gd_split (fun _ => ?_) (fun _ => ?_)) | (refine br_split (fun _ => ?_) (fun _ => ?_)) | omega)
  refine lw_nilcell (h.length + 2) 1 3 1 (e1 := 27) (es1 := 2) (cells := [VI s, .raw (.slice none 0 0)]) (by rw [get_new]; rfl) rfl ?_
  simp -implicitDefEqProofs only [Ab.R1, Ab.R2, Ab.R3, Ab.R4, Ab.R5, Ab.RH, Ab.RM, Ab.binV, Ab.binC, Nat.reduceLT, Nat.reduceBEq, Nat.reduceAdd, Nat.reduceMul, Nat.reduceEqDiff, Nat.reduceLeDiff, Nat.reduceSub, List.getElem?_cons_zero, List.getElem?_cons_succ, List.getElem?_nil, Option.getD_some, Option.getD_none, if_true, if_false, reduceIte, Option.map_some, Option.map_none, Option.bind_some, Option.bind_none, Option.isSome_some, List.map_cons, List.map_nil, AV.cells, List.length_cons, List.length_nil, List.all_cons, List.all_nil, AV.one, Value.oneCell', ne_eq, reduceCtorEq, Int.reduceNeg, Int.reduceEq, Int.reduceNe, Int.reduceAdd, Int.reduceSub, Int.reduceMul, Int.reduceLT, Int.reduceLE, Int.reduceToNat, List.drop_zero, List.take_zero, List.drop_succ_cons, List.take_succ_cons, List.nil_append, List.cons_append, List.append_nil, List.replicate_zero, List.flatten_nil, List.flatten_cons, List.reduceReplicate, ge_iff_le, gt_iff_lt, eq_self, Nat.add_assoc, facts]
  refine lw_loopS K28b0 (fun k : Nat => [(7, VI k)]) (fun k => h ++ [⟨.row 27 2, [VI s, .own id 1 xs.length]⟩, ⟨.row 27 2, [VI 0, .raw (.slice none 0 0)]⟩, ⟨.row 27 2, [VI s, .own (h.length + 3) 1 (dropI n (xs.take k)).length]⟩, rowW (dropI n (xs.take k))])
    (fun k => k ≤ xs.length) (fun k => xs.length - k) 0 (by omega) rfl (by (simp -implicitDefEqProofs only [Ab.R1, Ab.R2, Ab.R3, Ab.R4, Ab.R5, Ab.RH, Ab.RM, Ab.binV, Ab.binC, Nat.reduceLT, Nat.reduceBEq, Nat.reduceAdd, Nat.reduceMul, Nat.reduceEqDiff, Nat.reduceLeDiff, Nat.reduceSub, List.getElem?_cons_zero, List.getElem?_cons_succ, List.getElem?_nil, Option.getD_some, Option.getD_none, if_true, if_false, reduceIte, Option.map_some, Option.map_none, Option.bind_some, Option.bind_none, Option.isSome_some, List.map_cons, List.map_nil, AV.cells, List.length_cons, List.length_nil, List.all_cons, List.all_nil, AV.one, Value.oneCell', ne_eq, reduceCtorEq, Int.reduceNeg, Int.reduceEq, Int.reduceNe, Int.reduceAdd, Int.reduceSub, Int.reduceMul, Int.reduceLT, Int.reduceLE, Int.reduceToNat, List.drop_zero, List.take_zero, List.drop_succ_cons, List.take_succ_cons, List.nil_append, List.cons_append, List.append_nil, List.replicate_zero, List.flatten_nil, List.flatten_cons, List.reduceReplicate, ge_iff_le, gt_iff_lt, eq_self, Nat.add_assoc, facts] <;> first | rfl | exact ⟨rfl, rfl⟩ | exact ⟨rfl, rfl, rfl⟩ | (simp; done))) ?_ ?_
  · intro hc' k hk
    have hrf : ∀ l, refOk (h ++ l) id xs.length = true := fun l => refOk_sz (hsd l)
    have q3 := rowI_len (dropI n (xs.take k))
    have hz : (dropI n (xs.take 0)).length = 0 := rfl
    exact .app hc (by simp only [Ab.leB_cons, Ab.leB_nil, Ab.ok_raw, Ab.ok_own, Ab.ok_ptr, Ab.ok_sub, Ab.okAll_nil, Ab.okAll_cons, Ab.refOk_app, Ab.refOk_app0, Ab.okB_zero, Ab.okB_succ, Ab.rowI_ok, Ab.rowB_ok, Ab.rowS_ok, Ab.rowU_ok, Ab.rowI_len, Ab.rowB_len, Ab.rowS_len, Ab.rowU_len, List.mem_cons, List.not_mem_nil, or_false, forall_eq, forall_eq_or_imp, List.forall_mem_cons, List.length_replicate, and_true, true_and, and_self, Nat.le_refl, Nat.zero_le, implies_true, List.length_set, List.length_append, List.length_cons, List.length_nil, List.length_map, Bool.and_true, Bool.true_and, Bool.and_self, decide_true, decide_eq_true_eq, hrf, q3, Nat.mul_one] <;> omega) (by simp only [Ab.leB_cons, Ab.leB_nil, Ab.ok_raw, Ab.ok_own, Ab.ok_ptr, Ab.ok_sub, Ab.okAll_nil, Ab.okAll_cons, Ab.refOk_app, Ab.refOk_app0, Ab.okB_zero, Ab.okB_succ, Ab.rowI_ok, Ab.rowB_ok, Ab.rowS_ok, Ab.rowU_ok, Ab.rowI_len, Ab.rowB_len, Ab.rowS_len, Ab.rowU_len, List.mem_cons, List.not_mem_nil, or_false, forall_eq, forall_eq_or_imp, List.forall_mem_cons, List.length_replicate, and_true, true_and, and_self, Nat.le_refl, Nat.zero_le, implies_true, List.length_set, List.length_append, List.length_cons, List.length_nil, List.length_map, Bool.and_true, Bool.true_and, Bool.and_self, decide_true, decide_eq_true_eq, hrf, q3, hz, Nat.mul_one] <;> omega) (by simp only [Ab.leB_cons, Ab.leB_nil, Ab.ok_raw, Ab.ok_own, Ab.ok_ptr, Ab.ok_sub, Ab.okAll_nil, Ab.okAll_cons, Ab.refOk_app, Ab.refOk_app0, Ab.okB_zero, Ab.okB_succ, Ab.rowI_ok, Ab.rowB_ok, Ab.rowS_ok, Ab.rowU_ok, Ab.rowI_len, Ab.rowB_len, Ab.rowS_len, Ab.rowU_len, List.mem_cons, List.not_mem_nil, or_false, forall_eq, forall_eq_or_imp, List.forall_mem_cons, List.length_replicate, and_true, true_and, and_self, Nat.le_refl, Nat.zero_le, implies_true, List.length_set, List.length_append, List.length_cons, List.length_nil, List.length_map, Bool.and_true, Bool.true_and, Bool.and_self, decide_true, decide_eq_true_eq, hrf, q3, Nat.mul_one] <;> omega)
  intro k hk _
  refine lw_run mixed ?_
  unfold L28b0 K28b0
  rcases Nat.lt_or_ge k xs.length with hlt | hge
  · obtain ⟨x, hx⟩ := some_at hlt
    have q3 := rowI_len (dropI n (xs.take k))
    have hdl : (dropI n (xs.take k)).length ≤ 1048576 := by
      have := dropI_le n (xs.take k); simp only [List.length_take] at this; omega
    by_cases hxn : x = n
    · subst hxn
      have e := dropI_skip hx
      repeat' (first | simp -implicitDefEqProofs only [Ab.R1, Ab.R2, Ab.R3, Ab.R4, Ab.R5, Ab.RH, Ab.RM, Ab.binV, Ab.binC, Nat.reduceLT, Nat.reduceBEq, Nat.reduceAdd, Nat.reduceMul, Nat.reduceEqDiff, Nat.reduceLeDiff, Nat.reduceSub, List.getElem?_cons_zero, List.getElem?_cons_succ, List.getElem?_nil, Option.getD_some, Option.getD_none, if_true, if_false, reduceIte, Option.map_some, Option.map_none, Option.bind_some, Option.bind_none, Option.isSome_some, List.map_cons, List.map_nil, AV.cells, List.length_cons, List.length_nil, List.all_cons, List.all_nil, AV.one, Value.oneCell', ne_eq, reduceCtorEq, Int.reduceNeg, Int.reduceEq, Int.reduceNe, Int.reduceAdd, Int.reduceSub, Int.reduceMul, Int.reduceLT, Int.reduceLE, Int.reduceToNat, List.drop_zero, List.take_zero, List.drop_succ_cons, List.take_succ_cons, List.nil_append, List.cons_append, List.append_nil, List.replicate_zero, List.flatten_nil, List.flatten_cons, List.reduceReplicate, ge_iff_le, gt_iff_lt, eq_self, Nat.add_assoc, facts, *, rowI_at] | simp (disch := omega) only [Ab.wrap_i64] | ((with_reducible refine Ab.gd_ndec (fun _ => ?_) (fun _ => ?_)) <;> try (exfalso; omega)) | ((with_reducible refine Ab.br_ndec (fun _ => ?_) (fun _ => ?_)) <;> try (exfalso; omega)) | ((with_reducible refine Ab.gd_dec (fun _ => ?_) (fun _ => ?_)) <;> try (exfalso; omega)) | ((with_reducible refine Ab.br_dec (fun _ => ?_) (fun _ => ?_)) <;> try (exfalso; omega)) | (with_reducible refine Ab.run_alt ?_ ?_) | (refine And.intro (by omega) ?_) | (refine gd_split (fun _ => ?_) (fun _ => ?_)) | (refine br_split (fun _ => ?_) (fun _ => ?_)) | omega)
      refine ⟨k + 1, [], by omega, by omega, ?_, ?_⟩
      · rw [e]; try simp
      · first | omega | rfl
    · have e := dropI_more hx hxn
      have hsn := rowI_snoc (dropI n (xs.take k)) x
      repeat' (first | simp -implicitDefEqProofs only [Ab.R1, Ab.R2, Ab.R3, Ab.R4, Ab.R5, Ab.RH, Ab.RM, Ab.binV, Ab.binC, Nat.reduceLT, Nat.reduceBEq, Nat.reduceAdd, Nat.reduceMul, Nat.reduceEqDiff, Nat.reduceLeDiff, Nat.reduceSub, List.getElem?_cons_zero, List.getElem?_cons_succ, List.getElem?_nil, Option.getD_some, Option.getD_none, if_true, if_false, reduceIte, Option.map_some, Option.map_none, Option.bind_some, Option.bind_none, Option.isSome_some, List.map_cons, List.map_nil, AV.cells, List.length_cons, List.length_nil, List.all_cons, List.all_nil, AV.one, Value.oneCell', ne_eq, reduceCtorEq, Int.reduceNeg, Int.reduceEq, Int.reduceNe, Int.reduceAdd, Int.reduceSub, Int.reduceMul, Int.reduceLT, Int.reduceLE, Int.reduceToNat, List.drop_zero, List.take_zero, List.drop_succ_cons, List.take_succ_cons, List.nil_append, List.cons_append, List.append_nil, List.replicate_zero, List.flatten_nil, List.flatten_cons, List.reduceReplicate, ge_iff_le, gt_iff_lt, eq_self, Nat.add_assoc, facts, *, rowI_at] | simp (disch := omega) only [Ab.wrap_i64] | ((with_reducible refine Ab.gd_ndec (fun _ => ?_) (fun _ => ?_)) <;> try (exfalso; omega)) | ((with_reducible refine Ab.br_ndec (fun _ => ?_) (fun _ => ?_)) <;> try (exfalso; omega)) | ((with_reducible refine Ab.gd_dec (fun _ => ?_) (fun _ => ?_)) <;> try (exfalso; omega)) | ((with_reducible refine Ab.br_dec (fun _ => ?_) (fun _ => ?_)) <;> try (exfalso; omega)) | (with_reducible refine Ab.run_alt ?_ ?_) | (refine And.intro (by omega) ?_) | (refine gd_split (fun _ => ?_) (fun _ => ?_)) | (refine br_split (fun _ => ?_) (fun _ => ?_)) | omega)
      refine ⟨k + 1, [⟨.row 3 1, [VI x]⟩], by omega, by omega, ?_, ?_⟩
      · rw [e, rowW_snoc]; (try simp); (try exact hsn.symm)
      · first | omega | rfl
  · obtain rfl : k = xs.length := by omega
    rw [List.take_length]
    have q3 := rowI_len (dropI n xs)
    have hdl := dropI_le n xs
    have hB : retB s xs n = (edB s xs && hasI xs n) := rfl
    cases e1 : edB s xs with
    | false =>
      rw [e1, Bool.false_and] at hB
      have hX : retX s xs n = xs := if_neg (by rw [hB]; decide)
      rw [hB, hX]
      rw [e1] at c1
      repeat' (first | simp -implicitDefEqProofs only [Ab.R1, Ab.R2, Ab.R3, Ab.R4, Ab.R5, Ab.RH, Ab.RM, Ab.binV, Ab.binC, Nat.reduceLT, Nat.reduceBEq, Nat.reduceAdd, Nat.reduceMul, Nat.reduceEqDiff, Nat.reduceLeDiff, Nat.reduceSub, List.getElem?_cons_zero, List.getElem?_cons_succ, List.getElem?_nil, Option.getD_some, Option.getD_none, if_true, if_false, reduceIte, Option.map_some, Option.map_none, Option.bind_some, Option.bind_none, Option.isSome_some, List.map_cons, List.map_nil, AV.cells, List.length_cons, List.length_nil, List.all_cons, List.all_nil, AV.one, Value.oneCell', ne_eq, reduceCtorEq, Int.reduceNeg, Int.reduceEq, Int.reduceNe, Int.reduceAdd, Int.reduceSub, Int.reduceMul, Int.reduceLT, Int.reduceLE, Int.reduceToNat, List.drop_zero, List.take_zero, List.drop_succ_cons, List.take_succ_cons, List.nil_append, List.cons_append, List.append_nil, List.replicate_zero, List.flatten_nil, List.flatten_cons, List.reduceReplicate, ge_iff_le, gt_iff_lt, eq_self, Nat.add_assoc, facts, *] | simp (disch := omega) only [Ab.wrap_i64] | ((with_reducible refine Ab.gd_ndec (fun _ => ?_) (fun _ => ?_)) <;> try (exfalso; omega)) | ((with_reducible refine Ab.br_ndec (fun _ => ?_) (fun _ => ?_)) <;> try (exfalso; omega)) | ((with_reducible refine Ab.gd_dec (fun _ => ?_) (fun _ => ?_)) <;> try (exfalso; omega)) | ((with_reducible refine Ab.br_dec (fun _ => ?_) (fun _ => ?_)) <;> try (exfalso; omega)) | (with_reducible refine Ab.run_alt ?_ ?_) | (refine And.intro (by omega) ?_) | (refine gd_split (fun _ => ?_) (fun _ => ?_)) | (refine br_split (fun _ => ?_) (fun _ => ?_)) | (refine cl_same (c1 _ (hrd _)) ?_) | (refine cl_more ( cc _ (hrd _)) ?_) | omega)
      all_goals first | exact ⟨_, _, rfl, rfl, rfl⟩
    | true =>
      rw [e1, Bool.true_and] at hB
      rw [e1] at c1
      cases e2 : hasI xs n with
      | false =>
        rw [e2] at hB
        have hX : retX s xs n = xs := if_neg (by rw [hB]; decide)
        rw [hB, hX]
        have hlen : (dropI n xs).length ≥ xs.length := by rw [dropI_none e2]; exact Nat.le_refl _
        repeat' (first | simp -implicitDefEqProofs only [Ab.R1, Ab.R2, Ab.R3, Ab.R4, Ab.R5, Ab.RH, Ab.RM, Ab.binV, Ab.binC, Nat.reduceLT, Nat.reduceBEq, Nat.reduceAdd, Nat.reduceMul, Nat.reduceEqDiff, Nat.reduceLeDiff, Nat.reduceSub, List.getElem?_cons_zero, List.getElem?_cons_succ, List.getElem?_nil, Option.getD_some, Option.getD_none, if_true, if_false, reduceIte, Option.map_some, Option.map_none, Option.bind_some, Option.bind_none, Option.isSome_some, List.map_cons, List.map_nil, AV.cells, List.length_cons, List.length_nil, List.all_cons, List.all_nil, AV.one, Value.oneCell', ne_eq, reduceCtorEq, Int.reduceNeg, Int.reduceEq, Int.reduceNe, Int.reduceAdd, Int.reduceSub, Int.reduceMul, Int.reduceLT, Int.reduceLE, Int.reduceToNat, List.drop_zero, List.take_zero, List.drop_succ_cons, List.take_succ_cons, List.nil_append, List.cons_append, List.append_nil, List.replicate_zero, List.flatten_nil, List.flatten_cons, List.reduceReplicate, ge_iff_le, gt_iff_lt, eq_self, Nat.add_assoc, facts, *] | simp (disch := omega) only [Ab.wrap_i64] | ((with_reducible refine Ab.gd_ndec (fun _ => ?_) (fun _ => ?_)) <;> try (exfalso; omega)) | ((with_reducible refine Ab.br_ndec (fun _ => ?_) (fun _ => ?_)) <;> try (exfalso; omega)) | ((with_reducible refine Ab.gd_dec (fun _ => ?_) (fun _ => ?_)) <;> try (exfalso; omega)) | ((with_reducible refine Ab.br_dec (fun _ => ?_) (fun _ => ?_)) <;> try (exfalso; omega)) | (with_reducible refine Ab.run_alt ?_ ?_) | (refine And.intro (by omega) ?_) | (refine gd_split (fun _ => ?_) (fun _ => ?_)) | (refine br_split (fun _ => ?_) (fun _ => ?_)) | (refine cl_same (c1 _ (hrd _)) ?_) | (refine cl_more ( cc _ (hrd _)) ?_) | omega)
        all_goals first | exact ⟨_, _, rfl, rfl, rfl⟩
      | true =>
        rw [e2] at hB
        have hX : retX s xs n = dropI n xs := if_pos hB
        rw [hB, hX]
        obtain ⟨j, hj, _, _, hl⟩ := dropI_at e2 (edB_spec e1).2.1
        have hlen : (dropI n xs).length < xs.length := by omega
        clear hl
        repeat' (first | simp -implicitDefEqProofs only [Ab.R1, Ab.R2, Ab.R3, Ab.R4, Ab.R5, Ab.RH, Ab.RM, Ab.binV, Ab.binC, Nat.reduceLT, Nat.reduceBEq, Nat.reduceAdd, Nat.reduceMul, Nat.reduceEqDiff, Nat.reduceLeDiff, Nat.reduceSub, List.getElem?_cons_zero, List.getElem?_cons_succ, List.getElem?_nil, Option.getD_some, Option.getD_none, if_true, if_false, reduceIte, Option.map_some, Option.map_none, Option.bind_some, Option.bind_none, Option.isSome_some, List.map_cons, List.map_nil, AV.cells, List.length_cons, List.length_nil, List.all_cons, List.all_nil, AV.one, Value.oneCell', ne_eq, reduceCtorEq, Int.reduceNeg, Int.reduceEq, Int.reduceNe, Int.reduceAdd, Int.reduceSub, Int.reduceMul, Int.reduceLT, Int.reduceLE, Int.reduceToNat, List.drop_zero, List.take_zero, List.drop_succ_cons, List.take_succ_cons, List.nil_append, List.cons_append, List.append_nil, List.replicate_zero, List.flatten_nil, List.flatten_cons, List.reduceReplicate, ge_iff_le, gt_iff_lt, eq_self, Nat.add_assoc, facts, *] | simp (disch := omega) only [Ab.wrap_i64] | ((with_reducible refine Ab.gd_ndec (fun _ => ?_) (fun _ => ?_)) <;> try (exfalso; omega)) | ((with_reducible refine Ab.br_ndec (fun _ => ?_) (fun _ => ?_)) <;> try (exfalso; omega)) | ((with_reducible refine Ab.gd_dec (fun _ => ?_) (fun _ => ?_)) <;> try (exfalso; omega)) | ((with_reducible refine Ab.br_dec (fun _ => ?_) (fun _ => ?_)) <;> try (exfalso; omega)) | (with_reducible refine Ab.run_alt ?_ ?_) | (refine And.intro (by omega) ?_) | (refine gd_split (fun _ => ?_) (fun _ => ?_)) | (refine br_split (fun _ => ?_) (fun _ => ?_)) | (refine cl_same (c1 _ (hrd _)) ?_) | (refine cl_more ( cc _ (hrd _)) ?_) | omega)
        all_goals first | exact ⟨_, _, rfl, rfl, rfl⟩

set_option maxHeartbeats 1000000 in
theorem implRet_ok (s : Int) (xs : List Int) (n : Int) (id : Nat) (hn : xs.length ≤ 1048576) (hx : ∀ x ∈ xs, int64 x) (h : Heap) (hr : rd h id xs.length = some (rowI xs)) :
    AC Try.prog 29 [edV s id xs.length, VI n] h fun r h' => r = resE s h.length (retX s xs n).length (retB s xs n) ∧ h' = h ++ [rowW (retX s xs n)] := by
  refine AC_row1x (fun i => resE s i (retX s xs n).length (retB s xs n)) (rowW (retX s xs n)) (fun _ _ => rfl) (by simp [AV.ok, okAll, refOk, csz, rowI_len]) (fun h => rowI_ok h _) (fun ρ => ren_rowI ρ _) ?_
  refine AC_go mixed ok29 (by simp) fun hc _ => ?_
  unfold L29
  have hrd : ∀ l, rd (h ++ l) id xs.length = some (rowI xs) := fun l => rd_old hr l
  have hsd : ∀ l, sz (h ++ l) id = some xs.length := fun l => sz_old hr l
  have c1 := fun H hH => implEd_ok s xs id (by omega) hx H hH
  have q1 := rowI_len xs
  have cc := fun H hH => clone_ok id xs.length (rowI xs) hn H hH
  have ci := fun i H hH => index_ok xs n i (by omega) H hH
  have hB : retB s xs n = (edB s xs && hasI xs n) := rfl
  cases e1 : edB s xs with
  | false =>
    rw [e1, Bool.false_and] at hB
    have hX : retX s xs n = xs := if_neg (by rw [hB]; decide)
    rw [hB, hX]
    rw [e1] at c1
    generalize idxI xs n = ix at ci
    repeat' (first | simp -implicitDefEqProofs only [Ab.R1, Ab.R2, Ab.R3, Ab.R4, Ab.R5, Ab.RH, Ab.RM, Ab.binV, Ab.binC, Nat.reduceLT, Nat.reduceBEq, Nat.reduceAdd, Nat.reduceMul, Nat.reduceEqDiff, Nat.reduceLeDiff, Nat.reduceSub, List.getElem?_cons_zero, List.getElem?_cons_succ, List.getElem?_nil, Option.getD_some, Option.getD_none, if_true, if_false, reduceIte, Option.map_some, Option.map_none, Option.bind_some, Option.bind_none, Option.isSome_some, List.map_cons, List.map_nil, AV.cells, List.length_cons, List.length_nil, List.all_cons, List.all_nil, AV.one, Value.oneCell', ne_eq, reduceCtorEq, Int.reduceNeg, Int.reduceEq, Int.reduceNe, Int.reduceAdd, Int.reduceSub, Int.reduceMul, Int.reduceLT, Int.reduceLE, Int.reduceToNat, List.drop_zero, List.take_zero, List.drop_succ_cons, List.take_succ_cons, List.nil_append, List.cons_append, List.append_nil, List.replicate_zero, List.flatten_nil, List.flatten_cons, List.reduceReplicate, ge_iff_le, gt_iff_lt, eq_self, Nat.add_assoc, facts, *] | simp (disch := omega) only [Ab.wrap_i64] | ((with_reducible refine Ab.gd_ndec (fun _ => ?_) (fun _ => ?_)) <;> try (exfalso; omega)) | ((with_reducible refine Ab.br_ndec (fun _ => ?_) (fun _ => ?_)) <;> try (exfalso; omega)) | ((with_reducible refine Ab.gd_dec (fun _ => ?_) (fun _ => ?_)) <;> try (exfalso; omega)) | ((with_reducible refine Ab.br_dec (fun _ => ?_) (fun _ => ?_)) <;> try (exfalso; omega)) | (with_reducible refine Ab.run_alt ?_ ?_) | (refine And.intro (by omega) ?_) | (refine gd_split (fun _ => ?_) (fun _ => ?_)) | (refine br_split (fun _ => ?_) (fun _ => ?_)) | (refine cl_more ( cc _ (hrd _)) ?_) | (refine cl_same (c1 _ (hrd _)) ?_) | (refine cl_same (ci _ _ (by simp -implicitDefEqProofs only [Ab.app_assoc, Ab.len_app, Ab.sz_newk, Ab.sz_new0, Ab.rd_newk, Ab.rd_new0, Ab.wr_newk, Ab.wr_new0, Ab.set_newk, Ab.set_new0, Ab.sz_cons, Ab.sz_row0, Ab.sz_ro0, Ab.rd_cons, Ab.rd_row, Ab.rd_ro0, Ab.wr_cons, Ab.wr_row, Ab.set_cons_zero, Ab.set_cons_succ, Ab.rowI_len, Ab.rowB_len, Ab.rowS_len, Ab.rowU_len, Nat.add_assoc, List.cons_append, List.nil_append, List.append_nil, List.length_cons, List.length_nil, Nat.reduceAdd, Nat.reduceSub, Nat.reduceEqDiff, Nat.zero_add, Nat.add_zero, Nat.mul_one, Nat.one_mul, if_true, if_false, reduceIte, reduceCtorEq, eq_self, q1])) ?_) | (refine cl_same (with_ok _ _ _ _ _ _) ?_) | omega)
    all_goals first | exact ⟨_, _, rfl, rfl, rfl⟩
  | true =>
    rw [e1, Bool.true_and] at hB
    rw [e1] at c1
    cases e2 : hasI xs n with
    | false =>
      rw [e2] at hB
      have hX : retX s xs n = xs := if_neg (by rw [hB]; decide)
      rw [hB, hX]
      rw [idxI_no e2] at ci
      repeat' (first | simp -implicitDefEqProofs only [Ab.R1, Ab.R2, Ab.R3, Ab.R4, Ab.R5, Ab.RH, Ab.RM, Ab.binV, Ab.binC, Nat.reduceLT, Nat.reduceBEq, Nat.reduceAdd, Nat.reduceMul, Nat.reduceEqDiff, Nat.reduceLeDiff, Nat.reduceSub, List.getElem?_cons_zero, List.getElem?_cons_succ, List.getElem?_nil, Option.getD_some, Option.getD_none, if_true, if_false, reduceIte, Option.map_some, Option.map_none, Option.bind_some, Option.bind_none, Option.isSome_some, List.map_cons, List.map_nil, AV.cells, List.length_cons, List.length_nil, List.all_cons, List.all_nil, AV.one, Value.oneCell', ne_eq, reduceCtorEq, Int.reduceNeg, Int.reduceEq, Int.reduceNe, Int.reduceAdd, Int.reduceSub, Int.reduceMul, Int.reduceLT, Int.reduceLE, Int.reduceToNat, List.drop_zero, List.take_zero, List.drop_succ_cons, List.take_succ_cons, List.nil_append, List.cons_append, List.append_nil, List.replicate_zero, List.flatten_nil, List.flatten_cons, List.reduceReplicate, ge_iff_le, gt_iff_lt, eq_self, Nat.add_assoc, facts, *] | simp (disch := omega) only [Ab.wrap_i64] | ((with_reducible refine Ab.gd_ndec (fun _ => ?_) (fun _ => ?_)) <;> try (exfalso; omega)) | ((with_reducible refine Ab.br_ndec (fun _ => ?_) (fun _ => ?_)) <;> try (exfalso; omega)) | ((with_reducible refine Ab.gd_dec (fun _ => ?_) (fun _ => ?_)) <;> try (exfalso; omega)) | ((with_reducible refine Ab.br_dec (fun _ => ?_) (fun _ => ?_)) <;> try (exfalso; omega)) | (with_reducible refine Ab.run_alt ?_ ?_) | (refine And.intro (by omega) ?_) | (refine gd_split (fun _ => ?_) (fun _ => ?_)) | (refine br_split (fun _ => ?_) (fun _ => ?_)) | (refine cl_more ( cc _ (hrd _)) ?_) | (refine cl_same (c1 _ (hrd _)) ?_) | (refine cl_same (ci _ _ (by simp -implicitDefEqProofs only [Ab.app_assoc, Ab.len_app, Ab.sz_newk, Ab.sz_new0, Ab.rd_newk, Ab.rd_new0, Ab.wr_newk, Ab.wr_new0, Ab.set_newk, Ab.set_new0, Ab.sz_cons, Ab.sz_row0, Ab.sz_ro0, Ab.rd_cons, Ab.rd_row, Ab.rd_ro0, Ab.wr_cons, Ab.wr_row, Ab.set_cons_zero, Ab.set_cons_succ, Ab.rowI_len, Ab.rowB_len, Ab.rowS_len, Ab.rowU_len, Nat.add_assoc, List.cons_append, List.nil_append, List.append_nil, List.length_cons, List.length_nil, Nat.reduceAdd, Nat.reduceSub, Nat.reduceEqDiff, Nat.zero_add, Nat.add_zero, Nat.mul_one, Nat.one_mul, if_true, if_false, reduceIte, reduceCtorEq, eq_self, q1])) ?_) | (refine cl_same (with_ok _ _ _ _ _ _) ?_) | omega)
      all_goals first | exact ⟨_, _, rfl, rfl, rfl⟩
    | true =>
      rw [e2] at hB
      have hX : retX s xs n = dropI n xs := if_pos hB
      rw [hB, hX]
      obtain ⟨k, hk, e3, e4, e5⟩ := dropI_at e2 (edB_spec e1).2.1
      rw [e3] at ci
      have cd := fun i H hH => delete_ok xs k i hk H hH
      rw [e4] at cd
      rw [← e5] at cd
      clear e3 e4 e5
      repeat' (first | simp -implicitDefEqProofs only [Ab.R1, Ab.R2, Ab.R3, Ab.R4, Ab.R5, Ab.RH, Ab.RM, Ab.binV, Ab.binC, Nat.reduceLT, Nat.reduceBEq, Nat.reduceAdd, Nat.reduceMul, Nat.reduceEqDiff, Nat.reduceLeDiff, Nat.reduceSub, List.getElem?_cons_zero, List.getElem?_cons_succ, List.getElem?_nil, Option.getD_some, Option.getD_none, if_true, if_false, reduceIte, Option.map_some, Option.map_none, Option.bind_some, Option.bind_none, Option.isSome_some, List.map_cons, List.map_nil, AV.cells, List.length_cons, List.length_nil, List.all_cons, List.all_nil, AV.one, Value.oneCell', ne_eq, reduceCtorEq, Int.reduceNeg, Int.reduceEq, Int.reduceNe, Int.reduceAdd, Int.reduceSub, Int.reduceMul, Int.reduceLT, Int.reduceLE, Int.reduceToNat, List.drop_zero, List.take_zero, List.drop_succ_cons, List.take_succ_cons, List.nil_append, List.cons_append, List.append_nil, List.replicate_zero, List.flatten_nil, List.flatten_cons, List.reduceReplicate, ge_iff_le, gt_iff_lt, eq_self, Nat.add_assoc, facts, *] | simp (disch := omega) only [Ab.wrap_i64] | ((with_reducible refine Ab.gd_ndec (fun _ => ?_) (fun _ => ?_)) <;> try (exfalso; omega)) | ((with_reducible refine Ab.br_ndec (fun _ => ?_) (fun _ => ?_)) <;> try (exfalso; omega)) | ((with_reducible refine Ab.gd_dec (fun _ => ?_) (fun _ => ?_)) <;> try (exfalso; omega)) | ((with_reducible refine Ab.br_dec (fun _ => ?_) (fun _ => ?_)) <;> try (exfalso; omega)) | (with_reducible refine Ab.run_alt ?_ ?_) | (refine And.intro (by omega) ?_) | (refine gd_split (fun _ => ?_) (fun _ => ?_)) | (refine br_split (fun _ => ?_) (fun _ => ?_)) | (refine cl_more ( cc _ (hrd _)) ?_) | (refine cl_same (c1 _ (hrd _)) ?_) | (refine cl_same (ci _ _ (by simp -implicitDefEqProofs only [Ab.app_assoc, Ab.len_app, Ab.sz_newk, Ab.sz_new0, Ab.rd_newk, Ab.rd_new0, Ab.wr_newk, Ab.wr_new0, Ab.set_newk, Ab.set_new0, Ab.sz_cons, Ab.sz_row0, Ab.sz_ro0, Ab.rd_cons, Ab.rd_row, Ab.rd_ro0, Ab.wr_cons, Ab.wr_row, Ab.set_cons_zero, Ab.set_cons_succ, Ab.rowI_len, Ab.rowB_len, Ab.rowS_len, Ab.rowU_len, Nat.add_assoc, List.cons_append, List.nil_append, List.append_nil, List.length_cons, List.length_nil, Nat.reduceAdd, Nat.reduceSub, Nat.reduceEqDiff, Nat.zero_add, Nat.add_zero, Nat.mul_one, Nat.one_mul, if_true, if_false, reduceIte, reduceCtorEq, eq_self, q1])) ?_) | ( refine cl_cut (cd _ _ (by rw [get_new]; rfl)) (fun _ => by simp -implicitDefEqProofs only [Ab.R1, Ab.R2, Ab.R3, Ab.R4, Ab.R5, Ab.RH, Ab.RM, Ab.binV, Ab.binC, Nat.reduceLT, Nat.reduceBEq, Nat.reduceAdd, Nat.reduceMul, Nat.reduceEqDiff, Nat.reduceLeDiff, Nat.reduceSub, List.getElem?_cons_zero, List.getElem?_cons_succ, List.getElem?_nil, Option.getD_some, Option.getD_none, if_true, if_false, reduceIte, Option.map_some, Option.map_none, Option.bind_some, Option.bind_none, Option.isSome_some, List.map_cons, List.map_nil, AV.cells, List.length_cons, List.length_nil, List.all_cons, List.all_nil, AV.one, Value.oneCell', ne_eq, reduceCtorEq, Int.reduceNeg, Int.reduceEq, Int.reduceNe, Int.reduceAdd, Int.reduceSub, Int.reduceMul, Int.reduceLT, Int.reduceLE, Int.reduceToNat, List.drop_zero, List.take_zero, List.drop_succ_cons, List.take_succ_cons, List.nil_append, List.cons_append, List.append_nil, List.replicate_zero, List.flatten_nil, List.flatten_cons, List.reduceReplicate, ge_iff_le, gt_iff_lt, eq_self, Nat.add_assoc, facts, *] <;> omega) ?_) | (refine cl_same (with_ok _ _ _ _ _ _) ?_) | omega)
      all_goals first | exact ⟨_, _, rfl, rfl, rfl⟩

set_option maxHeartbeats 2000000 in
theorem lawRet_ok (p : Int) (xs : List Int) (n : Int) (id : Nat) (hm : xs.length ≤ maxLen) (hx : ∀ x ∈ xs, int64 x) (h : Heap) (hr : rd h id xs.length = some (rowI xs)) :
    AC Try.prog 6 [edA p id xs.length, VI n] h fun r _ => r = VB true := by
  refine AC_go mixed ok6 (by simp) fun hc _ => ?_
  unfold L6
  unfold maxLen at hm
  have hrd : ∀ l, rd (h ++ l) id xs.length = some (rowI xs) := fun l => rd_old hr l
  have hsd : ∀ l, sz (h ++ l) id = some xs.length := fun l => sz_old hr l
  have hsz := fun H hH => szEd_ok p id xs.length H hH (by omega)
  have q1 := rowI_len xs
  by_cases hn : xs.length ≤ 1048576
  · rw [if_pos hn] at hsz
    have hs1 := specRet_ok p xs n
    have hs2 := implRet_ok p xs n
    have hX := retX_le p xs n
    generalize retX p xs n = X at hs1 hs2 hX
    generalize retB p xs n = b at hs1 hs2
    have q2 := rowI_len X
    have q3 := iotaI_len 1 X.length
    have q4 := iotaI_len 1 xs.length
    have hbb := bNe (rfl : b = b)
    repeat' (first | simp -implicitDefEqProofs only [Ab.R1, Ab.R2, Ab.R3, Ab.R4, Ab.R5, Ab.RH, Ab.RM, Ab.binV, Ab.binC, Nat.reduceLT, Nat.reduceBEq, Nat.reduceAdd, Nat.reduceMul, Nat.reduceEqDiff, Nat.reduceLeDiff, Nat.reduceSub, List.getElem?_cons_zero, List.getElem?_cons_succ, List.getElem?_nil, Option.getD_some, Option.getD_none, if_true, if_false, reduceIte, Option.map_some, Option.map_none, Option.bind_some, Option.bind_none, Option.isSome_some, List.map_cons, List.map_nil, AV.cells, List.length_cons, List.length_nil, List.all_cons, List.all_nil, AV.one, Value.oneCell', ne_eq, reduceCtorEq, Int.reduceNeg, Int.reduceEq, Int.reduceNe, Int.reduceAdd, Int.reduceSub, Int.reduceMul, Int.reduceLT, Int.reduceLE, Int.reduceToNat, List.drop_zero, List.take_zero, List.drop_succ_cons, List.take_succ_cons, List.nil_append, List.cons_append, List.append_nil, List.replicate_zero, List.flatten_nil, List.flatten_cons, List.reduceReplicate, ge_iff_le, gt_iff_lt, eq_self, Nat.add_assoc, facts, *, rd_cons1, rd_cons2, rd_cons3, sz_cons1, sz_cons2, sz_cons3, wr_cons1, wr_cons2, wr_cons3, set_cons1, set_cons2, set_cons3, iotaI_len] | simp (disch := omega) only [Ab.wrap_i64] | ((with_reducible refine Ab.gd_ndec (fun _ => ?_) (fun _ => ?_)) <;> try (exfalso; omega)) | ((with_reducible refine Ab.br_ndec (fun _ => ?_) (fun _ => ?_)) <;> try (exfalso; omega)) | ((with_reducible refine Ab.gd_dec (fun _ => ?_) (fun _ => ?_)) <;> try (exfalso; omega)) | ((with_reducible refine Ab.br_dec (fun _ => ?_) (fun _ => ?_)) <;> try (exfalso; omega)) | (with_reducible refine Ab.run_alt ?_ ?_) | (refine And.intro (by omega) ?_) | (refine gd_split (fun _ => ?_) (fun _ => ?_)) | (refine br_split (fun _ => ?_) (fun _ => ?_)) | (refine cl_same (hsz _ (hsd _)) ?_) | (refine cl_more ( toEd_ok p xs id hn _ (hrd _)) ?_) | (refine cl_more ( hs1 _ (by omega) _ (by simp -implicitDefEqProofs only [Ab.app_assoc, Ab.len_app, Ab.sz_newk, Ab.sz_new0, Ab.rd_newk, Ab.rd_new0, Ab.wr_newk, Ab.wr_new0, Ab.set_newk, Ab.set_new0, Ab.sz_cons, Ab.sz_row0, Ab.sz_ro0, Ab.rd_cons, Ab.rd_row, Ab.rd_ro0, Ab.wr_cons, Ab.wr_row, Ab.set_cons_zero, Ab.set_cons_succ, Ab.rowI_len, Ab.rowB_len, Ab.rowS_len, Ab.rowU_len, Nat.add_assoc, List.cons_append, List.nil_append, List.append_nil, List.length_cons, List.length_nil, Nat.reduceAdd, Nat.reduceSub, Nat.reduceEqDiff, Nat.zero_add, Nat.add_zero, Nat.mul_one, Nat.one_mul, if_true, if_false, reduceIte, reduceCtorEq, eq_self, q1, rd_cons1, rd_cons2, rd_cons3, sz_cons1, sz_cons2, sz_cons3, wr_cons1, wr_cons2, wr_cons3, set_cons1, set_cons2, set_cons3])) ?_) | (refine cl_more ( hs2 _ (by omega) hx _ (by simp -implicitDefEqProofs only [Ab.app_assoc, Ab.len_app, Ab.sz_newk, Ab.sz_new0, Ab.rd_newk, Ab.rd_new0, Ab.wr_newk, Ab.wr_new0, Ab.set_newk, Ab.set_new0, Ab.sz_cons, Ab.sz_row0, Ab.sz_ro0, Ab.rd_cons, Ab.rd_row, Ab.rd_ro0, Ab.wr_cons, Ab.wr_row, Ab.set_cons_zero, Ab.set_cons_succ, Ab.rowI_len, Ab.rowB_len, Ab.rowS_len, Ab.rowU_len, Nat.add_assoc, List.cons_append, List.nil_append, List.append_nil, List.length_cons, List.length_nil, Nat.reduceAdd, Nat.reduceSub, Nat.reduceEqDiff, Nat.zero_add, Nat.add_zero, Nat.mul_one, Nat.one_mul, if_true, if_false, reduceIte, reduceCtorEq, eq_self, q1, rd_cons1, rd_cons2, rd_cons3, sz_cons1, sz_cons2, sz_cons3, wr_cons1, wr_cons2, wr_cons3, set_cons1, set_cons2, set_cons3])) ?_) | (refine cl_same (eqEd_ok p p xs xs _ _ (by omega) _ (by simp -implicitDefEqProofs only [Ab.app_assoc, Ab.len_app, Ab.sz_newk, Ab.sz_new0, Ab.rd_newk, Ab.rd_new0, Ab.wr_newk, Ab.wr_new0, Ab.set_newk, Ab.set_new0, Ab.sz_cons, Ab.sz_row0, Ab.sz_ro0, Ab.rd_cons, Ab.rd_row, Ab.rd_ro0, Ab.wr_cons, Ab.wr_row, Ab.set_cons_zero, Ab.set_cons_succ, Ab.rowI_len, Ab.rowB_len, Ab.rowS_len, Ab.rowU_len, Nat.add_assoc, List.cons_append, List.nil_append, List.append_nil, List.length_cons, List.length_nil, Nat.reduceAdd, Nat.reduceSub, Nat.reduceEqDiff, Nat.zero_add, Nat.add_zero, Nat.mul_one, Nat.one_mul, if_true, if_false, reduceIte, reduceCtorEq, eq_self, q1, rd_cons1, rd_cons2, rd_cons3, sz_cons1, sz_cons2, sz_cons3, wr_cons1, wr_cons2, wr_cons3, set_cons1, set_cons2, set_cons3]) (by simp -implicitDefEqProofs only [Ab.app_assoc, Ab.len_app, Ab.sz_newk, Ab.sz_new0, Ab.rd_newk, Ab.rd_new0, Ab.wr_newk, Ab.wr_new0, Ab.set_newk, Ab.set_new0, Ab.sz_cons, Ab.sz_row0, Ab.sz_ro0, Ab.rd_cons, Ab.rd_row, Ab.rd_ro0, Ab.wr_cons, Ab.wr_row, Ab.set_cons_zero, Ab.set_cons_succ, Ab.rowI_len, Ab.rowB_len, Ab.rowS_len, Ab.rowU_len, Nat.add_assoc, List.cons_append, List.nil_append, List.append_nil, List.length_cons, List.length_nil, Nat.reduceAdd, Nat.reduceSub, Nat.reduceEqDiff, Nat.zero_add, Nat.add_zero, Nat.mul_one, Nat.one_mul, if_true, if_false, reduceIte, reduceCtorEq, eq_self, q1, rd_cons1, rd_cons2, rd_cons3, sz_cons1, sz_cons2, sz_cons3, wr_cons1, wr_cons2, wr_cons3, set_cons1, set_cons2, set_cons3])) ?_) | (refine cl_same (eqEd_ok p p X X _ _ (by omega) _ (by simp -implicitDefEqProofs only [Ab.app_assoc, Ab.len_app, Ab.sz_newk, Ab.sz_new0, Ab.rd_newk, Ab.rd_new0, Ab.wr_newk, Ab.wr_new0, Ab.set_newk, Ab.set_new0, Ab.sz_cons, Ab.sz_row0, Ab.sz_ro0, Ab.rd_cons, Ab.rd_row, Ab.rd_ro0, Ab.wr_cons, Ab.wr_row, Ab.set_cons_zero, Ab.set_cons_succ, Ab.rowI_len, Ab.rowB_len, Ab.rowS_len, Ab.rowU_len, Nat.add_assoc, List.cons_append, List.nil_append, List.append_nil, List.length_cons, List.length_nil, Nat.reduceAdd, Nat.reduceSub, Nat.reduceEqDiff, Nat.zero_add, Nat.add_zero, Nat.mul_one, Nat.one_mul, if_true, if_false, reduceIte, reduceCtorEq, eq_self, q2, rd_cons1, rd_cons2, rd_cons3, sz_cons1, sz_cons2, sz_cons3, wr_cons1, wr_cons2, wr_cons3, set_cons1, set_cons2, set_cons3]) (by simp -implicitDefEqProofs only [Ab.app_assoc, Ab.len_app, Ab.sz_newk, Ab.sz_new0, Ab.rd_newk, Ab.rd_new0, Ab.wr_newk, Ab.wr_new0, Ab.set_newk, Ab.set_new0, Ab.sz_cons, Ab.sz_row0, Ab.sz_ro0, Ab.rd_cons, Ab.rd_row, Ab.rd_ro0, Ab.wr_cons, Ab.wr_row, Ab.set_cons_zero, Ab.set_cons_succ, Ab.rowI_len, Ab.rowB_len, Ab.rowS_len, Ab.rowU_len, Nat.add_assoc, List.cons_append, List.nil_append, List.append_nil, List.length_cons, List.length_nil, Nat.reduceAdd, Nat.reduceSub, Nat.reduceEqDiff, Nat.zero_add, Nat.add_zero, Nat.mul_one, Nat.one_mul, if_true, if_false, reduceIte, reduceCtorEq, eq_self, q2, rd_cons1, rd_cons2, rd_cons3, sz_cons1, sz_cons2, sz_cons3, wr_cons1, wr_cons2, wr_cons3, set_cons1, set_cons2, set_cons3])) ?_) | (refine cl_use ( markEd_ok p xs _ 1 (by omega) (by omega) _ (by simp -implicitDefEqProofs only [Ab.app_assoc, Ab.len_app, Ab.sz_newk, Ab.sz_new0, Ab.rd_newk, Ab.rd_new0, Ab.wr_newk, Ab.wr_new0, Ab.set_newk, Ab.set_new0, Ab.sz_cons, Ab.sz_row0, Ab.sz_ro0, Ab.rd_cons, Ab.rd_row, Ab.rd_ro0, Ab.wr_cons, Ab.wr_row, Ab.set_cons_zero, Ab.set_cons_succ, Ab.rowI_len, Ab.rowB_len, Ab.rowS_len, Ab.rowU_len, Nat.add_assoc, List.cons_append, List.nil_append, List.append_nil, List.length_cons, List.length_nil, Nat.reduceAdd, Nat.reduceSub, Nat.reduceEqDiff, Nat.zero_add, Nat.add_zero, Nat.mul_one, Nat.one_mul, if_true, if_false, reduceIte, reduceCtorEq, eq_self, q1, rd_cons1, rd_cons2, rd_cons3, sz_cons1, sz_cons2, sz_cons3, wr_cons1, wr_cons2, wr_cons3, set_cons1, set_cons2, set_cons3])) (fun hd => by cases hd) ?_) | (refine cl_use ( markEd_ok p X _ 1 (by omega) (by omega) _ (by simp -implicitDefEqProofs only [Ab.app_assoc, Ab.len_app, Ab.sz_newk, Ab.sz_new0, Ab.rd_newk, Ab.rd_new0, Ab.wr_newk, Ab.wr_new0, Ab.set_newk, Ab.set_new0, Ab.sz_cons, Ab.sz_row0, Ab.sz_ro0, Ab.rd_cons, Ab.rd_row, Ab.rd_ro0, Ab.wr_cons, Ab.wr_row, Ab.set_cons_zero, Ab.set_cons_succ, Ab.rowI_len, Ab.rowB_len, Ab.rowS_len, Ab.rowU_len, Nat.add_assoc, List.cons_append, List.nil_append, List.append_nil, List.length_cons, List.length_nil, Nat.reduceAdd, Nat.reduceSub, Nat.reduceEqDiff, Nat.zero_add, Nat.add_zero, Nat.mul_one, Nat.one_mul, if_true, if_false, reduceIte, reduceCtorEq, eq_self, q2, rd_cons1, rd_cons2, rd_cons3, sz_cons1, sz_cons2, sz_cons3, wr_cons1, wr_cons2, wr_cons3, set_cons1, set_cons2, set_cons3])) (fun hd => by cases hd) ?_) | (refine cl_same (heldEd_ok p X.length _ 1 (by omega) (by omega) _ (by simp -implicitDefEqProofs only [Ab.app_assoc, Ab.len_app, Ab.sz_newk, Ab.sz_new0, Ab.rd_newk, Ab.rd_new0, Ab.wr_newk, Ab.wr_new0, Ab.set_newk, Ab.set_new0, Ab.sz_cons, Ab.sz_row0, Ab.sz_ro0, Ab.rd_cons, Ab.rd_row, Ab.rd_ro0, Ab.wr_cons, Ab.wr_row, Ab.set_cons_zero, Ab.set_cons_succ, Ab.rowI_len, Ab.rowB_len, Ab.rowS_len, Ab.rowU_len, Nat.add_assoc, List.cons_append, List.nil_append, List.append_nil, List.length_cons, List.length_nil, Nat.reduceAdd, Nat.reduceSub, Nat.reduceEqDiff, Nat.zero_add, Nat.add_zero, Nat.mul_one, Nat.one_mul, if_true, if_false, reduceIte, reduceCtorEq, eq_self, q3, rd_cons1, rd_cons2, rd_cons3, sz_cons1, sz_cons2, sz_cons3, wr_cons1, wr_cons2, wr_cons3, set_cons1, set_cons2, set_cons3])) ?_) | omega)
    all_goals simp_all
  · rw [if_neg hn] at hsz
    repeat' (first | simp -implicitDefEqProofs only [Ab.R1, Ab.R2, Ab.R3, Ab.R4, Ab.R5, Ab.RH, Ab.RM, Ab.binV, Ab.binC, Nat.reduceLT, Nat.reduceBEq, Nat.reduceAdd, Nat.reduceMul, Nat.reduceEqDiff, Nat.reduceLeDiff, Nat.reduceSub, List.getElem?_cons_zero, List.getElem?_cons_succ, List.getElem?_nil, Option.getD_some, Option.getD_none, if_true, if_false, reduceIte, Option.map_some, Option.map_none, Option.bind_some, Option.bind_none, Option.isSome_some, List.map_cons, List.map_nil, AV.cells, List.length_cons, List.length_nil, List.all_cons, List.all_nil, AV.one, Value.oneCell', ne_eq, reduceCtorEq, Int.reduceNeg, Int.reduceEq, Int.reduceNe, Int.reduceAdd, Int.reduceSub, Int.reduceMul, Int.reduceLT, Int.reduceLE, Int.reduceToNat, List.drop_zero, List.take_zero, List.drop_succ_cons, List.take_succ_cons, List.nil_append, List.cons_append, List.append_nil, List.replicate_zero, List.flatten_nil, List.flatten_cons, List.reduceReplicate, ge_iff_le, gt_iff_lt, eq_self, Nat.add_assoc, facts, *] | simp (disch := omega) only [Ab.wrap_i64] | ((with_reducible refine Ab.gd_ndec (fun _ => ?_) (fun _ => ?_)) <;> try (exfalso; omega)) | ((with_reducible refine Ab.br_ndec (fun _ => ?_) (fun _ => ?_)) <;> try (exfalso; omega)) | ((with_reducible refine Ab.gd_dec (fun _ => ?_) (fun _ => ?_)) <;> try (exfalso; omega)) | ((with_reducible refine Ab.br_dec (fun _ => ?_) (fun _ => ?_)) <;> try (exfalso; omega)) | (with_reducible refine Ab.run_alt ?_ ?_) | (refine And.intro (by omega) ?_) | (refine gd_split (fun _ => ?_) (fun _ => ?_)) | (refine br_split (fun _ => ?_) (fun _ => ?_)) | (refine cl_same (hsz _ (hsd _)) ?_) | omega)
end

section
open Go Go.Ab

def PE (n : Nat) (ps : List PT) (E : Heap) : Prop := E = outB (n + 1) ps.length :: inP ps
def ME (n m : Nat) : Heap := outB (n + 1) m :: inP (mkP m)
theorem PE.len {n : Nat} {ps : List PT} {E : Heap} (h : PE n ps E) : E.length = ps.length + 1 := by rw [h]; simp [inP_len]
theorem ME_len (n m : Nat) : (ME n m).length = m + 1 := by simp [ME, inP_len, mkP_len]
theorem np_of {n : Nat} {ps : List PT} (G l : Heap) (hG : G.length = n) : NP (G ++ ((outB (n + 1) ps.length :: inP ps) ++ l)) n (n + 1) ps := by
  subst hG
  have h1 : (G ++ [outB (G.length + 1) ps.length]).length = G.length + 1 := by simp
  have := NP_new (G ++ [outB (G.length + 1) ps.length]) l G.length ps fun l' => by
    rw [List.append_assoc, rd_new0, h1]
    simp [rd_row, oC_len]
  rw [h1, List.append_assoc] at this
  exact this
theorem PE.np {n : Nat} {ps : List PT} {E : Heap} (h : PE n ps E) (G l : Heap) (hG : G.length = n) : NP (G ++ (E ++ l)) n (n + 1) ps := by
  rw [h]; exact np_of G l hG
theorem ME.np {n m : Nat} (G l : Heap) (hG : G.length = n) : NP (G ++ (ME n m ++ l)) n (n + 1) (mkP m) := by
  have := np_of (ps := mkP m) G l hG
  rw [mkP_len] at this
  exact this
theorem PE.mark {n : Nat} {ps : List PT} {E : Heap} (h : PE n ps E) (hn : ps.length ≤ 1048576) (G l : Heap) (hG : G.length = n) :
    AC Try.prog 35 [.own n 1 ps.length, VI 1] (G ++ (E ++ l)) fun r h' => r = VI (1 + 2 * (ps.length : Int)) ∧ h' = G ++ (ME n ps.length ++ l) := by
  subst hG
  have h1 : (G ++ [outB (G.length + 1) ps.length]).length = G.length + 1 := by simp
  have := markIntSS_ok ps (G ++ [outB (G.length + 1) ps.length]) l G.length hn fun l' => by
    rw [List.append_assoc, rd_new0, h1]
    simp [rd_row, oC_len]
  rw [List.append_assoc, List.append_assoc] at this
  rw [h]
  exact this
theorem parts_ex {P : Program} {g : FuncId} {args : List AV} {H : Heap} {ps : List PT} (hc : AC P g args H fun r h' => r = .own H.length 1 ps.length ∧ h' = H ++ (outB (H.length + 1) ps.length :: inP ps)) :
    AC P g args H fun c h' => ∃ E, PE H.length ps E ∧ c = .own H.length 1 ps.length ∧ h' = H ++ E :=
  hc.mono fun c h' ⟨h1, h2⟩ => ⟨_, rfl, h1, h2⟩
theorem partL_le (s : Int) (xs : List Int) : (partL s xs).length ≤ 500 := by
  unfold partL
  split
  · rename_i h
    obtain ⟨⟨h1, h2⟩, _⟩ := edB_spec h
    have := partA_le xs s.toNat; omega
  · simp

set_option maxHeartbeats 2000000 in
theorem lawPart_ok (p : Int) (xs : List Int) (id : Nat) (hm : xs.length ≤ maxLen) (hx : ∀ x ∈ xs, int64 x) (h : Heap) (hr : rd h id xs.length = some (rowI xs)) :
    AC Try.prog 8 [edA p id xs.length] h fun r _ => r = VB true := by
  refine AC_go mixed ok8 (by simp) fun hc _ => ?_
  unfold L8
  unfold maxLen at hm
  have hrd : ∀ l, rd (h ++ l) id xs.length = some (rowI xs) := fun l => rd_old hr l
  have hsd : ∀ l, sz (h ++ l) id = some xs.length := fun l => sz_old hr l
  have hsz := fun H hH => szEd_ok p id xs.length H hH (by omega)
  have q1 := rowI_len xs
  by_cases hn : xs.length ≤ 1048576
  · rw [if_pos hn] at hsz
    have hs1 := specPart_ok p xs
    have hs2 := implPart_ok p xs
    have hX := partL_le p xs
    generalize partL p xs = X at hs1 hs2 hX
    have q4 := iotaI_len 1 xs.length
    have at_ : ∀ {n m : Nat} {E : Heap}, PE n X E → n = m → PE m X E := fun h e => e ▸ h
    have eqX := fun ida idb ba bb H ha hb => eqIntSS_ok X X ida idb ba bb (by omega) H ha hb
    simp only [decide_true] at eqX
    repeat' (first | simp -implicitDefEqProofs only [Ab.R1, Ab.R2, Ab.R3, Ab.R4, Ab.R5, Ab.RH, Ab.RM, Ab.binV, Ab.binC, Nat.reduceLT, Nat.reduceBEq, Nat.reduceAdd, Nat.reduceMul, Nat.reduceEqDiff, Nat.reduceLeDiff, Nat.reduceSub, List.getElem?_cons_zero, List.getElem?_cons_succ, List.getElem?_nil, Option.getD_some, Option.getD_none, if_true, if_false, reduceIte, Option.map_some, Option.map_none, Option.bind_some, Option.bind_none, Option.isSome_some, List.map_cons, List.map_nil, AV.cells, List.length_cons, List.length_nil, List.all_cons, List.all_nil, AV.one, Value.oneCell', ne_eq, reduceCtorEq, Int.reduceNeg, Int.reduceEq, Int.reduceNe, Int.reduceAdd, Int.reduceSub, Int.reduceMul, Int.reduceLT, Int.reduceLE, Int.reduceToNat, List.drop_zero, List.take_zero, List.drop_succ_cons, List.take_succ_cons, List.nil_append, List.cons_append, List.append_nil, List.replicate_zero, List.flatten_nil, List.flatten_cons, List.reduceReplicate, ge_iff_le, gt_iff_lt, eq_self, Nat.add_assoc, facts, *] | simp (disch := omega) only [Ab.wrap_i64] | ((with_reducible refine Ab.gd_ndec (fun _ => ?_) (fun _ => ?_)) <;> try (exfalso; omega)) | ((with_reducible refine Ab.br_ndec (fun _ => ?_) (fun _ => ?_)) <;> try (exfalso; omega)) | ((with_reducible refine Ab.gd_dec (fun _ => ?_) (fun _ => ?_)) <;> try (exfalso; omega)) | ((with_reducible refine Ab.br_dec (fun _ => ?_) (fun _ => ?_)) <;> try (exfalso; omega)) | (with_reducible refine Ab.run_alt ?_ ?_) | (refine And.intro (by omega) ?_) | (refine gd_split (fun _ => ?_) (fun _ => ?_)) | (refine br_split (fun _ => ?_) (fun _ => ?_)) | (refine cl_same (hsz _ (hsd _)) ?_) | (refine cl_more ( toEd_ok p xs id hn _ (hrd _)) ?_) | omega)
    refine cl_ex (parts_ex (hs1 _ hn _ ?_)) ?_
    · simp -implicitDefEqProofs only [Ab.app_assoc, Ab.len_app, Ab.sz_newk, Ab.sz_new0, Ab.rd_newk, Ab.rd_new0, Ab.wr_newk, Ab.wr_new0, Ab.set_newk, Ab.set_new0, Ab.sz_cons, Ab.sz_row0, Ab.sz_ro0, Ab.rd_cons, Ab.rd_row, Ab.rd_ro0, Ab.wr_cons, Ab.wr_row, Ab.set_cons_zero, Ab.set_cons_succ, Ab.rowI_len, Ab.rowB_len, Ab.rowS_len, Ab.rowU_len, Nat.add_assoc, List.cons_append, List.nil_append, List.append_nil, List.length_cons, List.length_nil, Nat.reduceAdd, Nat.reduceSub, Nat.reduceEqDiff, Nat.zero_add, Nat.add_zero, Nat.mul_one, Nat.one_mul, if_true, if_false, reduceIte, reduceCtorEq, eq_self, q1, rd_cons1, rd_cons2, rd_cons3, sz_cons1, sz_cons2, sz_cons3, wr_cons1, wr_cons2, wr_cons3, set_cons1, set_cons2, set_cons3]
    intro E1 hE1
    replace hE1 := at_ hE1 (m := h.length + 2) (by simp)
    have hN1 : ∀ r0 r1 l, NP (h ++ (r0 :: r1 :: (E1 ++ l))) (h.length + 2) (h.length + 2 + 1) X := fun r0 r1 l => by
      have := hE1.np (h ++ [r0, r1]) l (by simp)
      simpa only [List.append_assoc, List.cons_append, List.nil_append] using this
    repeat' (first | simp -implicitDefEqProofs only [Ab.R1, Ab.R2, Ab.R3, Ab.R4, Ab.R5, Ab.RH, Ab.RM, Ab.binV, Ab.binC, Nat.reduceLT, Nat.reduceBEq, Nat.reduceAdd, Nat.reduceMul, Nat.reduceEqDiff, Nat.reduceLeDiff, Nat.reduceSub, List.getElem?_cons_zero, List.getElem?_cons_succ, List.getElem?_nil, Option.getD_some, Option.getD_none, if_true, if_false, reduceIte, Option.map_some, Option.map_none, Option.bind_some, Option.bind_none, Option.isSome_some, List.map_cons, List.map_nil, AV.cells, List.length_cons, List.length_nil, List.all_cons, List.all_nil, AV.one, Value.oneCell', ne_eq, reduceCtorEq, Int.reduceNeg, Int.reduceEq, Int.reduceNe, Int.reduceAdd, Int.reduceSub, Int.reduceMul, Int.reduceLT, Int.reduceLE, Int.reduceToNat, List.drop_zero, List.take_zero, List.drop_succ_cons, List.take_succ_cons, List.nil_append, List.cons_append, List.append_nil, List.replicate_zero, List.flatten_nil, List.flatten_cons, List.reduceReplicate, ge_iff_le, gt_iff_lt, eq_self, Nat.add_assoc, facts, *] | simp (disch := omega) only [Ab.wrap_i64] | ((with_reducible refine Ab.gd_ndec (fun _ => ?_) (fun _ => ?_)) <;> try (exfalso; omega)) | ((with_reducible refine Ab.br_ndec (fun _ => ?_) (fun _ => ?_)) <;> try (exfalso; omega)) | ((with_reducible refine Ab.gd_dec (fun _ => ?_) (fun _ => ?_)) <;> try (exfalso; omega)) | ((with_reducible refine Ab.br_dec (fun _ => ?_) (fun _ => ?_)) <;> try (exfalso; omega)) | (with_reducible refine Ab.run_alt ?_ ?_) | (refine And.intro (by omega) ?_) | (refine gd_split (fun _ => ?_) (fun _ => ?_)) | (refine br_split (fun _ => ?_) (fun _ => ?_)) | (refine cl_more ( toEd_ok p xs id hn _ (hrd _)) ?_) | omega)
    refine cl_ex (parts_ex (hs2 _ hn hx _ ?_)) ?_
    · simp -implicitDefEqProofs only [Ab.app_assoc, Ab.len_app, Ab.sz_newk, Ab.sz_new0, Ab.rd_newk, Ab.rd_new0, Ab.wr_newk, Ab.wr_new0, Ab.set_newk, Ab.set_new0, Ab.sz_cons, Ab.sz_row0, Ab.sz_ro0, Ab.rd_cons, Ab.rd_row, Ab.rd_ro0, Ab.wr_cons, Ab.wr_row, Ab.set_cons_zero, Ab.set_cons_succ, Ab.rowI_len, Ab.rowB_len, Ab.rowS_len, Ab.rowU_len, Nat.add_assoc, List.cons_append, List.nil_append, List.append_nil, List.length_cons, List.length_nil, Nat.reduceAdd, Nat.reduceSub, Nat.reduceEqDiff, Nat.zero_add, Nat.add_zero, Nat.mul_one, Nat.one_mul, if_true, if_false, reduceIte, reduceCtorEq, eq_self, q1, rd_cons1, rd_cons2, rd_cons3, sz_cons1, sz_cons2, sz_cons3, wr_cons1, wr_cons2, wr_cons3, set_cons1, set_cons2, set_cons3]
    intro E2 hE2
    replace hE2 := at_ hE2 (m := h.length + (E1.length + 4)) (by simp; try omega)
    have hN2 : ∀ r0 r1 a b l, NP (h ++ (r0 :: r1 :: (E1 ++ (a :: b :: (E2 ++ l))))) (h.length + (E1.length + 4)) (h.length + (E1.length + 4) + 1) X := fun r0 r1 a b l => by
      have := hE2.np (h ++ (r0 :: r1 :: (E1 ++ [a, b]))) l (by simp; try omega)
      simpa only [List.append_assoc, List.cons_append, List.nil_append] using this
    have hN2z : ∀ r0 r1 a b, NP (h ++ (r0 :: r1 :: (E1 ++ (a :: b :: E2)))) (h.length + (E1.length + 4)) (h.length + (E1.length + 4) + 1) X := fun r0 r1 a b => by
      have := hN2 r0 r1 a b []
      simpa only [List.append_nil] using this
    have hM2 : ∀ r0 r1 a b l, AC Try.prog 35 [.own (h.length + (E1.length + 4)) 1 X.length, VI 1] (h ++ (r0 :: r1 :: (E1 ++ (a :: b :: (E2 ++ l))))) fun r h' => r = VI (1 + 2 * (X.length : Int)) ∧ h' = h ++ (r0 :: r1 :: (E1 ++ (a :: b :: (ME (h.length + (E1.length + 4)) X.length ++ l)))) := fun r0 r1 a b l => by
      have := hE2.mark (by omega) (h ++ (r0 :: r1 :: (E1 ++ [a, b]))) l (by simp; try omega)
      simpa only [List.append_assoc, List.cons_append, List.nil_append] using this
    have hN2m : ∀ r0 r1 a b l, NP (h ++ (r0 :: r1 :: (E1 ++ (a :: b :: (ME (h.length + (E1.length + 4)) X.length ++ l))))) (h.length + (E1.length + 4)) (h.length + (E1.length + 4) + 1) (mkP X.length) := fun r0 r1 a b l => by
      have := ME.np (n := h.length + (E1.length + 4)) (m := X.length) (h ++ (r0 :: r1 :: (E1 ++ [a, b]))) l (by simp; try omega)
      simpa only [List.append_assoc, List.cons_append, List.nil_append] using this
    have hLM := ME_len (h.length + (E1.length + 4)) X.length
    have hL2 := hE2.len
    generalize ME (h.length + (E1.length + 4)) X.length = M2 at hM2 hN2m hLM
    clear hL2 hLM
    repeat' (first | simp -implicitDefEqProofs only [Ab.R1, Ab.R2, Ab.R3, Ab.R4, Ab.R5, Ab.RH, Ab.RM, Ab.binV, Ab.binC, Nat.reduceLT, Nat.reduceBEq, Nat.reduceAdd, Nat.reduceMul, Nat.reduceEqDiff, Nat.reduceLeDiff, Nat.reduceSub, List.getElem?_cons_zero, List.getElem?_cons_succ, List.getElem?_nil, Option.getD_some, Option.getD_none, if_true, if_false, reduceIte, Option.map_some, Option.map_none, Option.bind_some, Option.bind_none, Option.isSome_some, List.map_cons, List.map_nil, AV.cells, List.length_cons, List.length_nil, List.all_cons, List.all_nil, AV.one, Value.oneCell', ne_eq, reduceCtorEq, Int.reduceNeg, Int.reduceEq, Int.reduceNe, Int.reduceAdd, Int.reduceSub, Int.reduceMul, Int.reduceLT, Int.reduceLE, Int.reduceToNat, List.drop_zero, List.take_zero, List.drop_succ_cons, List.take_succ_cons, List.nil_append, List.cons_append, List.append_nil, List.replicate_zero, List.flatten_nil, List.flatten_cons, List.reduceReplicate, ge_iff_le, gt_iff_lt, eq_self, Nat.add_assoc, facts, *, rd_cons1, rd_cons2, rd_cons3, sz_cons1, sz_cons2, sz_cons3, wr_cons1, wr_cons2, wr_cons3, set_cons1, set_cons2, set_cons3, iotaI_len] | simp (disch := omega) only [Ab.wrap_i64] | ((with_reducible refine Ab.gd_ndec (fun _ => ?_) (fun _ => ?_)) <;> try (exfalso; omega)) | ((with_reducible refine Ab.br_ndec (fun _ => ?_) (fun _ => ?_)) <;> try (exfalso; omega)) | ((with_reducible refine Ab.gd_dec (fun _ => ?_) (fun _ => ?_)) <;> try (exfalso; omega)) | ((with_reducible refine Ab.br_dec (fun _ => ?_) (fun _ => ?_)) <;> try (exfalso; omega)) | (with_reducible refine Ab.run_alt ?_ ?_) | (refine And.intro (by omega) ?_) | (refine gd_split (fun _ => ?_) (fun _ => ?_)) | (refine br_split (fun _ => ?_) (fun _ => ?_)) | (refine cl_same (eqX _ _ _ _ _ (hN2z _ _ _ _) (hN1 _ _ _)) ?_) | (refine cl_same (eqX _ _ _ _ _ (hN2 _ _ _ _ _) (hN1 _ _ _)) ?_) | (refine cl_more ( toEd_ok p xs id hn _ (hrd _)) ?_) | (refine cl_same (eqEd_ok p p xs xs _ _ (by omega) _ (by simp -implicitDefEqProofs only [Ab.app_assoc, Ab.len_app, Ab.sz_newk, Ab.sz_new0, Ab.rd_newk, Ab.rd_new0, Ab.wr_newk, Ab.wr_new0, Ab.set_newk, Ab.set_new0, Ab.sz_cons, Ab.sz_row0, Ab.sz_ro0, Ab.rd_cons, Ab.rd_row, Ab.rd_ro0, Ab.wr_cons, Ab.wr_row, Ab.set_cons_zero, Ab.set_cons_succ, Ab.rowI_len, Ab.rowB_len, Ab.rowS_len, Ab.rowU_len, Nat.add_assoc, List.cons_append, List.nil_append, List.append_nil, List.length_cons, List.length_nil, Nat.reduceAdd, Nat.reduceSub, Nat.reduceEqDiff, Nat.zero_add, Nat.add_zero, Nat.mul_one, Nat.one_mul, if_true, if_false, reduceIte, reduceCtorEq, eq_self, q1, rd_cons1, rd_cons2, rd_cons3, sz_cons1, sz_cons2, sz_cons3, wr_cons1, wr_cons2, wr_cons3, set_cons1, set_cons2, set_cons3]) (by simp -implicitDefEqProofs only [Ab.app_assoc, Ab.len_app, Ab.sz_newk, Ab.sz_new0, Ab.rd_newk, Ab.rd_new0, Ab.wr_newk, Ab.wr_new0, Ab.set_newk, Ab.set_new0, Ab.sz_cons, Ab.sz_row0, Ab.sz_ro0, Ab.rd_cons, Ab.rd_row, Ab.rd_ro0, Ab.wr_cons, Ab.wr_row, Ab.set_cons_zero, Ab.set_cons_succ, Ab.rowI_len, Ab.rowB_len, Ab.rowS_len, Ab.rowU_len, Nat.add_assoc, List.cons_append, List.nil_append, List.append_nil, List.length_cons, List.length_nil, Nat.reduceAdd, Nat.reduceSub, Nat.reduceEqDiff, Nat.zero_add, Nat.add_zero, Nat.mul_one, Nat.one_mul, if_true, if_false, reduceIte, reduceCtorEq, eq_self, q1, rd_cons1, rd_cons2, rd_cons3, sz_cons1, sz_cons2, sz_cons3, wr_cons1, wr_cons2, wr_cons3, set_cons1, set_cons2, set_cons3])) ?_) | (refine cl_use ( markEd_ok p xs _ 1 (by omega) (by omega) _ (by simp -implicitDefEqProofs only [Ab.app_assoc, Ab.len_app, Ab.sz_newk, Ab.sz_new0, Ab.rd_newk, Ab.rd_new0, Ab.wr_newk, Ab.wr_new0, Ab.set_newk, Ab.set_new0, Ab.sz_cons, Ab.sz_row0, Ab.sz_ro0, Ab.rd_cons, Ab.rd_row, Ab.rd_ro0, Ab.wr_cons, Ab.wr_row, Ab.set_cons_zero, Ab.set_cons_succ, Ab.rowI_len, Ab.rowB_len, Ab.rowS_len, Ab.rowU_len, Nat.add_assoc, List.cons_append, List.nil_append, List.append_nil, List.length_cons, List.length_nil, Nat.reduceAdd, Nat.reduceSub, Nat.reduceEqDiff, Nat.zero_add, Nat.add_zero, Nat.mul_one, Nat.one_mul, if_true, if_false, reduceIte, reduceCtorEq, eq_self, q1, rd_cons1, rd_cons2, rd_cons3, sz_cons1, sz_cons2, sz_cons3, wr_cons1, wr_cons2, wr_cons3, set_cons1, set_cons2, set_cons3])) (fun hd => by cases hd) ?_) | (refine cl_use ( hM2 _ _ _ _ _) (fun hd => by cases hd) ?_) | (refine cl_same (heldIntSS_ok X.length _ _ (by omega) _ (hN2m _ _ _ _ _)) ?_) | omega)
    refine cl_ex (parts_ex (hs2 _ hn hx _ ?_)) ?_
    · simp -implicitDefEqProofs only [Ab.app_assoc, Ab.len_app, Ab.sz_newk, Ab.sz_new0, Ab.rd_newk, Ab.rd_new0, Ab.wr_newk, Ab.wr_new0, Ab.set_newk, Ab.set_new0, Ab.sz_cons, Ab.sz_row0, Ab.sz_ro0, Ab.rd_cons, Ab.rd_row, Ab.rd_ro0, Ab.wr_cons, Ab.wr_row, Ab.set_cons_zero, Ab.set_cons_succ, Ab.rowI_len, Ab.rowB_len, Ab.rowS_len, Ab.rowU_len, Nat.add_assoc, List.cons_append, List.nil_append, List.append_nil, List.length_cons, List.length_nil, Nat.reduceAdd, Nat.reduceSub, Nat.reduceEqDiff, Nat.zero_add, Nat.add_zero, Nat.mul_one, Nat.one_mul, if_true, if_false, reduceIte, reduceCtorEq, eq_self, q1, rd_cons1, rd_cons2, rd_cons3, sz_cons1, sz_cons2, sz_cons3, wr_cons1, wr_cons2, wr_cons3, set_cons1, set_cons2, set_cons3]
    intro E3 hE3
    replace hE3 := at_ hE3 (m := h.length + (E1.length + (M2.length + 6))) (by simp; try omega)
    have hN3 : ∀ r0 r1 a b c d, NP (h ++ (r0 :: r1 :: (E1 ++ (a :: b :: (M2 ++ (c :: d :: E3)))))) (h.length + (E1.length + (M2.length + 6))) (h.length + (E1.length + (M2.length + 6)) + 1) X := fun r0 r1 a b c d => by
      have := hE3.np (h ++ (r0 :: r1 :: (E1 ++ (a :: b :: (M2 ++ [c, d]))))) [] (by simp; try omega)
      simpa only [List.append_assoc, List.cons_append, List.nil_append, List.append_nil] using this
    repeat' (first | simp -implicitDefEqProofs only [Ab.R1, Ab.R2, Ab.R3, Ab.R4, Ab.R5, Ab.RH, Ab.RM, Ab.binV, Ab.binC, Nat.reduceLT, Nat.reduceBEq, Nat.reduceAdd, Nat.reduceMul, Nat.reduceEqDiff, Nat.reduceLeDiff, Nat.reduceSub, List.getElem?_cons_zero, List.getElem?_cons_succ, List.getElem?_nil, Option.getD_some, Option.getD_none, if_true, if_false, reduceIte, Option.map_some, Option.map_none, Option.bind_some, Option.bind_none, Option.isSome_some, List.map_cons, List.map_nil, AV.cells, List.length_cons, List.length_nil, List.all_cons, List.all_nil, AV.one, Value.oneCell', ne_eq, reduceCtorEq, Int.reduceNeg, Int.reduceEq, Int.reduceNe, Int.reduceAdd, Int.reduceSub, Int.reduceMul, Int.reduceLT, Int.reduceLE, Int.reduceToNat, List.drop_zero, List.take_zero, List.drop_succ_cons, List.take_succ_cons, List.nil_append, List.cons_append, List.append_nil, List.replicate_zero, List.flatten_nil, List.flatten_cons, List.reduceReplicate, ge_iff_le, gt_iff_lt, eq_self, Nat.add_assoc, facts, *, rd_cons1, rd_cons2, rd_cons3, sz_cons1, sz_cons2, sz_cons3, wr_cons1, wr_cons2, wr_cons3, set_cons1, set_cons2, set_cons3, iotaI_len] | simp (disch := omega) only [Ab.wrap_i64] | ((with_reducible refine Ab.gd_ndec (fun _ => ?_) (fun _ => ?_)) <;> try (exfalso; omega)) | ((with_reducible refine Ab.br_ndec (fun _ => ?_) (fun _ => ?_)) <;> try (exfalso; omega)) | ((with_reducible refine Ab.gd_dec (fun _ => ?_) (fun _ => ?_)) <;> try (exfalso; omega)) | ((with_reducible refine Ab.br_dec (fun _ => ?_) (fun _ => ?_)) <;> try (exfalso; omega)) | (with_reducible refine Ab.run_alt ?_ ?_) | (refine And.intro (by omega) ?_) | (refine gd_split (fun _ => ?_) (fun _ => ?_)) | (refine br_split (fun _ => ?_) (fun _ => ?_)) | (refine cl_same (eqX _ _ _ _ _ (hN3 _ _ _ _ _ _) (hN1 _ _ _)) ?_) | (refine cl_same (heldIntSS_ok X.length _ _ (by omega) _ (hN2m _ _ _ _ _)) ?_) | omega)
    all_goals simp_all
  · rw [if_neg hn] at hsz
    repeat' (first | simp -implicitDefEqProofs only [Ab.R1, Ab.R2, Ab.R3, Ab.R4, Ab.R5, Ab.RH, Ab.RM, Ab.binV, Ab.binC, Nat.reduceLT, Nat.reduceBEq, Nat.reduceAdd, Nat.reduceMul, Nat.reduceEqDiff, Nat.reduceLeDiff, Nat.reduceSub, List.getElem?_cons_zero, List.getElem?_cons_succ, List.getElem?_nil, Option.getD_some, Option.getD_none, if_true, if_false, reduceIte, Option.map_some, Option.map_none, Option.bind_some, Option.bind_none, Option.isSome_some, List.map_cons, List.map_nil, AV.cells, List.length_cons, List.length_nil, List.all_cons, List.all_nil, AV.one, Value.oneCell', ne_eq, reduceCtorEq, Int.reduceNeg, Int.reduceEq, Int.reduceNe, Int.reduceAdd, Int.reduceSub, Int.reduceMul, Int.reduceLT, Int.reduceLE, Int.reduceToNat, List.drop_zero, List.take_zero, List.drop_succ_cons, List.take_succ_cons, List.nil_append, List.cons_append, List.append_nil, List.replicate_zero, List.flatten_nil, List.flatten_cons, List.reduceReplicate, ge_iff_le, gt_iff_lt, eq_self, Nat.add_assoc, facts, *] | simp (disch := omega) only [Ab.wrap_i64] | ((with_reducible refine Ab.gd_ndec (fun _ => ?_) (fun _ => ?_)) <;> try (exfalso; omega)) | ((with_reducible refine Ab.br_ndec (fun _ => ?_) (fun _ => ?_)) <;> try (exfalso; omega)) | ((with_reducible refine Ab.gd_dec (fun _ => ?_) (fun _ => ?_)) <;> try (exfalso; omega)) | ((with_reducible refine Ab.br_dec (fun _ => ?_) (fun _ => ?_)) <;> try (exfalso; omega)) | (with_reducible refine Ab.run_alt ?_ ?_) | (refine And.intro (by omega) ?_) | (refine gd_split (fun _ => ?_) (fun _ => ?_)) | (refine br_split (fun _ => ?_) (fun _ => ?_)) | (refine cl_same (hsz _ (hsd _)) ?_) | omega)
end

section
open Go Go.Ab

theorem free_sold (xs : List Int) : ∀ k, (freeGo xs k).length + (soldL xs k).length = k
  | 0 => rfl
  | k + 1 => by
    have ih := free_sold xs k
    by_cases g : hasI xs ((k + 1 : Nat) : Int) = true
    · rw [freeGo, soldL, if_pos g, if_pos g, List.length_append]; simp; omega
    · rw [freeGo, soldL, if_neg g, if_neg g, List.length_append]; simp; omega
theorem sold_len {s : Int} {xs : List Int} (h : edB s xs = true) : (soldL xs s.toNat).length = xs.length := by rw [← sortI_sold h, sortI_len]
theorem free_len {s : Int} {xs : List Int} (h : edB s xs = true) : ((freeL s xs).length : Int) + xs.length = s := by
  have h1 := free_sold xs s.toNat
  rw [sold_len h] at h1
  rw [freeL, if_pos h]
  have := (edB_spec h).1
  omega
theorem free_at {s : Int} {xs : List Int} (h : edB s xs = true) {x : Int} (hx : x ∈ freeL s xs) : 1 ≤ x ∧ x ≤ s ∧ x ∉ xs := by
  rw [freeL, if_pos h] at hx
  obtain ⟨h1, h2, h3⟩ := freeGo_mem.1 hx
  have := (edB_spec h).1
  exact ⟨h1, by omega, h3⟩
theorem free_sell {s : Int} {xs : List Int} (h : edB s xs = true) {x : Int} (hx : x ∈ freeL s xs) : edB s (xs ++ [x]) = true := by
  obtain ⟨h1, h2, h3⟩ := edB_spec h
  obtain ⟨h4, h5, h6⟩ := free_at h hx
  refine edB_of h1 ?_ fun y hy => ?_
  · rw [List.nodup_append]
    refine ⟨h2, by simp, fun a ha b hb => ?_⟩
    simp at hb; subst hb
    intro e; subst e; exact h6 ha
  · rcases List.mem_append.1 hy with hy | hy
    · exact h3 y hy
    · simp at hy; subst hy; exact ⟨h4, h5⟩
theorem sell_free {s : Int} {xs : List Int} (h : edB s xs = true) {x : Int} (hx : x ∈ freeL s xs) : sellB s xs x = true ∧ sellX s xs x = xs ++ [x] := by
  have hb : sellB s xs x = true := by rw [sellB, h, free_sell h hx]; rfl
  exact ⟨hb, if_pos hb⟩
theorem ret_free {s : Int} {xs : List Int} (h : edB s xs = true) {x : Int} (hx : x ∈ freeL s xs) : retB s (xs ++ [x]) x = true ∧ retX s (xs ++ [x]) x = xs := by
  have hb : retB s (xs ++ [x]) x = true := by rw [retB, free_sell h hx, hasI_iff.2 (by simp)]; rfl
  refine ⟨hb, ?_⟩
  rw [retX, if_pos hb]
  have h6 := hasI_not.2 (free_at h hx).2.2
  have := dropI_none h6
  unfold dropI at this ⊢
  rw [List.filter_append, this]
  simp
theorem sell_twice {s : Int} {xs : List Int} (x : Int) : sellB s (xs ++ [x]) x = false := by
  rw [sellB]
  cases h : edB s (xs ++ [x] ++ [x]) with
  | false => rw [Bool.and_false]
  | true =>
    have h2 := (edB_spec h).2.1
    rw [List.nodup_append] at h2
    exact absurd rfl (h2.2.2 x (by simp) x (by simp))
theorem ret_none {s : Int} {xs : List Int} (h : edB s xs = true) : retB s xs (s + 1) = false := by
  rw [retB, hasI_not.2 (fun hc => by have := (edB_spec h).2.2 _ hc; omega), Bool.and_false]
theorem ed_sell {s : Int} {xs : List Int} (n : Int) (h : edB s xs = true) : edB s (sellX s xs n) = true := by
  unfold sellX
  split
  · rename_i hb
    rw [sellB, Bool.and_eq_true] at hb
    exact hb.2
  · exact h
theorem ed_next {s : Int} {xs : List Int} (h : edB s xs = true) : edB s (nextX s xs) = true := by
  cases hf : freeL s xs with
  | nil => rw [(nextX_nil hf).1]; exact h
  | cons f fs => rw [(nextX_cons hf).1]; exact free_sell h (by rw [hf]; simp)
theorem ed_nil {s : Int} (h : 1 ≤ s ∧ s ≤ 500) : edB s [] = true := edB_of h (by simp) (by simp)
theorem ed64 {s : Int} {xs : List Int} (h : edB s xs = true) : ∀ x ∈ xs, int64 x := fun x hx => by
  obtain ⟨h1, _, h3⟩ := edB_spec h
  have := h3 x hx
  exact ⟨by omega, by omega⟩
end

section
open Go Go.Ab

def sumP : List PT → Int
  | [] => 0
  | p :: ps => (p.2 - p.1 + 1) + sumP ps
theorem sumP_snoc (ps : List PT) (p : PT) : sumP (ps ++ [p]) = sumP ps + (p.2 - p.1 + 1) := by
  induction ps with
  | nil => simp [sumP]
  | cons q ps ih => simp only [List.cons_append, sumP, ih]; omega
theorem sumP_more {ps : List PT} {k : Nat} {p : PT} (h : ps[k]? = some p) : sumP (ps.take (k + 1)) = sumP (ps.take k) + (p.2 - p.1 + 1) := by rw [take_snoc h, sumP_snoc]
structure GoodP (xs : List Int) (k : Nat) (ps : List PT) : Prop where
  apart : ps.Pairwise fun p q => p.2 + 1 < q.1
  each : ∀ p ∈ ps, p.1 ≤ p.2 ∧ p.2 ≤ k ∧ 1 ≤ p.1
  sum : sumP ps = (soldL xs k).length
theorem partA_good (xs : List Int) : ∀ k, GoodP xs k (partA xs k)
  | 0 => ⟨by simp [partA, soldL, partF], fun p hp => by simp [partA, soldL, partF] at hp, by simp [partA, soldL, partF, sumP]⟩
  | k + 1 => by
    have ih := partA_good xs k
    cases g : hasI xs ((k + 1 : Nat) : Int) with
    | false =>
      rw [partA_no g]
      refine ⟨ih.apart, fun p hp => ?_, ?_⟩
      · have := ih.each p hp; omega
      · rw [ih.sum, soldL, if_neg (by rw [g]; decide)]
    | true =>
      have hs : ((soldL xs (k + 1)).length : Int) = (soldL xs k).length + 1 := by
        rw [soldL, if_pos g]; simp
      rw [partA_yes g]
      generalize partA xs k = ps at ih
      unfold stepP
      split
      · rename_i p hp
        obtain ⟨acc, hacc⟩ : ∃ acc, ps = acc ++ [p] := List.getLast?_eq_some_iff.1 hp
        subst hacc
        have h1 := ih.apart
        rw [List.pairwise_append] at h1
        obtain ⟨h2, _, h3⟩ := h1
        have h4 := ih.each p (by simp)
        have h5 := ih.sum
        rw [sumP_snoc] at h5
        have h6 : ∀ q ∈ acc, q.1 ≤ q.2 ∧ q.2 ≤ k ∧ 1 ≤ q.1 := fun q hq => ih.each q (by simp [hq])
        split
        · rename_i he
          rw [List.dropLast_concat]
          refine ⟨?_, ?_, ?_⟩
          · rw [List.pairwise_append]
            exact ⟨h2, by simp, fun a ha b hb => by simp at hb; subst hb; exact h3 a ha p (by simp)⟩
          · intro q hq
            rcases List.mem_append.1 hq with hq | hq
            · have := h6 q hq; omega
            · simp at hq; subst hq; dsimp only; omega
          · rw [sumP_snoc, hs]; dsimp only; omega
        · rename_i he
          refine ⟨?_, ?_, ?_⟩
          · rw [List.pairwise_append]
            refine ⟨ih.apart, by simp, fun a ha b hb => ?_⟩
            simp at hb; subst hb
            have ha' := ih.each a ha
            dsimp only
            rcases List.mem_append.1 ha with ha | ha
            · have h7 := h3 a ha p (by simp); omega
            · simp at ha; subst ha; omega
          · intro q hq
            rcases List.mem_append.1 hq with hq | hq
            · have := ih.each q hq; omega
            · simp at hq; subst hq; dsimp only; omega
          · rw [sumP_snoc, sumP_snoc, hs]; dsimp only; omega
      · rename_i hp
        obtain rfl : ps = [] := List.getLast?_eq_none_iff.1 hp
        have h5 := ih.sum
        simp only [sumP] at h5
        refine ⟨by simp, fun q hq => ?_, ?_⟩
        · simp at hq; subst hq; dsimp only; omega
        · rw [List.nil_append, hs]; simp only [sumP]; omega
theorem partL_good {s : Int} {xs : List Int} (h : edB s xs = true) : GoodP xs s.toNat (partL s xs) := by rw [partL, if_pos h]; exact partA_good _ _
theorem part_at {s : Int} {xs : List Int} (h : edB s xs = true) {k : Nat} {p : PT} (hp : (partL s xs)[k]? = some p) : 1 ≤ p.1 ∧ p.1 ≤ p.2 ∧ p.2 ≤ s := by
  have := (partL_good h).each p (List.mem_of_getElem? hp)
  have := (edB_spec h).1
  omega
theorem part_apart {s : Int} {xs : List Int} (h : edB s xs = true) {k : Nat} {p q : PT} (hp : (partL s xs)[k]? = some p) (hq : (partL s xs)[k + 1]? = some q) : p.2 + 1 < q.1 := by
  have h1 := (partL_good h).apart
  have hk := some_lt hp
  have hk1 := some_lt hq
  rw [List.getElem?_eq_getElem hk] at hp
  rw [List.getElem?_eq_getElem hk1] at hq
  injection hp with hp; injection hq with hq
  subst hp; subst hq
  exact List.pairwise_iff_getElem.1 h1 k (k + 1) hk hk1 (by omega)
theorem part_sum {s : Int} {xs : List Int} (h : edB s xs = true) : sumP (partL s xs) = xs.length := by rw [(partL_good h).sum, sold_len h]
/-- sums of parts stay small -/
theorem sum_le {s : Int} {xs : List Int} (h : edB s xs = true) : ∀ k : Nat, 0 ≤ sumP ((partL s xs).take k) ∧ sumP ((partL s xs).take k) ≤ s * k
  | 0 => by simp [sumP]
  | k + 1 => by
    have ih := sum_le h k
    have h1 := (edB_spec h).1
    have e : s * ((k + 1 : Nat) : Int) = s * (k : Int) + s := by rw [Int.natCast_add, Int.mul_add]; simp
    cases hp : (partL s xs)[k]? with
    | none =>
      have hl : (partL s xs).length ≤ k := List.getElem?_eq_none_iff.1 hp
      rw [List.take_of_length_le (by omega)]
      rw [List.take_of_length_le hl] at ih
      omega
    | some p =>
      rw [sumP_more hp]
      have := part_at h hp
      omega
end

section
open Go Go.Ab

theorem keeps_base {h h2 h' h1 : Heap} {ρ : Nat → Nat} (k : Keeps h h' h1 ρ) (hl : h2.length = h.length) : Keeps h2 h' h1 ρ := ⟨fun i hi => k.old i (by omega), k.inj, k.get⟩
theorem once_at {bs : List UInt8} {ci : Nat} {c : List AV} (k : Int) (hn : bs.length ≤ 1048576) (hk : k ≤ 1000000000000) (hc0 : CurC ci bs.length c) (g l : Heap) (hr : rd g ci bs.length = some (rowU bs)) :
    AC Try.prog 76 [.ptr g.length 3 0, VI k] (g ++ (curB c :: l)) fun r h' => ∃ (b : Bool) (c' : List AV), CurC ci bs.length c' ∧ r = VB b ∧ h' = g ++ (curB c' :: l) := by
  refine AC_go mixed ok76 (by simp) fun hc _ => ?_
  unfold L76
  repeat' (first | simp -implicitDefEqProofs only [Ab.R1, Ab.R2, Ab.R3, Ab.R4, Ab.R5, Ab.RH, Ab.RM, Ab.binV, Ab.binC, Nat.reduceLT, Nat.reduceBEq, Nat.reduceAdd, Nat.reduceMul, Nat.reduceEqDiff, Nat.reduceLeDiff, Nat.reduceSub, List.getElem?_cons_zero, List.getElem?_cons_succ, List.getElem?_nil, Option.getD_some, Option.getD_none, if_true, if_false, reduceIte, Option.map_some, Option.map_none, Option.bind_some, Option.bind_none, Option.isSome_some, List.map_cons, List.map_nil, AV.cells, List.length_cons, List.length_nil, List.all_cons, List.all_nil, AV.one, Value.oneCell', ne_eq, reduceCtorEq, Int.reduceNeg, Int.reduceEq, Int.reduceNe, Int.reduceAdd, Int.reduceSub, Int.reduceMul, Int.reduceLT, Int.reduceLE, Int.reduceToNat, List.drop_zero, List.take_zero, List.drop_succ_cons, List.take_succ_cons, List.nil_append, List.cons_append, List.append_nil, List.replicate_zero, List.flatten_nil, List.flatten_cons, List.reduceReplicate, ge_iff_le, gt_iff_lt, eq_self, Nat.add_assoc, facts, *] | simp (disch := omega) only [Ab.wrap_i64] | ((with_reducible refine Ab.gd_ndec (fun _ => ?_) (fun _ => ?_)) <;> try (exfalso; omega)) | ((with_reducible refine Ab.br_ndec (fun _ => ?_) (fun _ => ?_)) <;> try (exfalso; omega)) | ((with_reducible refine Ab.gd_dec (fun _ => ?_) (fun _ => ?_)) <;> try (exfalso; omega)) | ((with_reducible refine Ab.br_dec (fun _ => ?_) (fun _ => ?_)) <;> try (exfalso; omega)) | (with_reducible refine Ab.run_alt ?_ ?_) | (refine And.intro (by omega) ?_) | (refine gd_split (fun _ => ?_) (fun _ => ?_)) | (refine br_split (fun _ => ?_) (fun _ => ?_)) | omega)
  refine cl_any (below_at k hn hk hc0 g l hr) ?_
  rintro _ _ ⟨x, c1, a1, b1, k1, rfl, rfl⟩
  repeat' (first | simp -implicitDefEqProofs only [Ab.R1, Ab.R2, Ab.R3, Ab.R4, Ab.R5, Ab.RH, Ab.RM, Ab.binV, Ab.binC, Nat.reduceLT, Nat.reduceBEq, Nat.reduceAdd, Nat.reduceMul, Nat.reduceEqDiff, Nat.reduceLeDiff, Nat.reduceSub, List.getElem?_cons_zero, List.getElem?_cons_succ, List.getElem?_nil, Option.getD_some, Option.getD_none, if_true, if_false, reduceIte, Option.map_some, Option.map_none, Option.bind_some, Option.bind_none, Option.isSome_some, List.map_cons, List.map_nil, AV.cells, List.length_cons, List.length_nil, List.all_cons, List.all_nil, AV.one, Value.oneCell', ne_eq, reduceCtorEq, Int.reduceNeg, Int.reduceEq, Int.reduceNe, Int.reduceAdd, Int.reduceSub, Int.reduceMul, Int.reduceLT, Int.reduceLE, Int.reduceToNat, List.drop_zero, List.take_zero, List.drop_succ_cons, List.take_succ_cons, List.nil_append, List.cons_append, List.append_nil, List.replicate_zero, List.flatten_nil, List.flatten_cons, List.reduceReplicate, ge_iff_le, gt_iff_lt, eq_self, Nat.add_assoc, facts, *] | simp (disch := omega) only [Ab.wrap_i64] | ((with_reducible refine Ab.gd_ndec (fun _ => ?_) (fun _ => ?_)) <;> try (exfalso; omega)) | ((with_reducible refine Ab.br_ndec (fun _ => ?_) (fun _ => ?_)) <;> try (exfalso; omega)) | ((with_reducible refine Ab.gd_dec (fun _ => ?_) (fun _ => ?_)) <;> try (exfalso; omega)) | ((with_reducible refine Ab.br_dec (fun _ => ?_) (fun _ => ?_)) <;> try (exfalso; omega)) | (with_reducible refine Ab.run_alt ?_ ?_) | (refine And.intro (by omega) ?_) | (refine gd_split (fun _ => ?_) (fun _ => ?_)) | (refine br_split (fun _ => ?_) (fun _ => ?_)) | omega)
  exact ⟨_, _, k1, rfl, rfl⟩
theorem ed_le {s : Int} {xs : List Int} (h : edB s xs = true) : (xs.length : Int) ≤ s := by
  have := free_len h
  omega

abbrev edR (s : Int) (i n : Nat) : Blk := ⟨.row 27 2, [VI s, .own i 1 n]⟩
abbrev ed0 : Blk := ⟨.row 27 2, [VI 0, .raw (.slice none 0 0)]⟩
theorem keep_ed {g : Heap} {c c' : List AV} {s : Int} {xs ys : List Int} (hg : closedH (g ++ [curB c'])) :
    Keeps (g ++ [curB c]) (g ++ [curB c', ed0, edR s (g.length + 4) ys.length, rowW xs, rowW ys]) (g ++ [curB c', ed0, edR s (g.length + 3) ys.length, rowW ys]) (plc (g ++ [curB c']) [0, 1, 3]) := by
  have h1 : KeepB (plc (g ++ [curB c']) [0, 1, 3]) [ed0, edR s (g.length + 4) ys.length, rowW xs, rowW ys] [ed0, edR s (g.length + 3) ys.length, rowW ys] [0, 1, 3] := by
    have hl : (g ++ [curB c']).length = g.length + 1 := by simp
    have h3 : plc (g ++ [curB c']) [0, 1, 3] (g.length + 3) = g.length + 4 := by
      have := plc_new (h := g ++ [curB c']) (ps := [0, 1, 3]) (j := 2)
      rw [hl] at this
      exact this
    simp [keepB_cons, keepB_nil, renL_cons, renL_nil, ren_own, ren_raw, h3, ren_rowI]
  have := h1.keeps hg (by decide)
  rw [List.append_assoc, List.append_assoc] at this
  exact keeps_base this (by simp)

set_option maxHeartbeats 1000000 in
theorem l28Edition_ok {bs : List UInt8} {ci : Nat} {c : List AV} (hn : bs.length ≤ 1048576) (hc0 : CurC ci bs.length c) (g : Heap) (hg : closedH g) (hr : rd g ci bs.length = some (rowU bs)) :
    AC Try.prog 66 [.ptr g.length 3 0] (g ++ [curB c]) fun r h' => ∃ (s : Int) (xs : List Int) (E : Heap), edB s xs = true ∧ E[3]? = some (rowW xs) ∧ r = edV s (g.length + 3) xs.length ∧ h' = g ++ E := by
  refine AC_go mixed ok66 (by simp) fun hc _ => ?_
  unfold L66
  have hrk : ∀ l, refOk (g ++ l) ci bs.length = true := fun l => refOk_ext (refOk_sz (sz_of hr))
  repeat' (first | simp -implicitDefEqProofs only [Ab.R1, Ab.R2, Ab.R3, Ab.R4, Ab.R5, Ab.RH, Ab.RM, Ab.binV, Ab.binC, Nat.reduceLT, Nat.reduceBEq, Nat.reduceAdd, Nat.reduceMul, Nat.reduceEqDiff, Nat.reduceLeDiff, Nat.reduceSub, List.getElem?_cons_zero, List.getElem?_cons_succ, List.getElem?_nil, Option.getD_some, Option.getD_none, if_true, if_false, reduceIte, Option.map_some, Option.map_none, Option.bind_some, Option.bind_none, Option.isSome_some, List.map_cons, List.map_nil, AV.cells, List.length_cons, List.length_nil, List.all_cons, List.all_nil, AV.one, Value.oneCell', ne_eq, reduceCtorEq, Int.reduceNeg, Int.reduceEq, Int.reduceNe, Int.reduceAdd, Int.reduceSub, Int.reduceMul, Int.reduceLT, Int.reduceLE, Int.reduceToNat, List.drop_zero, List.take_zero, List.drop_succ_cons, List.take_succ_cons, List.nil_append, List.cons_append, List.append_nil, List.replicate_zero, List.flatten_nil, List.flatten_cons, List.reduceReplicate, ge_iff_le, gt_iff_lt, eq_self, Nat.add_assoc, facts, *] | simp (disch := omega) only [Ab.wrap_i64] | ((with_reducible refine Ab.gd_ndec (fun _ => ?_) (fun _ => ?_)) <;> try (exfalso; omega)) | ((with_reducible refine Ab.br_ndec (fun _ => ?_) (fun _ => ?_)) <;> try (exfalso; omega)) | ((with_reducible refine Ab.gd_dec (fun _ => ?_) (fun _ => ?_)) <;> try (exfalso; omega)) | ((with_reducible refine Ab.br_dec (fun _ => ?_) (fun _ => ?_)) <;> try (exfalso; omega)) | (with_reducible refine Ab.run_alt ?_ ?_) | (refine And.intro (by omega) ?_) | (refine gd_split (fun _ => ?_) (fun _ => ?_)) | (refine br_split (fun _ => ?_) (fun _ => ?_)) | omega)
  refine cl_any (below_at 20 hn (by omega) hc0 g _ hr) ?_
  rintro _ _ ⟨x1, c1, a1, b1, k1, rfl, rfl⟩
  have b1 := b1 (by omega)
  repeat' (first | simp -implicitDefEqProofs only [Ab.R1, Ab.R2, Ab.R3, Ab.R4, Ab.R5, Ab.RH, Ab.RM, Ab.binV, Ab.binC, Nat.reduceLT, Nat.reduceBEq, Nat.reduceAdd, Nat.reduceMul, Nat.reduceEqDiff, Nat.reduceLeDiff, Nat.reduceSub, List.getElem?_cons_zero, List.getElem?_cons_succ, List.getElem?_nil, Option.getD_some, Option.getD_none, if_true, if_false, reduceIte, Option.map_some, Option.map_none, Option.bind_some, Option.bind_none, Option.isSome_some, List.map_cons, List.map_nil, AV.cells, List.length_cons, List.length_nil, List.all_cons, List.all_nil, AV.one, Value.oneCell', ne_eq, reduceCtorEq, Int.reduceNeg, Int.reduceEq, Int.reduceNe, Int.reduceAdd, Int.reduceSub, Int.reduceMul, Int.reduceLT, Int.reduceLE, Int.reduceToNat, List.drop_zero, List.take_zero, List.drop_succ_cons, List.take_succ_cons, List.nil_append, List.cons_append, List.append_nil, List.replicate_zero, List.flatten_nil, List.flatten_cons, List.reduceReplicate, ge_iff_le, gt_iff_lt, eq_self, Nat.add_assoc, facts, *] | simp (disch := omega) only [Ab.wrap_i64] | ((with_reducible refine Ab.gd_ndec (fun _ => ?_) (fun _ => ?_)) <;> try (exfalso; omega)) | ((with_reducible refine Ab.br_ndec (fun _ => ?_) (fun _ => ?_)) <;> try (exfalso; omega)) | ((with_reducible refine Ab.gd_dec (fun _ => ?_) (fun _ => ?_)) <;> try (exfalso; omega)) | ((with_reducible refine Ab.br_dec (fun _ => ?_) (fun _ => ?_)) <;> try (exfalso; omega)) | (with_reducible refine Ab.run_alt ?_ ?_) | (refine And.intro (by omega) ?_) | (refine gd_split (fun _ => ?_) (fun _ => ?_)) | (refine br_split (fun _ => ?_) (fun _ => ?_)) | omega)
  refine cl_any (below_at 14 hn (by omega) k1 g _ hr) ?_
  rintro _ _ ⟨x2, c2, a2, b2, k2, rfl, rfl⟩
  have b2 := b2 (by omega)
  repeat' (first | simp -implicitDefEqProofs only [Ab.R1, Ab.R2, Ab.R3, Ab.R4, Ab.R5, Ab.RH, Ab.RM, Ab.binV, Ab.binC, Nat.reduceLT, Nat.reduceBEq, Nat.reduceAdd, Nat.reduceMul, Nat.reduceEqDiff, Nat.reduceLeDiff, Nat.reduceSub, List.getElem?_cons_zero, List.getElem?_cons_succ, List.getElem?_nil, Option.getD_some, Option.getD_none, if_true, if_false, reduceIte, Option.map_some, Option.map_none, Option.bind_some, Option.bind_none, Option.isSome_some, List.map_cons, List.map_nil, AV.cells, List.length_cons, List.length_nil, List.all_cons, List.all_nil, AV.one, Value.oneCell', ne_eq, reduceCtorEq, Int.reduceNeg, Int.reduceEq, Int.reduceNe, Int.reduceAdd, Int.reduceSub, Int.reduceMul, Int.reduceLT, Int.reduceLE, Int.reduceToNat, List.drop_zero, List.take_zero, List.drop_succ_cons, List.take_succ_cons, List.nil_append, List.cons_append, List.append_nil, List.replicate_zero, List.flatten_nil, List.flatten_cons, List.reduceReplicate, ge_iff_le, gt_iff_lt, eq_self, Nat.add_assoc, facts, *] | simp (disch := omega) only [Ab.wrap_i64] | ((with_reducible refine Ab.gd_ndec (fun _ => ?_) (fun _ => ?_)) <;> try (exfalso; omega)) | ((with_reducible refine Ab.br_ndec (fun _ => ?_) (fun _ => ?_)) <;> try (exfalso; omega)) | ((with_reducible refine Ab.gd_dec (fun _ => ?_) (fun _ => ?_)) <;> try (exfalso; omega)) | ((with_reducible refine Ab.br_dec (fun _ => ?_) (fun _ => ?_)) <;> try (exfalso; omega)) | (with_reducible refine Ab.run_alt ?_ ?_) | (refine And.intro (by omega) ?_) | (refine gd_split (fun _ => ?_) (fun _ => ?_)) | (refine br_split (fun _ => ?_) (fun _ => ?_)) | omega)
  refine lw_nilcell (g.length + 2) 1 3 1 (e1 := 27) (es1 := 2) (cells := [VI (1 + x1), .raw (.slice none 0 0)]) (by rw [get_new]; rfl) rfl ?_
  simp -implicitDefEqProofs only [Ab.R1, Ab.R2, Ab.R3, Ab.R4, Ab.R5, Ab.RH, Ab.RM, Ab.binV, Ab.binC, Nat.reduceLT, Nat.reduceBEq, Nat.reduceAdd, Nat.reduceMul, Nat.reduceEqDiff, Nat.reduceLeDiff, Nat.reduceSub, List.getElem?_cons_zero, List.getElem?_cons_succ, List.getElem?_nil, Option.getD_some, Option.getD_none, if_true, if_false, reduceIte, Option.map_some, Option.map_none, Option.bind_some, Option.bind_none, Option.isSome_some, List.map_cons, List.map_nil, AV.cells, List.length_cons, List.length_nil, List.all_cons, List.all_nil, AV.one, Value.oneCell', ne_eq, reduceCtorEq, Int.reduceNeg, Int.reduceEq, Int.reduceNe, Int.reduceAdd, Int.reduceSub, Int.reduceMul, Int.reduceLT, Int.reduceLE, Int.reduceToNat, List.drop_zero, List.take_zero, List.drop_succ_cons, List.take_succ_cons, List.nil_append, List.cons_append, List.append_nil, List.replicate_zero, List.flatten_nil, List.flatten_cons, List.reduceReplicate, ge_iff_le, gt_iff_lt, eq_self, Nat.add_assoc, facts]
  obtain ⟨m2, rfl⟩ : ∃ m : Nat, x2 = m := ⟨x2.toNat, by omega⟩
  have he0 : edB (1 + x1) [] = true := ed_nil (by omega)
  have hs64 : 1 ≤ 1 + x1 ∧ 1 + x1 ≤ 20 := by omega
  generalize 1 + x1 = s at *
  refine lw_loopR [0] (fun a : Nat × List AV × List Int => [(4, VI a.1), (3, .ptr (g.length + 2) 2 0), (2, .ptr (g.length + 1) 2 0)]) (fun a => g ++ [curB a.2.1, ed0, edR s (g.length + 3) a.2.2.length, rowW a.2.2])
    (fun a => CurC ci bs.length a.2.1 ∧ edB s a.2.2 = true ∧ a.1 ≤ 14) (fun a => a.1) (m2, c2, []) ⟨k2, he0, by dsimp only; omega⟩ rfl (by (simp -implicitDefEqProofs only [Ab.R1, Ab.R2, Ab.R3, Ab.R4, Ab.R5, Ab.RH, Ab.RM, Ab.binV, Ab.binC, Nat.reduceLT, Nat.reduceBEq, Nat.reduceAdd, Nat.reduceMul, Nat.reduceEqDiff, Nat.reduceLeDiff, Nat.reduceSub, List.getElem?_cons_zero, List.getElem?_cons_succ, List.getElem?_nil, Option.getD_some, Option.getD_none, if_true, if_false, reduceIte, Option.map_some, Option.map_none, Option.bind_some, Option.bind_none, Option.isSome_some, List.map_cons, List.map_nil, AV.cells, List.length_cons, List.length_nil, List.all_cons, List.all_nil, AV.one, Value.oneCell', ne_eq, reduceCtorEq, Int.reduceNeg, Int.reduceEq, Int.reduceNe, Int.reduceAdd, Int.reduceSub, Int.reduceMul, Int.reduceLT, Int.reduceLE, Int.reduceToNat, List.drop_zero, List.take_zero, List.drop_succ_cons, List.take_succ_cons, List.nil_append, List.cons_append, List.append_nil, List.replicate_zero, List.flatten_nil, List.flatten_cons, List.reduceReplicate, ge_iff_le, gt_iff_lt, eq_self, Nat.add_assoc, facts] <;> first | rfl | exact ⟨rfl, rfl⟩ | exact ⟨rfl, rfl, rfl⟩ | (simp; done))) ?_ ?_ ?_
  · intro t ht
    simp only [List.mem_cons, List.not_mem_nil, or_false] at ht
    subst ht
    simp -implicitDefEqProofs only [Ab.R1, Ab.R2, Ab.R3, Ab.R4, Ab.R5, Ab.RH, Ab.RM, Ab.binV, Ab.binC, Nat.reduceLT, Nat.reduceBEq, Nat.reduceAdd, Nat.reduceMul, Nat.reduceEqDiff, Nat.reduceLeDiff, Nat.reduceSub, List.getElem?_cons_zero, List.getElem?_cons_succ, List.getElem?_nil, Option.getD_some, Option.getD_none, if_true, if_false, reduceIte, Option.map_some, Option.map_none, Option.bind_some, Option.bind_none, Option.isSome_some, List.map_cons, List.map_nil, AV.cells, List.length_cons, List.length_nil, List.all_cons, List.all_nil, AV.one, Value.oneCell', ne_eq, reduceCtorEq, Int.reduceNeg, Int.reduceEq, Int.reduceNe, Int.reduceAdd, Int.reduceSub, Int.reduceMul, Int.reduceLT, Int.reduceLE, Int.reduceToNat, List.drop_zero, List.take_zero, List.drop_succ_cons, List.take_succ_cons, List.nil_append, List.cons_append, List.append_nil, List.replicate_zero, List.flatten_nil, List.flatten_cons, List.reduceReplicate, ge_iff_le, gt_iff_lt, eq_self, Nat.add_assoc, facts]
    simp [AV.ok, refOk, csz, curV, k2.len, hc0.len]
  · rintro ⟨m, c3, ys⟩ ⟨k3, h3, h4⟩
    dsimp only at k3 h3 h4 ⊢
    have hl2 := hc0.len
    have hl3 := k3.len
    have hok3 := fun h hr => k3.ok (h := h) hr
    refine .app hg ?_ ?_ ?_
    · simp only [Ab.leB_cons, Ab.leB_nil, Ab.ok_raw, Ab.ok_own, Ab.ok_ptr, Ab.ok_sub, Ab.okAll_nil, Ab.okAll_cons, Ab.refOk_app, Ab.refOk_app0, Ab.okB_zero, Ab.okB_succ, Ab.rowI_ok, Ab.rowB_ok, Ab.rowS_ok, Ab.rowU_ok, Ab.rowI_len, Ab.rowB_len, Ab.rowS_len, Ab.rowU_len, List.mem_cons, List.not_mem_nil, or_false, forall_eq, forall_eq_or_imp, List.forall_mem_cons, List.length_replicate, and_true, true_and, and_self, Nat.le_refl, Nat.zero_le, implies_true, List.length_set, List.length_append, List.length_cons, List.length_nil, List.length_map, Bool.and_true, Bool.true_and, Bool.and_self, decide_true, decide_eq_true_eq, hok3, hrk, Nat.mul_one]
    · simp only [Ab.leB_cons, Ab.leB_nil, Ab.ok_raw, Ab.ok_own, Ab.ok_ptr, Ab.ok_sub, Ab.okAll_nil, Ab.okAll_cons, Ab.refOk_app, Ab.refOk_app0, Ab.okB_zero, Ab.okB_succ, Ab.rowI_ok, Ab.rowB_ok, Ab.rowS_ok, Ab.rowU_ok, Ab.rowI_len, Ab.rowB_len, Ab.rowS_len, Ab.rowU_len, List.mem_cons, List.not_mem_nil, or_false, forall_eq, forall_eq_or_imp, List.forall_mem_cons, List.length_replicate, and_true, true_and, and_self, Nat.le_refl, Nat.zero_le, implies_true, List.length_set, List.length_append, List.length_cons, List.length_nil, List.length_map, Bool.and_true, Bool.true_and, Bool.and_self, decide_true, decide_eq_true_eq, hl2, hl3] <;> omega
    · simp only [Ab.leB_cons, Ab.leB_nil, Ab.ok_raw, Ab.ok_own, Ab.ok_ptr, Ab.ok_sub, Ab.okAll_nil, Ab.okAll_cons, Ab.refOk_app, Ab.refOk_app0, Ab.okB_zero, Ab.okB_succ, Ab.rowI_ok, Ab.rowB_ok, Ab.rowS_ok, Ab.rowU_ok, Ab.rowI_len, Ab.rowB_len, Ab.rowS_len, Ab.rowU_len, List.mem_cons, List.not_mem_nil, or_false, forall_eq, forall_eq_or_imp, List.forall_mem_cons, List.length_replicate, and_true, true_and, and_self, Nat.le_refl, Nat.zero_le, implies_true, List.length_set, List.length_append, List.length_cons, List.length_nil, List.length_map, Bool.and_true, Bool.true_and, Bool.and_self, decide_true, decide_eq_true_eq]
  · rintro ⟨m, c3, ys⟩ ⟨k3, h3, h4⟩ _
    dsimp only at k3 h3 h4 ⊢
    refine lw_run mixed ?_
    unfold L66b0
    have hyl := rowI_len ys
    have hle := ed_le h3
    rcases Nat.eq_zero_or_pos m with rfl | hm
    · repeat' (first | simp -implicitDefEqProofs only [Ab.R1, Ab.R2, Ab.R3, Ab.R4, Ab.R5, Ab.RH, Ab.RM, Ab.binV, Ab.binC, Nat.reduceLT, Nat.reduceBEq, Nat.reduceAdd, Nat.reduceMul, Nat.reduceEqDiff, Nat.reduceLeDiff, Nat.reduceSub, List.getElem?_cons_zero, List.getElem?_cons_succ, List.getElem?_nil, Option.getD_some, Option.getD_none, if_true, if_false, reduceIte, Option.map_some, Option.map_none, Option.bind_some, Option.bind_none, Option.isSome_some, List.map_cons, List.map_nil, AV.cells, List.length_cons, List.length_nil, List.all_cons, List.all_nil, AV.one, Value.oneCell', ne_eq, reduceCtorEq, Int.reduceNeg, Int.reduceEq, Int.reduceNe, Int.reduceAdd, Int.reduceSub, Int.reduceMul, Int.reduceLT, Int.reduceLE, Int.reduceToNat, List.drop_zero, List.take_zero, List.drop_succ_cons, List.take_succ_cons, List.nil_append, List.cons_append, List.append_nil, List.replicate_zero, List.flatten_nil, List.flatten_cons, List.reduceReplicate, ge_iff_le, gt_iff_lt, eq_self, Nat.add_assoc, facts, *] | simp (disch := omega) only [Ab.wrap_i64] | ((with_reducible refine Ab.gd_ndec (fun _ => ?_) (fun _ => ?_)) <;> try (exfalso; omega)) | ((with_reducible refine Ab.br_ndec (fun _ => ?_) (fun _ => ?_)) <;> try (exfalso; omega)) | ((with_reducible refine Ab.gd_dec (fun _ => ?_) (fun _ => ?_)) <;> try (exfalso; omega)) | ((with_reducible refine Ab.br_dec (fun _ => ?_) (fun _ => ?_)) <;> try (exfalso; omega)) | (with_reducible refine Ab.run_alt ?_ ?_) | (refine And.intro (by omega) ?_) | (refine gd_split (fun _ => ?_) (fun _ => ?_)) | (refine br_split (fun _ => ?_) (fun _ => ?_)) | omega)
      refine ⟨s, ys, _, h3, ?_, rfl, rfl⟩
      rfl
    · obtain ⟨m', rfl⟩ : ∃ m', m = m' + 1 := ⟨m - 1, by omega⟩
      have hE : ((m' + 1 : Nat) : Int) - 1 = m' := by omega
      repeat' (first | simp -implicitDefEqProofs only [Ab.R1, Ab.R2, Ab.R3, Ab.R4, Ab.R5, Ab.RH, Ab.RM, Ab.binV, Ab.binC, Nat.reduceLT, Nat.reduceBEq, Nat.reduceAdd, Nat.reduceMul, Nat.reduceEqDiff, Nat.reduceLeDiff, Nat.reduceSub, List.getElem?_cons_zero, List.getElem?_cons_succ, List.getElem?_nil, Option.getD_some, Option.getD_none, if_true, if_false, reduceIte, Option.map_some, Option.map_none, Option.bind_some, Option.bind_none, Option.isSome_some, List.map_cons, List.map_nil, AV.cells, List.length_cons, List.length_nil, List.all_cons, List.all_nil, AV.one, Value.oneCell', ne_eq, reduceCtorEq, Int.reduceNeg, Int.reduceEq, Int.reduceNe, Int.reduceAdd, Int.reduceSub, Int.reduceMul, Int.reduceLT, Int.reduceLE, Int.reduceToNat, List.drop_zero, List.take_zero, List.drop_succ_cons, List.take_succ_cons, List.nil_append, List.cons_append, List.append_nil, List.replicate_zero, List.flatten_nil, List.flatten_cons, List.reduceReplicate, ge_iff_le, gt_iff_lt, eq_self, Nat.add_assoc, facts, *] | simp (disch := omega) only [Ab.wrap_i64] | ((with_reducible refine Ab.gd_ndec (fun _ => ?_) (fun _ => ?_)) <;> try (exfalso; omega)) | ((with_reducible refine Ab.br_ndec (fun _ => ?_) (fun _ => ?_)) <;> try (exfalso; omega)) | ((with_reducible refine Ab.gd_dec (fun _ => ?_) (fun _ => ?_)) <;> try (exfalso; omega)) | ((with_reducible refine Ab.br_dec (fun _ => ?_) (fun _ => ?_)) <;> try (exfalso; omega)) | (with_reducible refine Ab.run_alt ?_ ?_) | (refine And.intro (by omega) ?_) | (refine gd_split (fun _ => ?_) (fun _ => ?_)) | (refine br_split (fun _ => ?_) (fun _ => ?_)) | omega)
      refine cl_any (once_at 3 hn (by omega) k3 g _ hr) ?_
      rintro _ _ ⟨b, c4, k4, rfl, rfl⟩
      have hcl4 : closedH (g ++ [curB c4]) := closedH_append hg fun b hb => by
        rw [List.mem_singleton.1 hb]; exact k4.ok (hrk _)
      have hnx := specNextS_ok s ys
      have hen := ed_next h3
      generalize nextX s ys = zs at hnx hen
      generalize nextN s ys = kk at hnx
      cases b with
      | true =>
        repeat' (first | simp -implicitDefEqProofs only [Ab.R1, Ab.R2, Ab.R3, Ab.R4, Ab.R5, Ab.RH, Ab.RM, Ab.binV, Ab.binC, Nat.reduceLT, Nat.reduceBEq, Nat.reduceAdd, Nat.reduceMul, Nat.reduceEqDiff, Nat.reduceLeDiff, Nat.reduceSub, List.getElem?_cons_zero, List.getElem?_cons_succ, List.getElem?_nil, Option.getD_some, Option.getD_none, if_true, if_false, reduceIte, Option.map_some, Option.map_none, Option.bind_some, Option.bind_none, Option.isSome_some, List.map_cons, List.map_nil, AV.cells, List.length_cons, List.length_nil, List.all_cons, List.all_nil, AV.one, Value.oneCell', ne_eq, reduceCtorEq, Int.reduceNeg, Int.reduceEq, Int.reduceNe, Int.reduceAdd, Int.reduceSub, Int.reduceMul, Int.reduceLT, Int.reduceLE, Int.reduceToNat, List.drop_zero, List.take_zero, List.drop_succ_cons, List.take_succ_cons, List.nil_append, List.cons_append, List.append_nil, List.replicate_zero, List.flatten_nil, List.flatten_cons, List.reduceReplicate, ge_iff_le, gt_iff_lt, eq_self, Nat.add_assoc, facts, *] | simp (disch := omega) only [Ab.wrap_i64] | ((with_reducible refine Ab.gd_ndec (fun _ => ?_) (fun _ => ?_)) <;> try (exfalso; omega)) | ((with_reducible refine Ab.br_ndec (fun _ => ?_) (fun _ => ?_)) <;> try (exfalso; omega)) | ((with_reducible refine Ab.gd_dec (fun _ => ?_) (fun _ => ?_)) <;> try (exfalso; omega)) | ((with_reducible refine Ab.br_dec (fun _ => ?_) (fun _ => ?_)) <;> try (exfalso; omega)) | (with_reducible refine Ab.run_alt ?_ ?_) | (refine And.intro (by omega) ?_) | (refine gd_split (fun _ => ?_) (fun _ => ?_)) | (refine br_split (fun _ => ?_) (fun _ => ?_)) | (refine cl_more ( hnx _ (by omega) _ (by simp -implicitDefEqProofs only [Ab.app_assoc, Ab.len_app, Ab.sz_newk, Ab.sz_new0, Ab.rd_newk, Ab.rd_new0, Ab.wr_newk, Ab.wr_new0, Ab.set_newk, Ab.set_new0, Ab.sz_cons, Ab.sz_row0, Ab.sz_ro0, Ab.rd_cons, Ab.rd_row, Ab.rd_ro0, Ab.wr_cons, Ab.wr_row, Ab.set_cons_zero, Ab.set_cons_succ, Ab.rowI_len, Ab.rowB_len, Ab.rowS_len, Ab.rowU_len, Nat.add_assoc, List.cons_append, List.nil_append, List.append_nil, List.length_cons, List.length_nil, Nat.reduceAdd, Nat.reduceSub, Nat.reduceEqDiff, Nat.zero_add, Nat.add_zero, Nat.mul_one, Nat.one_mul, if_true, if_false, reduceIte, reduceCtorEq, eq_self, hyl])) ?_) | omega)
        refine ⟨(m', c4, zs), plc (g ++ [curB c4]) [0, 1, 3], by first | omega | (dsimp only; omega), ⟨k4, hen, by dsimp only; omega⟩, keep_ed hcl4, ?_⟩
        simp -implicitDefEqProofs only [Ab.R1, Ab.R2, Ab.R3, Ab.R4, Ab.R5, Ab.RH, Ab.RM, Ab.binV, Ab.binC, Nat.reduceLT, Nat.reduceBEq, Nat.reduceAdd, Nat.reduceMul, Nat.reduceEqDiff, Nat.reduceLeDiff, Nat.reduceSub, List.getElem?_cons_zero, List.getElem?_cons_succ, List.getElem?_nil, Option.getD_some, Option.getD_none, if_true, if_false, reduceIte, Option.map_some, Option.map_none, Option.bind_some, Option.bind_none, Option.isSome_some, List.map_cons, List.map_nil, AV.cells, List.length_cons, List.length_nil, List.all_cons, List.all_nil, AV.one, Value.oneCell', ne_eq, reduceCtorEq, Int.reduceNeg, Int.reduceEq, Int.reduceNe, Int.reduceAdd, Int.reduceSub, Int.reduceMul, Int.reduceLT, Int.reduceLE, Int.reduceToNat, List.drop_zero, List.take_zero, List.drop_succ_cons, List.take_succ_cons, List.nil_append, List.cons_append, List.append_nil, List.replicate_zero, List.flatten_nil, List.flatten_cons, List.reduceReplicate, ge_iff_le, gt_iff_lt, eq_self, Nat.add_assoc, facts, hasR_cons, hasR_nil, ren_raw, ren_ptr]
        all_goals first | (simp [plc]; done) | (simp [plc]; omega)
      | false =>
        repeat' (first | simp -implicitDefEqProofs only [Ab.R1, Ab.R2, Ab.R3, Ab.R4, Ab.R5, Ab.RH, Ab.RM, Ab.binV, Ab.binC, Nat.reduceLT, Nat.reduceBEq, Nat.reduceAdd, Nat.reduceMul, Nat.reduceEqDiff, Nat.reduceLeDiff, Nat.reduceSub, List.getElem?_cons_zero, List.getElem?_cons_succ, List.getElem?_nil, Option.getD_some, Option.getD_none, if_true, if_false, reduceIte, Option.map_some, Option.map_none, Option.bind_some, Option.bind_none, Option.isSome_some, List.map_cons, List.map_nil, AV.cells, List.length_cons, List.length_nil, List.all_cons, List.all_nil, AV.one, Value.oneCell', ne_eq, reduceCtorEq, Int.reduceNeg, Int.reduceEq, Int.reduceNe, Int.reduceAdd, Int.reduceSub, Int.reduceMul, Int.reduceLT, Int.reduceLE, Int.reduceToNat, List.drop_zero, List.take_zero, List.drop_succ_cons, List.take_succ_cons, List.nil_append, List.cons_append, List.append_nil, List.replicate_zero, List.flatten_nil, List.flatten_cons, List.reduceReplicate, ge_iff_le, gt_iff_lt, eq_self, Nat.add_assoc, facts, *] | simp (disch := omega) only [Ab.wrap_i64] | ((with_reducible refine Ab.gd_ndec (fun _ => ?_) (fun _ => ?_)) <;> try (exfalso; omega)) | ((with_reducible refine Ab.br_ndec (fun _ => ?_) (fun _ => ?_)) <;> try (exfalso; omega)) | ((with_reducible refine Ab.gd_dec (fun _ => ?_) (fun _ => ?_)) <;> try (exfalso; omega)) | ((with_reducible refine Ab.br_dec (fun _ => ?_) (fun _ => ?_)) <;> try (exfalso; omega)) | (with_reducible refine Ab.run_alt ?_ ?_) | (refine And.intro (by omega) ?_) | (refine gd_split (fun _ => ?_) (fun _ => ?_)) | (refine br_split (fun _ => ?_) (fun _ => ?_)) | omega)
        refine cl_anyK (below_at s hn (by omega) k4 g _ hr) ?_
        rintro _ _ ⟨x5, c5, a5, b5, k5, rfl, rfl⟩
        have b5 := b5 (by omega)
        have hcl5 : closedH (g ++ [curB c5]) := closedH_append hg fun b hb => by
          rw [List.mem_singleton.1 hb]; exact k5.ok (hrk _)
        refine ⟨keepL_cur (by simp -implicitDefEqProofs only [Ab.R1, Ab.R2, Ab.R3, Ab.R4, Ab.R5, Ab.RH, Ab.RM, Ab.binV, Ab.binC, Nat.reduceLT, Nat.reduceBEq, Nat.reduceAdd, Nat.reduceMul, Nat.reduceEqDiff, Nat.reduceLeDiff, Nat.reduceSub, List.getElem?_cons_zero, List.getElem?_cons_succ, List.getElem?_nil, Option.getD_some, Option.getD_none, if_true, if_false, reduceIte, Option.map_some, Option.map_none, Option.bind_some, Option.bind_none, Option.isSome_some, List.map_cons, List.map_nil, AV.cells, List.length_cons, List.length_nil, List.all_cons, List.all_nil, AV.one, Value.oneCell', ne_eq, reduceCtorEq, Int.reduceNeg, Int.reduceEq, Int.reduceNe, Int.reduceAdd, Int.reduceSub, Int.reduceMul, Int.reduceLT, Int.reduceLE, Int.reduceToNat, List.drop_zero, List.take_zero, List.drop_succ_cons, List.take_succ_cons, List.nil_append, List.cons_append, List.append_nil, List.replicate_zero, List.flatten_nil, List.flatten_cons, List.reduceReplicate, ge_iff_le, gt_iff_lt, eq_self, Nat.add_assoc, facts]; first | omega | (refine ⟨?_, ?_⟩ <;> omega) | skip), ?_⟩
        have hsl := specSell_ok s ys (1 + x5)
        have hes := ed_sell (1 + x5) h3
        generalize sellX s ys (1 + x5) = us at hsl hes
        generalize sellB s ys (1 + x5) = bb at hsl
        repeat' (first | simp -implicitDefEqProofs only [Ab.R1, Ab.R2, Ab.R3, Ab.R4, Ab.R5, Ab.RH, Ab.RM, Ab.binV, Ab.binC, Nat.reduceLT, Nat.reduceBEq, Nat.reduceAdd, Nat.reduceMul, Nat.reduceEqDiff, Nat.reduceLeDiff, Nat.reduceSub, List.getElem?_cons_zero, List.getElem?_cons_succ, List.getElem?_nil, Option.getD_some, Option.getD_none, if_true, if_false, reduceIte, Option.map_some, Option.map_none, Option.bind_some, Option.bind_none, Option.isSome_some, List.map_cons, List.map_nil, AV.cells, List.length_cons, List.length_nil, List.all_cons, List.all_nil, AV.one, Value.oneCell', ne_eq, reduceCtorEq, Int.reduceNeg, Int.reduceEq, Int.reduceNe, Int.reduceAdd, Int.reduceSub, Int.reduceMul, Int.reduceLT, Int.reduceLE, Int.reduceToNat, List.drop_zero, List.take_zero, List.drop_succ_cons, List.take_succ_cons, List.nil_append, List.cons_append, List.append_nil, List.replicate_zero, List.flatten_nil, List.flatten_cons, List.reduceReplicate, ge_iff_le, gt_iff_lt, eq_self, Nat.add_assoc, facts, *] | simp (disch := omega) only [Ab.wrap_i64] | ((with_reducible refine Ab.gd_ndec (fun _ => ?_) (fun _ => ?_)) <;> try (exfalso; omega)) | ((with_reducible refine Ab.br_ndec (fun _ => ?_) (fun _ => ?_)) <;> try (exfalso; omega)) | ((with_reducible refine Ab.gd_dec (fun _ => ?_) (fun _ => ?_)) <;> try (exfalso; omega)) | ((with_reducible refine Ab.br_dec (fun _ => ?_) (fun _ => ?_)) <;> try (exfalso; omega)) | (with_reducible refine Ab.run_alt ?_ ?_) | (refine And.intro (by omega) ?_) | (refine gd_split (fun _ => ?_) (fun _ => ?_)) | (refine br_split (fun _ => ?_) (fun _ => ?_)) | (refine cl_more ( hsl _ (by omega) _ (by simp -implicitDefEqProofs only [Ab.app_assoc, Ab.len_app, Ab.sz_newk, Ab.sz_new0, Ab.rd_newk, Ab.rd_new0, Ab.wr_newk, Ab.wr_new0, Ab.set_newk, Ab.set_new0, Ab.sz_cons, Ab.sz_row0, Ab.sz_ro0, Ab.rd_cons, Ab.rd_row, Ab.rd_ro0, Ab.wr_cons, Ab.wr_row, Ab.set_cons_zero, Ab.set_cons_succ, Ab.rowI_len, Ab.rowB_len, Ab.rowS_len, Ab.rowU_len, Nat.add_assoc, List.cons_append, List.nil_append, List.append_nil, List.length_cons, List.length_nil, Nat.reduceAdd, Nat.reduceSub, Nat.reduceEqDiff, Nat.zero_add, Nat.add_zero, Nat.mul_one, Nat.one_mul, if_true, if_false, reduceIte, reduceCtorEq, eq_self, hyl])) ?_) | omega)
        refine ⟨(m', c5, us), plc (g ++ [curB c5]) [0, 1, 3], by first | omega | (dsimp only; omega), ⟨k5, hes, by dsimp only; omega⟩, keep_ed hcl5, ?_⟩
        simp -implicitDefEqProofs only [Ab.R1, Ab.R2, Ab.R3, Ab.R4, Ab.R5, Ab.RH, Ab.RM, Ab.binV, Ab.binC, Nat.reduceLT, Nat.reduceBEq, Nat.reduceAdd, Nat.reduceMul, Nat.reduceEqDiff, Nat.reduceLeDiff, Nat.reduceSub, List.getElem?_cons_zero, List.getElem?_cons_succ, List.getElem?_nil, Option.getD_some, Option.getD_none, if_true, if_false, reduceIte, Option.map_some, Option.map_none, Option.bind_some, Option.bind_none, Option.isSome_some, List.map_cons, List.map_nil, AV.cells, List.length_cons, List.length_nil, List.all_cons, List.all_nil, AV.one, Value.oneCell', ne_eq, reduceCtorEq, Int.reduceNeg, Int.reduceEq, Int.reduceNe, Int.reduceAdd, Int.reduceSub, Int.reduceMul, Int.reduceLT, Int.reduceLE, Int.reduceToNat, List.drop_zero, List.take_zero, List.drop_succ_cons, List.take_succ_cons, List.nil_append, List.cons_append, List.append_nil, List.replicate_zero, List.flatten_nil, List.flatten_cons, List.reduceReplicate, ge_iff_le, gt_iff_lt, eq_self, Nat.add_assoc, facts, hasR_cons, hasR_nil, ren_raw, ren_ptr]
        all_goals first | (simp [plc]; done) | (simp [plc]; omega)

theorem drawEdition_ok {bs : List UInt8} {ci : Nat} (hn : bs.length ≤ 1048576) (h : Heap) (hr : rd h ci bs.length = some (rowU bs)) :
    AC Try.prog 38 [.sub ci bs.length 1 0 bs.length] h fun r h' => ∃ (s : Int) (xs : List Int) (E : Heap) (rid : Nat), edB s xs = true ∧ (∀ l, rd (h ++ (E ++ l)) rid xs.length = some (rowI xs)) ∧ r = edV s rid xs.length ∧ h' = h ++ E := by
  refine AC_go mixed ok38 (by simp) fun hc _ => ?_
  unfold L38
  repeat' (first | simp -implicitDefEqProofs only [Ab.R1, Ab.R2, Ab.R3, Ab.R4, Ab.R5, Ab.RH, Ab.RM, Ab.binV, Ab.binC, Nat.reduceLT, Nat.reduceBEq, Nat.reduceAdd, Nat.reduceMul, Nat.reduceEqDiff, Nat.reduceLeDiff, Nat.reduceSub, List.getElem?_cons_zero, List.getElem?_cons_succ, List.getElem?_nil, Option.getD_some, Option.getD_none, if_true, if_false, reduceIte, Option.map_some, Option.map_none, Option.bind_some, Option.bind_none, Option.isSome_some, List.map_cons, List.map_nil, AV.cells, List.length_cons, List.length_nil, List.all_cons, List.all_nil, AV.one, Value.oneCell', ne_eq, reduceCtorEq, Int.reduceNeg, Int.reduceEq, Int.reduceNe, Int.reduceAdd, Int.reduceSub, Int.reduceMul, Int.reduceLT, Int.reduceLE, Int.reduceToNat, List.drop_zero, List.take_zero, List.drop_succ_cons, List.take_succ_cons, List.nil_append, List.cons_append, List.append_nil, List.replicate_zero, List.flatten_nil, List.flatten_cons, List.reduceReplicate, ge_iff_le, gt_iff_lt, eq_self, Nat.add_assoc, facts, *] | simp (disch := omega) only [Ab.wrap_i64] | ((with_reducible refine Ab.gd_ndec (fun _ => ?_) (fun _ => ?_)) <;> try (exfalso; omega)) | ((with_reducible refine Ab.br_ndec (fun _ => ?_) (fun _ => ?_)) <;> try (exfalso; omega)) | ((with_reducible refine Ab.gd_dec (fun _ => ?_) (fun _ => ?_)) <;> try (exfalso; omega)) | ((with_reducible refine Ab.br_dec (fun _ => ?_) (fun _ => ?_)) <;> try (exfalso; omega)) | (with_reducible refine Ab.run_alt ?_ ?_) | (refine And.intro (by omega) ?_) | (refine gd_split (fun _ => ?_) (fun _ => ?_)) | (refine br_split (fun _ => ?_) (fun _ => ?_)) | omega)
  refine cl_any (new_at hn _ (rd_old hr _)) ?_
  rintro _ _ ⟨c, k0, rfl, rfl⟩
  repeat' (first | simp -implicitDefEqProofs only [Ab.R1, Ab.R2, Ab.R3, Ab.R4, Ab.R5, Ab.RH, Ab.RM, Ab.binV, Ab.binC, Nat.reduceLT, Nat.reduceBEq, Nat.reduceAdd, Nat.reduceMul, Nat.reduceEqDiff, Nat.reduceLeDiff, Nat.reduceSub, List.getElem?_cons_zero, List.getElem?_cons_succ, List.getElem?_nil, Option.getD_some, Option.getD_none, if_true, if_false, reduceIte, Option.map_some, Option.map_none, Option.bind_some, Option.bind_none, Option.isSome_some, List.map_cons, List.map_nil, AV.cells, List.length_cons, List.length_nil, List.all_cons, List.all_nil, AV.one, Value.oneCell', ne_eq, reduceCtorEq, Int.reduceNeg, Int.reduceEq, Int.reduceNe, Int.reduceAdd, Int.reduceSub, Int.reduceMul, Int.reduceLT, Int.reduceLE, Int.reduceToNat, List.drop_zero, List.take_zero, List.drop_succ_cons, List.take_succ_cons, List.nil_append, List.cons_append, List.append_nil, List.replicate_zero, List.flatten_nil, List.flatten_cons, List.reduceReplicate, ge_iff_le, gt_iff_lt, eq_self, Nat.add_assoc, facts, *] | simp (disch := omega) only [Ab.wrap_i64] | ((with_reducible refine Ab.gd_ndec (fun _ => ?_) (fun _ => ?_)) <;> try (exfalso; omega)) | ((with_reducible refine Ab.br_ndec (fun _ => ?_) (fun _ => ?_)) <;> try (exfalso; omega)) | ((with_reducible refine Ab.gd_dec (fun _ => ?_) (fun _ => ?_)) <;> try (exfalso; omega)) | ((with_reducible refine Ab.br_dec (fun _ => ?_) (fun _ => ?_)) <;> try (exfalso; omega)) | (with_reducible refine Ab.run_alt ?_ ?_) | (refine And.intro (by omega) ?_) | (refine gd_split (fun _ => ?_) (fun _ => ?_)) | (refine br_split (fun _ => ?_) (fun _ => ?_)) | omega)
  have hg : closedH (h ++ [ed0]) := closedH_append hc fun b hb => by
    rw [List.mem_singleton.1 hb]; rfl
  have := l28Edition_ok hn k0 _ hg (rd_old hr _)
  simp only [app_assoc, len_app, List.length_cons, List.length_nil, List.cons_append, List.nil_append, Nat.zero_add] at this
  refine cl_any this ?_
  rintro _ _ ⟨p, xs, E, hed, hE, rfl, rfl⟩
  have hl := rowI_len xs
  repeat' (first | simp -implicitDefEqProofs only [Ab.R1, Ab.R2, Ab.R3, Ab.R4, Ab.R5, Ab.RH, Ab.RM, Ab.binV, Ab.binC, Nat.reduceLT, Nat.reduceBEq, Nat.reduceAdd, Nat.reduceMul, Nat.reduceEqDiff, Nat.reduceLeDiff, Nat.reduceSub, List.getElem?_cons_zero, List.getElem?_cons_succ, List.getElem?_nil, Option.getD_some, Option.getD_none, if_true, if_false, reduceIte, Option.map_some, Option.map_none, Option.bind_some, Option.bind_none, Option.isSome_some, List.map_cons, List.map_nil, AV.cells, List.length_cons, List.length_nil, List.all_cons, List.all_nil, AV.one, Value.oneCell', ne_eq, reduceCtorEq, Int.reduceNeg, Int.reduceEq, Int.reduceNe, Int.reduceAdd, Int.reduceSub, Int.reduceMul, Int.reduceLT, Int.reduceLE, Int.reduceToNat, List.drop_zero, List.take_zero, List.drop_succ_cons, List.take_succ_cons, List.nil_append, List.cons_append, List.append_nil, List.replicate_zero, List.flatten_nil, List.flatten_cons, List.reduceReplicate, ge_iff_le, gt_iff_lt, eq_self, Nat.add_assoc, facts, *] | simp (disch := omega) only [Ab.wrap_i64] | ((with_reducible refine Ab.gd_ndec (fun _ => ?_) (fun _ => ?_)) <;> try (exfalso; omega)) | ((with_reducible refine Ab.br_ndec (fun _ => ?_) (fun _ => ?_)) <;> try (exfalso; omega)) | ((with_reducible refine Ab.gd_dec (fun _ => ?_) (fun _ => ?_)) <;> try (exfalso; omega)) | ((with_reducible refine Ab.br_dec (fun _ => ?_) (fun _ => ?_)) <;> try (exfalso; omega)) | (with_reducible refine Ab.run_alt ?_ ?_) | (refine And.intro (by omega) ?_) | (refine gd_split (fun _ => ?_) (fun _ => ?_)) | (refine br_split (fun _ => ?_) (fun _ => ?_)) | omega)
  refine ⟨p, xs, _, _, hed, fun l => ?_, rfl, rfl⟩
  rw [show h.length + (1 + 3) = h.length + (3 + 1) by omega]
  rw [rd_newk, List.cons_append, rd_cons]
  unfold rd
  rw [List.getElem?_append_left (lt_len hE), hE]
  simp [rowI_len]
theorem has_ok (xs : List Int) (x : Int) (id : Nat) (hx : xs.length ≤ 4194304) (h : Heap) (hr : rd h id xs.length = some (rowI xs)) :
    AC Try.prog 40 [.own id 1 xs.length, VI x] h fun r h' => r = VB (hasI xs x) ∧ h' = h := by
  refine AC_go mixed ok40 (by simp) fun hc _ => ?_
  unfold L40
  have hsa := sz_of hr
  repeat' (first | simp -implicitDefEqProofs only [Ab.R1, Ab.R2, Ab.R3, Ab.R4, Ab.R5, Ab.RH, Ab.RM, Ab.binV, Ab.binC, Nat.reduceLT, Nat.reduceBEq, Nat.reduceAdd, Nat.reduceMul, Nat.reduceEqDiff, Nat.reduceLeDiff, Nat.reduceSub, List.getElem?_cons_zero, List.getElem?_cons_succ, List.getElem?_nil, Option.getD_some, Option.getD_none, if_true, if_false, reduceIte, Option.map_some, Option.map_none, Option.bind_some, Option.bind_none, Option.isSome_some, List.map_cons, List.map_nil, AV.cells, List.length_cons, List.length_nil, List.all_cons, List.all_nil, AV.one, Value.oneCell', ne_eq, reduceCtorEq, Int.reduceNeg, Int.reduceEq, Int.reduceNe, Int.reduceAdd, Int.reduceSub, Int.reduceMul, Int.reduceLT, Int.reduceLE, Int.reduceToNat, List.drop_zero, List.take_zero, List.drop_succ_cons, List.take_succ_cons, List.nil_append, List.cons_append, List.append_nil, List.replicate_zero, List.flatten_nil, List.flatten_cons, List.reduceReplicate, ge_iff_le, gt_iff_lt, eq_self, Nat.add_assoc, facts, *] | simp (disch := omega) only [Ab.wrap_i64] | ((with_reducible refine Ab.gd_ndec (fun _ => ?_) (fun _ => ?_)) <;> try (exfalso; omega)) | ((with_reducible refine Ab.br_ndec (fun _ => ?_) (fun _ => ?_)) <;> try (exfalso; omega)) | ((with_reducible refine Ab.gd_dec (fun _ => ?_) (fun _ => ?_)) <;> try (exfalso; omega)) | ((with_reducible refine Ab.br_dec (fun _ => ?_) (fun _ => ?_)) <;> try (exfalso; omega)) | (with_reducible refine Ab.run_alt ?_ ?_) | (refine And.intro (by omega) ?_) | (refine gd_split (fun _ => ?_) (fun _ => ?_)) | (refine br_split (fun _ => ?_) (fun _ => ?_)) | omega)
  refine lw_loopS K40b0 (fun i : Nat => [(5, VI i)]) (fun _ => h) (fun i => i ≤ xs.length ∧ (xs.take i).any (fun y => decide (y = x)) = false) (fun i => xs.length - i) 0 ⟨by omega, rfl⟩ rfl (by (simp -implicitDefEqProofs only [Ab.R1, Ab.R2, Ab.R3, Ab.R4, Ab.R5, Ab.RH, Ab.RM, Ab.binV, Ab.binC, Nat.reduceLT, Nat.reduceBEq, Nat.reduceAdd, Nat.reduceMul, Nat.reduceEqDiff, Nat.reduceLeDiff, Nat.reduceSub, List.getElem?_cons_zero, List.getElem?_cons_succ, List.getElem?_nil, Option.getD_some, Option.getD_none, if_true, if_false, reduceIte, Option.map_some, Option.map_none, Option.bind_some, Option.bind_none, Option.isSome_some, List.map_cons, List.map_nil, AV.cells, List.length_cons, List.length_nil, List.all_cons, List.all_nil, AV.one, Value.oneCell', ne_eq, reduceCtorEq, Int.reduceNeg, Int.reduceEq, Int.reduceNe, Int.reduceAdd, Int.reduceSub, Int.reduceMul, Int.reduceLT, Int.reduceLE, Int.reduceToNat, List.drop_zero, List.take_zero, List.drop_succ_cons, List.take_succ_cons, List.nil_append, List.cons_append, List.append_nil, List.replicate_zero, List.flatten_nil, List.flatten_cons, List.reduceReplicate, ge_iff_le, gt_iff_lt, eq_self, Nat.add_assoc, facts] <;> first | rfl | exact ⟨rfl, rfl⟩ | exact ⟨rfl, rfl, rfl⟩ | (simp; done))) (fun _ i _ => .same hc (by simp only [Ab.leB_cons, Ab.leB_nil, Ab.ok_raw, Ab.ok_own, Ab.ok_ptr, Ab.ok_sub, Ab.okAll_nil, Ab.okAll_cons, Ab.refOk_app, Ab.refOk_app0, Ab.okB_zero, Ab.okB_succ, Ab.rowI_ok, Ab.rowB_ok, Ab.rowS_ok, Ab.rowU_ok, Ab.rowI_len, Ab.rowB_len, Ab.rowS_len, Ab.rowU_len, List.mem_cons, List.not_mem_nil, or_false, forall_eq, forall_eq_or_imp, List.forall_mem_cons, List.length_replicate, and_true, true_and, and_self, Nat.le_refl, Nat.zero_le, implies_true, List.length_set, List.length_append, List.length_cons, List.length_nil, List.length_map, Bool.and_true, Bool.true_and, Bool.and_self, decide_true, decide_eq_true_eq] <;> omega)) ?_
  intro i ⟨hi, ht⟩ _
  refine lw_run mixed ?_
  unfold L40b0 K40b0
  rcases Nat.lt_or_ge i xs.length with hlt | hge
  · obtain ⟨a, hxa⟩ := some_at hlt
    by_cases hax : a = x
    · have hh : hasI xs x = true := any_hit hxa (by simpa using hax)
      subst hax
      repeat' (first | simp -implicitDefEqProofs only [Ab.R1, Ab.R2, Ab.R3, Ab.R4, Ab.R5, Ab.RH, Ab.RM, Ab.binV, Ab.binC, Nat.reduceLT, Nat.reduceBEq, Nat.reduceAdd, Nat.reduceMul, Nat.reduceEqDiff, Nat.reduceLeDiff, Nat.reduceSub, List.getElem?_cons_zero, List.getElem?_cons_succ, List.getElem?_nil, Option.getD_some, Option.getD_none, if_true, if_false, reduceIte, Option.map_some, Option.map_none, Option.bind_some, Option.bind_none, Option.isSome_some, List.map_cons, List.map_nil, AV.cells, List.length_cons, List.length_nil, List.all_cons, List.all_nil, AV.one, Value.oneCell', ne_eq, reduceCtorEq, Int.reduceNeg, Int.reduceEq, Int.reduceNe, Int.reduceAdd, Int.reduceSub, Int.reduceMul, Int.reduceLT, Int.reduceLE, Int.reduceToNat, List.drop_zero, List.take_zero, List.drop_succ_cons, List.take_succ_cons, List.nil_append, List.cons_append, List.append_nil, List.replicate_zero, List.flatten_nil, List.flatten_cons, List.reduceReplicate, ge_iff_le, gt_iff_lt, eq_self, Nat.add_assoc, facts, *, rowI_at] | simp (disch := omega) only [Ab.wrap_i64] | ((with_reducible refine Ab.gd_ndec (fun _ => ?_) (fun _ => ?_)) <;> try (exfalso; omega)) | ((with_reducible refine Ab.br_ndec (fun _ => ?_) (fun _ => ?_)) <;> try (exfalso; omega)) | ((with_reducible refine Ab.gd_dec (fun _ => ?_) (fun _ => ?_)) <;> try (exfalso; omega)) | ((with_reducible refine Ab.br_dec (fun _ => ?_) (fun _ => ?_)) <;> try (exfalso; omega)) | (with_reducible refine Ab.run_alt ?_ ?_) | (refine And.intro (by omega) ?_) | (refine gd_split (fun _ => ?_) (fun _ => ?_)) | (refine br_split (fun _ => ?_) (fun _ => ?_)) | omega)
    · have hm := any_take hxa ht (decide_eq_false hax)
      repeat' (first | simp -implicitDefEqProofs only [Ab.R1, Ab.R2, Ab.R3, Ab.R4, Ab.R5, Ab.RH, Ab.RM, Ab.binV, Ab.binC, Nat.reduceLT, Nat.reduceBEq, Nat.reduceAdd, Nat.reduceMul, Nat.reduceEqDiff, Nat.reduceLeDiff, Nat.reduceSub, List.getElem?_cons_zero, List.getElem?_cons_succ, List.getElem?_nil, Option.getD_some, Option.getD_none, if_true, if_false, reduceIte, Option.map_some, Option.map_none, Option.bind_some, Option.bind_none, Option.isSome_some, List.map_cons, List.map_nil, AV.cells, List.length_cons, List.length_nil, List.all_cons, List.all_nil, AV.one, Value.oneCell', ne_eq, reduceCtorEq, Int.reduceNeg, Int.reduceEq, Int.reduceNe, Int.reduceAdd, Int.reduceSub, Int.reduceMul, Int.reduceLT, Int.reduceLE, Int.reduceToNat, List.drop_zero, List.take_zero, List.drop_succ_cons, List.take_succ_cons, List.nil_append, List.cons_append, List.append_nil, List.replicate_zero, List.flatten_nil, List.flatten_cons, List.reduceReplicate, ge_iff_le, gt_iff_lt, eq_self, Nat.add_assoc, facts, *, rowI_at] | simp (disch := omega) only [Ab.wrap_i64] | ((with_reducible refine Ab.gd_ndec (fun _ => ?_) (fun _ => ?_)) <;> try (exfalso; omega)) | ((with_reducible refine Ab.br_ndec (fun _ => ?_) (fun _ => ?_)) <;> try (exfalso; omega)) | ((with_reducible refine Ab.gd_dec (fun _ => ?_) (fun _ => ?_)) <;> try (exfalso; omega)) | ((with_reducible refine Ab.br_dec (fun _ => ?_) (fun _ => ?_)) <;> try (exfalso; omega)) | (with_reducible refine Ab.run_alt ?_ ?_) | (refine And.intro (by omega) ?_) | (refine gd_split (fun _ => ?_) (fun _ => ?_)) | (refine br_split (fun _ => ?_) (fun _ => ?_)) | omega)
      exact ⟨i + 1, [], by omega, ⟨by omega, hm⟩, by simp, by omega⟩
  · have hh : hasI xs x = false := any_none hge ht
    repeat' (first | simp -implicitDefEqProofs only [Ab.R1, Ab.R2, Ab.R3, Ab.R4, Ab.R5, Ab.RH, Ab.RM, Ab.binV, Ab.binC, Nat.reduceLT, Nat.reduceBEq, Nat.reduceAdd, Nat.reduceMul, Nat.reduceEqDiff, Nat.reduceLeDiff, Nat.reduceSub, List.getElem?_cons_zero, List.getElem?_cons_succ, List.getElem?_nil, Option.getD_some, Option.getD_none, if_true, if_false, reduceIte, Option.map_some, Option.map_none, Option.bind_some, Option.bind_none, Option.isSome_some, List.map_cons, List.map_nil, AV.cells, List.length_cons, List.length_nil, List.all_cons, List.all_nil, AV.one, Value.oneCell', ne_eq, reduceCtorEq, Int.reduceNeg, Int.reduceEq, Int.reduceNe, Int.reduceAdd, Int.reduceSub, Int.reduceMul, Int.reduceLT, Int.reduceLE, Int.reduceToNat, List.drop_zero, List.take_zero, List.drop_succ_cons, List.take_succ_cons, List.nil_append, List.cons_append, List.append_nil, List.replicate_zero, List.flatten_nil, List.flatten_cons, List.reduceReplicate, ge_iff_le, gt_iff_lt, eq_self, Nat.add_assoc, facts, *] | simp (disch := omega) only [Ab.wrap_i64] | ((with_reducible refine Ab.gd_ndec (fun _ => ?_) (fun _ => ?_)) <;> try (exfalso; omega)) | ((with_reducible refine Ab.br_ndec (fun _ => ?_) (fun _ => ?_)) <;> try (exfalso; omega)) | ((with_reducible refine Ab.gd_dec (fun _ => ?_) (fun _ => ?_)) <;> try (exfalso; omega)) | ((with_reducible refine Ab.br_dec (fun _ => ?_) (fun _ => ?_)) <;> try (exfalso; omega)) | (with_reducible refine Ab.run_alt ?_ ?_) | (refine And.intro (by omega) ?_) | (refine gd_split (fun _ => ?_) (fun _ => ?_)) | (refine br_split (fun _ => ?_) (fun _ => ?_)) | omega)
end

section
open Go Go.Ab

theorem sameInts_ok (xs ys : List Int) (ida idb : Nat) (hx : xs.length ≤ 4194304) (h : Heap) (ha : rd h ida xs.length = some (rowI xs)) (hb : rd h idb ys.length = some (rowI ys)) :
    AC Try.prog 39 [.own ida 1 xs.length, .own idb 1 ys.length] h fun r h' => r = VB (decide (xs = ys)) ∧ h' = h := by
  refine AC_go mixed ok39 (by simp) fun hc _ => ?_
  unfold L39
  have hsa := sz_of ha
  have hsb := sz_of hb
  repeat' (first | simp -implicitDefEqProofs only [Ab.R1, Ab.R2, Ab.R3, Ab.R4, Ab.R5, Ab.RH, Ab.RM, Ab.binV, Ab.binC, Nat.reduceLT, Nat.reduceBEq, Nat.reduceAdd, Nat.reduceMul, Nat.reduceEqDiff, Nat.reduceLeDiff, Nat.reduceSub, List.getElem?_cons_zero, List.getElem?_cons_succ, List.getElem?_nil, Option.getD_some, Option.getD_none, if_true, if_false, reduceIte, Option.map_some, Option.map_none, Option.bind_some, Option.bind_none, Option.isSome_some, List.map_cons, List.map_nil, AV.cells, List.length_cons, List.length_nil, List.all_cons, List.all_nil, AV.one, Value.oneCell', ne_eq, reduceCtorEq, Int.reduceNeg, Int.reduceEq, Int.reduceNe, Int.reduceAdd, Int.reduceSub, Int.reduceMul, Int.reduceLT, Int.reduceLE, Int.reduceToNat, List.drop_zero, List.take_zero, List.drop_succ_cons, List.take_succ_cons, List.nil_append, List.cons_append, List.append_nil, List.replicate_zero, List.flatten_nil, List.flatten_cons, List.reduceReplicate, ge_iff_le, gt_iff_lt, eq_self, Nat.add_assoc, facts, *] | simp (disch := omega) only [Ab.wrap_i64] | ((with_reducible refine Ab.gd_ndec (fun _ => ?_) (fun _ => ?_)) <;> try (exfalso; omega)) | ((with_reducible refine Ab.br_ndec (fun _ => ?_) (fun _ => ?_)) <;> try (exfalso; omega)) | ((with_reducible refine Ab.gd_dec (fun _ => ?_) (fun _ => ?_)) <;> try (exfalso; omega)) | ((with_reducible refine Ab.br_dec (fun _ => ?_) (fun _ => ?_)) <;> try (exfalso; omega)) | (with_reducible refine Ab.run_alt ?_ ?_) | (refine And.intro (by omega) ?_) | (refine gd_split (fun _ => ?_) (fun _ => ?_)) | (refine br_split (fun _ => ?_) (fun _ => ?_)) | omega)
  · exact (dec_ne_len (by omega)).symm
  · refine lw_loopS K39b0 (fun i : Nat => [(5, VI i)]) (fun _ => h) (fun i => i ≤ xs.length ∧ xs.take i = ys.take i) (fun i => xs.length - i) 0 ⟨by omega, rfl⟩ rfl (by (simp -implicitDefEqProofs only [Ab.R1, Ab.R2, Ab.R3, Ab.R4, Ab.R5, Ab.RH, Ab.RM, Ab.binV, Ab.binC, Nat.reduceLT, Nat.reduceBEq, Nat.reduceAdd, Nat.reduceMul, Nat.reduceEqDiff, Nat.reduceLeDiff, Nat.reduceSub, List.getElem?_cons_zero, List.getElem?_cons_succ, List.getElem?_nil, Option.getD_some, Option.getD_none, if_true, if_false, reduceIte, Option.map_some, Option.map_none, Option.bind_some, Option.bind_none, Option.isSome_some, List.map_cons, List.map_nil, AV.cells, List.length_cons, List.length_nil, List.all_cons, List.all_nil, AV.one, Value.oneCell', ne_eq, reduceCtorEq, Int.reduceNeg, Int.reduceEq, Int.reduceNe, Int.reduceAdd, Int.reduceSub, Int.reduceMul, Int.reduceLT, Int.reduceLE, Int.reduceToNat, List.drop_zero, List.take_zero, List.drop_succ_cons, List.take_succ_cons, List.nil_append, List.cons_append, List.append_nil, List.replicate_zero, List.flatten_nil, List.flatten_cons, List.reduceReplicate, ge_iff_le, gt_iff_lt, eq_self, Nat.add_assoc, facts] <;> first | rfl | exact ⟨rfl, rfl⟩ | exact ⟨rfl, rfl, rfl⟩ | (simp; done))) (fun _ i _ => .same hc (by simp only [Ab.leB_cons, Ab.leB_nil, Ab.ok_raw, Ab.ok_own, Ab.ok_ptr, Ab.ok_sub, Ab.okAll_nil, Ab.okAll_cons, Ab.refOk_app, Ab.refOk_app0, Ab.okB_zero, Ab.okB_succ, Ab.rowI_ok, Ab.rowB_ok, Ab.rowS_ok, Ab.rowU_ok, Ab.rowI_len, Ab.rowB_len, Ab.rowS_len, Ab.rowU_len, List.mem_cons, List.not_mem_nil, or_false, forall_eq, forall_eq_or_imp, List.forall_mem_cons, List.length_replicate, and_true, true_and, and_self, Nat.le_refl, Nat.zero_le, implies_true, List.length_set, List.length_append, List.length_cons, List.length_nil, List.length_map, Bool.and_true, Bool.true_and, Bool.and_self, decide_true, decide_eq_true_eq] <;> omega)) ?_
    intro i ⟨hi, ht⟩ _
    refine lw_run mixed ?_
    unfold L39b0 K39b0
    rcases Nat.lt_or_ge i xs.length with hlt | hge
    · obtain ⟨a, hxa⟩ := some_at hlt
      obtain ⟨b, hyb⟩ := some_at (show i < ys.length by omega)
      repeat' (first | simp -implicitDefEqProofs only [Ab.R1, Ab.R2, Ab.R3, Ab.R4, Ab.R5, Ab.RH, Ab.RM, Ab.binV, Ab.binC, Nat.reduceLT, Nat.reduceBEq, Nat.reduceAdd, Nat.reduceMul, Nat.reduceEqDiff, Nat.reduceLeDiff, Nat.reduceSub, List.getElem?_cons_zero, List.getElem?_cons_succ, List.getElem?_nil, Option.getD_some, Option.getD_none, if_true, if_false, reduceIte, Option.map_some, Option.map_none, Option.bind_some, Option.bind_none, Option.isSome_some, List.map_cons, List.map_nil, AV.cells, List.length_cons, List.length_nil, List.all_cons, List.all_nil, AV.one, Value.oneCell', ne_eq, reduceCtorEq, Int.reduceNeg, Int.reduceEq, Int.reduceNe, Int.reduceAdd, Int.reduceSub, Int.reduceMul, Int.reduceLT, Int.reduceLE, Int.reduceToNat, List.drop_zero, List.take_zero, List.drop_succ_cons, List.take_succ_cons, List.nil_append, List.cons_append, List.append_nil, List.replicate_zero, List.flatten_nil, List.flatten_cons, List.reduceReplicate, ge_iff_le, gt_iff_lt, eq_self, Nat.add_assoc, facts, *, rowI_at] | simp (disch := omega) only [Ab.wrap_i64] | ((with_reducible refine Ab.gd_ndec (fun _ => ?_) (fun _ => ?_)) <;> try (exfalso; omega)) | ((with_reducible refine Ab.br_ndec (fun _ => ?_) (fun _ => ?_)) <;> try (exfalso; omega)) | ((with_reducible refine Ab.gd_dec (fun _ => ?_) (fun _ => ?_)) <;> try (exfalso; omega)) | ((with_reducible refine Ab.br_dec (fun _ => ?_) (fun _ => ?_)) <;> try (exfalso; omega)) | (with_reducible refine Ab.run_alt ?_ ?_) | (refine And.intro (by omega) ?_) | (refine gd_split (fun _ => ?_) (fun _ => ?_)) | (refine br_split (fun _ => ?_) (fun _ => ?_)) | omega)
      · exact (decide_eq_false (differ_at hxa hyb ‹¬ a = b›)).symm
      · refine ⟨i + 1, [], by omega, ⟨by omega, take_more hxa hyb ht ‹a = b›⟩, by simp, by omega⟩
    · repeat' (first | simp -implicitDefEqProofs only [Ab.R1, Ab.R2, Ab.R3, Ab.R4, Ab.R5, Ab.RH, Ab.RM, Ab.binV, Ab.binC, Nat.reduceLT, Nat.reduceBEq, Nat.reduceAdd, Nat.reduceMul, Nat.reduceEqDiff, Nat.reduceLeDiff, Nat.reduceSub, List.getElem?_cons_zero, List.getElem?_cons_succ, List.getElem?_nil, Option.getD_some, Option.getD_none, if_true, if_false, reduceIte, Option.map_some, Option.map_none, Option.bind_some, Option.bind_none, Option.isSome_some, List.map_cons, List.map_nil, AV.cells, List.length_cons, List.length_nil, List.all_cons, List.all_nil, AV.one, Value.oneCell', ne_eq, reduceCtorEq, Int.reduceNeg, Int.reduceEq, Int.reduceNe, Int.reduceAdd, Int.reduceSub, Int.reduceMul, Int.reduceLT, Int.reduceLE, Int.reduceToNat, List.drop_zero, List.take_zero, List.drop_succ_cons, List.take_succ_cons, List.nil_append, List.cons_append, List.append_nil, List.replicate_zero, List.flatten_nil, List.flatten_cons, List.reduceReplicate, ge_iff_le, gt_iff_lt, eq_self, Nat.add_assoc, facts, *] | simp (disch := omega) only [Ab.wrap_i64] | ((with_reducible refine Ab.gd_ndec (fun _ => ?_) (fun _ => ?_)) <;> try (exfalso; omega)) | ((with_reducible refine Ab.br_ndec (fun _ => ?_) (fun _ => ?_)) <;> try (exfalso; omega)) | ((with_reducible refine Ab.gd_dec (fun _ => ?_) (fun _ => ?_)) <;> try (exfalso; omega)) | ((with_reducible refine Ab.br_dec (fun _ => ?_) (fun _ => ?_)) <;> try (exfalso; omega)) | (with_reducible refine Ab.run_alt ?_ ?_) | (refine And.intro (by omega) ?_) | (refine gd_split (fun _ => ?_) (fun _ => ?_)) | (refine br_split (fun _ => ?_) (fun _ => ?_)) | omega)
      exact (decide_eq_true (eq_of_len_take (by omega) (by omega) ht)).symm

/-- a round over the sold parts -/
theorem sum_room {s : Int} {xs : List Int} (h : edB s xs = true) {k : Nat} (hk : k ≤ (partL s xs).length) : 0 ≤ sumP ((partL s xs).take k) ∧ sumP ((partL s xs).take k) ≤ 250000 := by
  have h1 := sum_le h k
  have h2 := (edB_spec h).1
  have h3 := partL_le s xs
  have h4 : s * (k : Int) ≤ 500 * 500 := Int.mul_le_mul (by omega) (by omega) (by omega) (by omega)
  omega
/-- the heap by a name -/
theorem gen_heap {P : Program} {n : Nat} {h0 : Heap} {c : LC} {Q : Exit → S → Heap → Prop} {s : S} {h : Heap} (hh : ∀ H, H = h → LW P n h0 c Q s H) : LW P n h0 c Q s h := hh h rfl
theorem bb1 : (true == true) = true := rfl
theorem bb2 : (false == false) = true := rfl
theorem bb3 : (true == false) = false := rfl
theorem bb4 : (false == true) = false := rfl
theorem retX_no {s : Int} {xs : List Int} {n : Int} (h : retB s xs n = false) : retX s xs n = xs := if_neg (by rw [h]; decide)
theorem sellX_no {s : Int} {xs : List Int} {n : Int} (h : sellB s xs n = false) : sellX s xs n = xs := if_neg (by rw [h]; decide)

set_option maxHeartbeats 4000000 in
theorem lawSeries_ok (bs : List UInt8) (ci : Nat) (hm : bs.length ≤ maxLen) (h : Heap) (hr : rd h ci bs.length = some (rowU bs)) :
    AC Try.prog 9 [.sub ci bs.length 1 0 bs.length] h fun r _ => r = VB true := by
  refine AC_go mixed ok9 (by simp) fun hc _ => ?_
  unfold L9
  unfold maxLen at hm
  rcases Nat.lt_or_ge 1048576 bs.length with hbig | hn
  · repeat' (first | simp -implicitDefEqProofs only [Ab.R1, Ab.R2, Ab.R3, Ab.R4, Ab.R5, Ab.RH, Ab.RM, Ab.binV, Ab.binC, Nat.reduceLT, Nat.reduceBEq, Nat.reduceAdd, Nat.reduceMul, Nat.reduceEqDiff, Nat.reduceLeDiff, Nat.reduceSub, List.getElem?_cons_zero, List.getElem?_cons_succ, List.getElem?_nil, Option.getD_some, Option.getD_none, if_true, if_false, reduceIte, Option.map_some, Option.map_none, Option.bind_some, Option.bind_none, Option.isSome_some, List.map_cons, List.map_nil, AV.cells, List.length_cons, List.length_nil, List.all_cons, List.all_nil, AV.one, Value.oneCell', ne_eq, reduceCtorEq, Int.reduceNeg, Int.reduceEq, Int.reduceNe, Int.reduceAdd, Int.reduceSub, Int.reduceMul, Int.reduceLT, Int.reduceLE, Int.reduceToNat, List.drop_zero, List.take_zero, List.drop_succ_cons, List.take_succ_cons, List.nil_append, List.cons_append, List.append_nil, List.replicate_zero, List.flatten_nil, List.flatten_cons, List.reduceReplicate, ge_iff_le, gt_iff_lt, eq_self, Nat.add_assoc, facts, *] | simp (disch := omega) only [Ab.wrap_i64] | ((with_reducible refine Ab.gd_ndec (fun _ => ?_) (fun _ => ?_)) <;> try (exfalso; omega)) | ((with_reducible refine Ab.br_ndec (fun _ => ?_) (fun _ => ?_)) <;> try (exfalso; omega)) | ((with_reducible refine Ab.gd_dec (fun _ => ?_) (fun _ => ?_)) <;> try (exfalso; omega)) | ((with_reducible refine Ab.br_dec (fun _ => ?_) (fun _ => ?_)) <;> try (exfalso; omega)) | (with_reducible refine Ab.run_alt ?_ ?_) | (refine And.intro (by omega) ?_) | (refine gd_split (fun _ => ?_) (fun _ => ?_)) | (refine br_split (fun _ => ?_) (fun _ => ?_)) | (refine cl_same (big_ok bs ci _ hr) ?_) | omega)
  · repeat' (first | simp -implicitDefEqProofs only [Ab.R1, Ab.R2, Ab.R3, Ab.R4, Ab.R5, Ab.RH, Ab.RM, Ab.binV, Ab.binC, Nat.reduceLT, Nat.reduceBEq, Nat.reduceAdd, Nat.reduceMul, Nat.reduceEqDiff, Nat.reduceLeDiff, Nat.reduceSub, List.getElem?_cons_zero, List.getElem?_cons_succ, List.getElem?_nil, Option.getD_some, Option.getD_none, if_true, if_false, reduceIte, Option.map_some, Option.map_none, Option.bind_some, Option.bind_none, Option.isSome_some, List.map_cons, List.map_nil, AV.cells, List.length_cons, List.length_nil, List.all_cons, List.all_nil, AV.one, Value.oneCell', ne_eq, reduceCtorEq, Int.reduceNeg, Int.reduceEq, Int.reduceNe, Int.reduceAdd, Int.reduceSub, Int.reduceMul, Int.reduceLT, Int.reduceLE, Int.reduceToNat, List.drop_zero, List.take_zero, List.drop_succ_cons, List.take_succ_cons, List.nil_append, List.cons_append, List.append_nil, List.replicate_zero, List.flatten_nil, List.flatten_cons, List.reduceReplicate, ge_iff_le, gt_iff_lt, eq_self, Nat.add_assoc, facts, *] | simp (disch := omega) only [Ab.wrap_i64] | ((with_reducible refine Ab.gd_ndec (fun _ => ?_) (fun _ => ?_)) <;> try (exfalso; omega)) | ((with_reducible refine Ab.br_ndec (fun _ => ?_) (fun _ => ?_)) <;> try (exfalso; omega)) | ((with_reducible refine Ab.gd_dec (fun _ => ?_) (fun _ => ?_)) <;> try (exfalso; omega)) | ((with_reducible refine Ab.br_dec (fun _ => ?_) (fun _ => ?_)) <;> try (exfalso; omega)) | (with_reducible refine Ab.run_alt ?_ ?_) | (refine And.intro (by omega) ?_) | (refine gd_split (fun _ => ?_) (fun _ => ?_)) | (refine br_split (fun _ => ?_) (fun _ => ?_)) | (refine cl_same (big_ok bs ci _ hr) ?_) | omega)
    refine cl_any (drawEdition_ok hn _ hr) ?_
    rintro _ _ ⟨s, xs, E, rid, hed, hE, rfl, rfl⟩
    have hEs : ∀ l, sz (h ++ (E ++ l)) rid = some xs.length := fun l => sz_of (hE l)
    have hle := ed_le hed
    obtain ⟨hs1, hs2⟩ := (edB_spec hed).1
    have h64 := ed64 hed
    have q1 := rowI_len xs
    have hfl := free_len hed
    have cF := implFree_ok s xs rid (by omega) h64
    have cN := implNextS_ok s xs rid (by omega) h64
    have qF := rowI_len (freeL s xs)
    have hP := partL_le s xs
    have hPs := part_sum hed
    have hroom := fun k => sum_room (k := k) hed
    have hpat := fun (k : Nat) (p : PT) => part_at (k := k) (p := p) hed
    have hpap := fun (k : Nat) (p q : PT) => part_apart (k := k) (p := p) (q := q) hed
    have cR0 := implRet_ok s xs (s + 1) rid (by omega) h64
    rw [retX_no (ret_none hed), ret_none hed] at cR0
    have cE := implEd_ok s xs rid (by omega) h64
    rw [hed] at cE
    repeat' (first | simp -implicitDefEqProofs only [Ab.R1, Ab.R2, Ab.R3, Ab.R4, Ab.R5, Ab.RH, Ab.RM, Ab.binV, Ab.binC, Nat.reduceLT, Nat.reduceBEq, Nat.reduceAdd, Nat.reduceMul, Nat.reduceEqDiff, Nat.reduceLeDiff, Nat.reduceSub, List.getElem?_cons_zero, List.getElem?_cons_succ, List.getElem?_nil, Option.getD_some, Option.getD_none, if_true, if_false, reduceIte, Option.map_some, Option.map_none, Option.bind_some, Option.bind_none, Option.isSome_some, List.map_cons, List.map_nil, AV.cells, List.length_cons, List.length_nil, List.all_cons, List.all_nil, AV.one, Value.oneCell', ne_eq, reduceCtorEq, Int.reduceNeg, Int.reduceEq, Int.reduceNe, Int.reduceAdd, Int.reduceSub, Int.reduceMul, Int.reduceLT, Int.reduceLE, Int.reduceToNat, List.drop_zero, List.take_zero, List.drop_succ_cons, List.take_succ_cons, List.nil_append, List.cons_append, List.append_nil, List.replicate_zero, List.flatten_nil, List.flatten_cons, List.reduceReplicate, ge_iff_le, gt_iff_lt, eq_self, Nat.add_assoc, facts, *, rd_cons1, rd_cons2, rd_cons3, sz_cons1, sz_cons2, sz_cons3, wr_cons1, wr_cons2, wr_cons3, set_cons1, set_cons2, set_cons3] | simp (disch := omega) only [Ab.wrap_i64] | ((with_reducible refine Ab.gd_ndec (fun _ => ?_) (fun _ => ?_)) <;> try (exfalso; omega)) | ((with_reducible refine Ab.br_ndec (fun _ => ?_) (fun _ => ?_)) <;> try (exfalso; omega)) | ((with_reducible refine Ab.gd_dec (fun _ => ?_) (fun _ => ?_)) <;> try (exfalso; omega)) | ((with_reducible refine Ab.br_dec (fun _ => ?_) (fun _ => ?_)) <;> try (exfalso; omega)) | (with_reducible refine Ab.run_alt ?_ ?_) | (refine And.intro (by omega) ?_) | (refine gd_split (fun _ => ?_) (fun _ => ?_)) | (refine br_split (fun _ => ?_) (fun _ => ?_)) | (refine cl_more ( cF _ (hE _)) ?_) | omega)
    refine cl_any (parts_ex (implPart_ok s xs rid (by omega) h64 _ (hE _))) ?_
    rintro _ _ ⟨E2, hPE, rfl, rfl⟩
    have hE2l := hPE.len
    have at_ : ∀ {n m : Nat} {E : Heap}, PE n (partL s xs) E → n = m → PE m (partL s xs) E := fun h e => e ▸ h
    replace hPE := at_ hPE (m := h.length + (E.length + 2)) (by simp; try omega)
    have hN : ∀ r0 r1 l, NP (h ++ (E ++ (r0 :: r1 :: (E2 ++ l)))) (h.length + (E.length + 2)) (h.length + (E.length + 2) + 1) (partL s xs) := fun r0 r1 l => by
      have := hPE.np (h ++ (E ++ [r0, r1])) l (by simp; try omega)
      simpa only [List.append_assoc, List.cons_append, List.nil_append] using this
    clear hPE at_ hE2l
    generalize hPP : partL s xs = P at *
    clear hPP
    cases hF : freeL s xs with
    | nil =>
      obtain ⟨x1, x2⟩ := nextX_nil hF
      rw [hF, show ([] : List Int).length = 0 from rfl] at hfl qF
      rw [x1, x2] at cN
      have h00 : ((0 : Nat) : Int) = 0 := rfl
      clear x1 x2 cF
      repeat' (first | simp -implicitDefEqProofs only [Ab.R1, Ab.R2, Ab.R3, Ab.R4, Ab.R5, Ab.RH, Ab.RM, Ab.binV, Ab.binC, Nat.reduceLT, Nat.reduceBEq, Nat.reduceAdd, Nat.reduceMul, Nat.reduceEqDiff, Nat.reduceLeDiff, Nat.reduceSub, List.getElem?_cons_zero, List.getElem?_cons_succ, List.getElem?_nil, Option.getD_some, Option.getD_none, if_true, if_false, reduceIte, Option.map_some, Option.map_none, Option.bind_some, Option.bind_none, Option.isSome_some, List.map_cons, List.map_nil, AV.cells, List.length_cons, List.length_nil, List.all_cons, List.all_nil, AV.one, Value.oneCell', ne_eq, reduceCtorEq, Int.reduceNeg, Int.reduceEq, Int.reduceNe, Int.reduceAdd, Int.reduceSub, Int.reduceMul, Int.reduceLT, Int.reduceLE, Int.reduceToNat, List.drop_zero, List.take_zero, List.drop_succ_cons, List.take_succ_cons, List.nil_append, List.cons_append, List.append_nil, List.replicate_zero, List.flatten_nil, List.flatten_cons, List.reduceReplicate, ge_iff_le, gt_iff_lt, eq_self, Nat.add_assoc, facts, *, bb1, bb2, bb3, bb4, Bool.not_true, Bool.not_false, rd_cons1, rd_cons2, rd_cons3, sz_cons1, sz_cons2, sz_cons3, wr_cons1, wr_cons2, wr_cons3, set_cons1, set_cons2, set_cons3] | simp (disch := omega) only [Ab.wrap_i64] | ((with_reducible refine Ab.gd_ndec (fun _ => ?_) (fun _ => ?_)) <;> try (exfalso; omega)) | ((with_reducible refine Ab.br_ndec (fun _ => ?_) (fun _ => ?_)) <;> try (exfalso; omega)) | ((with_reducible refine Ab.gd_dec (fun _ => ?_) (fun _ => ?_)) <;> try (exfalso; omega)) | ((with_reducible refine Ab.br_dec (fun _ => ?_) (fun _ => ?_)) <;> try (exfalso; omega)) | (with_reducible refine Ab.run_alt ?_ ?_) | (refine And.intro (by omega) ?_) | (refine gd_split (fun _ => ?_) (fun _ => ?_)) | (refine br_split (fun _ => ?_) (fun _ => ?_)) | (refine cl_more ( cN _ (hE _)) ?_) | omega)
      refine gen_heap fun H hH => ?_
      have gE : ∀ l, rd (H ++ l) rid xs.length = some (rowI xs) := fun l => by rw [hH]; simp only [List.append_assoc, List.cons_append, List.nil_append]; exact hE _
      have gA : ∀ l, rd (H ++ l) (h.length + E.length) 2 = some [VI s, .own rid 1 xs.length] := fun l => by rw [hH]; simp -implicitDefEqProofs only [Ab.app_assoc, Ab.len_app, Ab.sz_newk, Ab.sz_new0, Ab.rd_newk, Ab.rd_new0, Ab.wr_newk, Ab.wr_new0, Ab.set_newk, Ab.set_new0, Ab.sz_cons, Ab.sz_row0, Ab.sz_ro0, Ab.rd_cons, Ab.rd_row, Ab.rd_ro0, Ab.wr_cons, Ab.wr_row, Ab.set_cons_zero, Ab.set_cons_succ, Ab.rowI_len, Ab.rowB_len, Ab.rowS_len, Ab.rowU_len, Nat.add_assoc, List.cons_append, List.nil_append, List.append_nil, List.length_cons, List.length_nil, Nat.reduceAdd, Nat.reduceSub, Nat.reduceEqDiff, Nat.zero_add, Nat.add_zero, Nat.mul_one, Nat.one_mul, if_true, if_false, reduceIte, reduceCtorEq, eq_self, rd_cons1, rd_cons2, rd_cons3, sz_cons1, sz_cons2, sz_cons3, wr_cons1, wr_cons2, wr_cons3, set_cons1, set_cons2, set_cons3]
      have gX : ∀ l, rd (H ++ l) (h.length + (E.length + (E2.length + 2))) (xs.length) = some (rowI xs) := fun l => by rw [hH]; simp -implicitDefEqProofs only [Ab.app_assoc, Ab.len_app, Ab.sz_newk, Ab.sz_new0, Ab.rd_newk, Ab.rd_new0, Ab.wr_newk, Ab.wr_new0, Ab.set_newk, Ab.set_new0, Ab.sz_cons, Ab.sz_row0, Ab.sz_ro0, Ab.rd_cons, Ab.rd_row, Ab.rd_ro0, Ab.wr_cons, Ab.wr_row, Ab.set_cons_zero, Ab.set_cons_succ, Ab.rowI_len, Ab.rowB_len, Ab.rowS_len, Ab.rowU_len, Nat.add_assoc, List.cons_append, List.nil_append, List.append_nil, List.length_cons, List.length_nil, Nat.reduceAdd, Nat.reduceSub, Nat.reduceEqDiff, Nat.zero_add, Nat.add_zero, Nat.mul_one, Nat.one_mul, if_true, if_false, reduceIte, reduceCtorEq, eq_self, q1, rd_cons1, rd_cons2, rd_cons3, sz_cons1, sz_cons2, sz_cons3, wr_cons1, wr_cons2, wr_cons3, set_cons1, set_cons2, set_cons3]
      have gB : ∀ l, rd (H ++ l) (h.length + (E.length + (E2.length + 3))) 2 = some [VI s, .own (h.length + (E.length + (E2.length + 2))) 1 (xs.length)] := fun l => by rw [hH]; simp -implicitDefEqProofs only [Ab.app_assoc, Ab.len_app, Ab.sz_newk, Ab.sz_new0, Ab.rd_newk, Ab.rd_new0, Ab.wr_newk, Ab.wr_new0, Ab.set_newk, Ab.set_new0, Ab.sz_cons, Ab.sz_row0, Ab.sz_ro0, Ab.rd_cons, Ab.rd_row, Ab.rd_ro0, Ab.wr_cons, Ab.wr_row, Ab.set_cons_zero, Ab.set_cons_succ, Ab.rowI_len, Ab.rowB_len, Ab.rowS_len, Ab.rowU_len, Nat.add_assoc, List.cons_append, List.nil_append, List.append_nil, List.length_cons, List.length_nil, Nat.reduceAdd, Nat.reduceSub, Nat.reduceEqDiff, Nat.zero_add, Nat.add_zero, Nat.mul_one, Nat.one_mul, if_true, if_false, reduceIte, reduceCtorEq, eq_self, rd_cons1, rd_cons2, rd_cons3, sz_cons1, sz_cons2, sz_cons3, wr_cons1, wr_cons2, wr_cons3, set_cons1, set_cons2, set_cons3]
      have gP : ∀ l, NP (H ++ l) (h.length + (E.length + 2)) (h.length + (E.length + 2) + 1) P := fun l => by rw [hH]; simp only [List.append_assoc, List.cons_append, List.nil_append]; exact hN _ _ _
      have gF : ∀ l, rd (H ++ l) (h.length + (E.length + 1)) 0 = some (rowI []) := fun l => by rw [hH]; simp -implicitDefEqProofs only [Ab.app_assoc, Ab.len_app, Ab.sz_newk, Ab.sz_new0, Ab.rd_newk, Ab.rd_new0, Ab.wr_newk, Ab.wr_new0, Ab.set_newk, Ab.set_new0, Ab.sz_cons, Ab.sz_row0, Ab.sz_ro0, Ab.rd_cons, Ab.rd_row, Ab.rd_ro0, Ab.wr_cons, Ab.wr_row, Ab.set_cons_zero, Ab.set_cons_succ, Ab.rowI_len, Ab.rowB_len, Ab.rowS_len, Ab.rowU_len, Nat.add_assoc, List.cons_append, List.nil_append, List.append_nil, List.length_cons, List.length_nil, Nat.reduceAdd, Nat.reduceSub, Nat.reduceEqDiff, Nat.zero_add, Nat.add_zero, Nat.mul_one, Nat.one_mul, if_true, if_false, reduceIte, reduceCtorEq, eq_self, rd_cons1, rd_cons2, rd_cons3, sz_cons1, sz_cons2, sz_cons3, wr_cons1, wr_cons2, wr_cons3, set_cons1, set_cons2, set_cons3]
      have gE0 := gE []; have gA0 := gA []; have gX0 := gX []; have gB0 := gB []; have gP0 := gP []; have gF0 := gF []
      rw [List.append_nil] at gE0 gA0 gX0 gB0 gP0 gF0
      clear hH hN hE hEs
      generalize h.length + E.length = i1 at *
      generalize h.length + (E.length + (E2.length + 2)) = i2 at *
      generalize h.length + (E.length + (E2.length + 3)) = i3 at *
      generalize h.length + (E.length + 2) + 1 = pb at *
      generalize h.length + (E.length + 2) = pid at *
      generalize h.length + (E.length + 1) = i4 at *
      have hol := oC_len pb P.length
      have hrow := gP0.row
      have hrows := sz_of hrow
      have sE := fun l => sz_of (gE l)
      have sF := fun l => sz_of (gF l)
      have sF0 := sz_of gF0
      have sX := fun l => sz_of (gX l)
      have sA := fun l => sz_of (gA l)
      have sB := fun l => sz_of (gB l)
      have sE0 := sz_of gE0; have sX0 := sz_of gX0; have sA0 := sz_of gA0; have sB0 := sz_of gB0
      refine lw_loopS K9b0 (fun k : Nat => [(8, VI (sumP (P.take k))), (9, VI k)]) (fun _ => _) (fun k => k ≤ P.length) (fun k => P.length - k) 0 (by omega) rfl ?_ (fun hc' _ _ => .same hc' (by simp [AV.ok])) ?_
      · (simp -implicitDefEqProofs only [Ab.R1, Ab.R2, Ab.R3, Ab.R4, Ab.R5, Ab.RH, Ab.RM, Ab.binV, Ab.binC, Nat.reduceLT, Nat.reduceBEq, Nat.reduceAdd, Nat.reduceMul, Nat.reduceEqDiff, Nat.reduceLeDiff, Nat.reduceSub, List.getElem?_cons_zero, List.getElem?_cons_succ, List.getElem?_nil, Option.getD_some, Option.getD_none, if_true, if_false, reduceIte, Option.map_some, Option.map_none, Option.bind_some, Option.bind_none, Option.isSome_some, List.map_cons, List.map_nil, AV.cells, List.length_cons, List.length_nil, List.all_cons, List.all_nil, AV.one, Value.oneCell', ne_eq, reduceCtorEq, Int.reduceNeg, Int.reduceEq, Int.reduceNe, Int.reduceAdd, Int.reduceSub, Int.reduceMul, Int.reduceLT, Int.reduceLE, Int.reduceToNat, List.drop_zero, List.take_zero, List.drop_succ_cons, List.take_succ_cons, List.nil_append, List.cons_append, List.append_nil, List.replicate_zero, List.flatten_nil, List.flatten_cons, List.reduceReplicate, ge_iff_le, gt_iff_lt, eq_self, Nat.add_assoc, facts] <;> first | rfl | exact ⟨rfl, rfl⟩ | exact ⟨rfl, rfl, rfl⟩ | (simp; done))
      intro k hk _
      refine lw_run mixed ?_
      unfold L9b0 K9b0
      obtain ⟨hr1, hr2⟩ := hroom k hk
      rcases Nat.lt_or_ge k P.length with hlt | hge
      · obtain ⟨p, hp⟩ := some_at hlt
        obtain ⟨p1, p2, p3⟩ := hpat k p hp
        have hz := oC_at (b := pb) hlt
        have hg := gP0.get k p hp
        have hgz := sz_of hg
        have hsm := sumP_more hp
        have he0 : (rowI [p.1, p.2])[0]? = some (VI p.1) := rfl
        have he1 : (rowI [p.1, p.2])[1]? = some (VI p.2) := rfl
        have hel : (rowI [p.1, p.2]).length = 2 := rfl
        generalize hS : sumP (P.take k) = S at *
        rcases Nat.eq_zero_or_pos k with rfl | hk0
        · simp only [Nat.add_zero] at hg hgz hz
          repeat' (first | simp -implicitDefEqProofs only [Ab.R1, Ab.R2, Ab.R3, Ab.R4, Ab.R5, Ab.RH, Ab.RM, Ab.binV, Ab.binC, Nat.reduceLT, Nat.reduceBEq, Nat.reduceAdd, Nat.reduceMul, Nat.reduceEqDiff, Nat.reduceLeDiff, Nat.reduceSub, List.getElem?_cons_zero, List.getElem?_cons_succ, List.getElem?_nil, Option.getD_some, Option.getD_none, if_true, if_false, reduceIte, Option.map_some, Option.map_none, Option.bind_some, Option.bind_none, Option.isSome_some, List.map_cons, List.map_nil, AV.cells, List.length_cons, List.length_nil, List.all_cons, List.all_nil, AV.one, Value.oneCell', ne_eq, reduceCtorEq, Int.reduceNeg, Int.reduceEq, Int.reduceNe, Int.reduceAdd, Int.reduceSub, Int.reduceMul, Int.reduceLT, Int.reduceLE, Int.reduceToNat, List.drop_zero, List.take_zero, List.drop_succ_cons, List.take_succ_cons, List.nil_append, List.cons_append, List.append_nil, List.replicate_zero, List.flatten_nil, List.flatten_cons, List.reduceReplicate, ge_iff_le, gt_iff_lt, eq_self, Nat.add_assoc, facts, *, rd_cons1, rd_cons2, rd_cons3, sz_cons1, sz_cons2, sz_cons3, wr_cons1, wr_cons2, wr_cons3, set_cons1, set_cons2, set_cons3] | simp (disch := omega) only [Ab.wrap_i64] | ((with_reducible refine Ab.gd_ndec (fun _ => ?_) (fun _ => ?_)) <;> try (exfalso; omega)) | ((with_reducible refine Ab.br_ndec (fun _ => ?_) (fun _ => ?_)) <;> try (exfalso; omega)) | ((with_reducible refine Ab.gd_dec (fun _ => ?_) (fun _ => ?_)) <;> try (exfalso; omega)) | ((with_reducible refine Ab.br_dec (fun _ => ?_) (fun _ => ?_)) <;> try (exfalso; omega)) | (with_reducible refine Ab.run_alt ?_ ?_) | (refine And.intro (by omega) ?_) | (refine gd_split (fun _ => ?_) (fun _ => ?_)) | (refine br_split (fun _ => ?_) (fun _ => ?_)) | omega)
          exact ⟨0 + 1, [], by omega, by omega, (List.append_nil _).symm, by rw [hsm]; omega, by omega⟩
        · obtain ⟨m, rfl⟩ : ∃ m, k = m + 1 := ⟨k - 1, by omega⟩
          obtain ⟨q, hq⟩ := some_at (show m < P.length by omega)
          have hpq := hpap m q p hq hp
          obtain ⟨q1', q2', q3'⟩ := hpat m q hq
          have he2 : (rowI [q.1, q.2])[1]? = some (VI q.2) := rfl
          have hel2 : (rowI [q.1, q.2]).length = 2 := rfl
          have hz' := oC_at (b := pb) (show m < P.length by omega)
          have hg' := gP0.get m q hq
          have hgz' := sz_of hg'
          have hm1 : ((m + 1 : Nat) : Int) - 1 = m := by omega
          repeat' (first | simp -implicitDefEqProofs only [Ab.R1, Ab.R2, Ab.R3, Ab.R4, Ab.R5, Ab.RH, Ab.RM, Ab.binV, Ab.binC, Nat.reduceLT, Nat.reduceBEq, Nat.reduceAdd, Nat.reduceMul, Nat.reduceEqDiff, Nat.reduceLeDiff, Nat.reduceSub, List.getElem?_cons_zero, List.getElem?_cons_succ, List.getElem?_nil, Option.getD_some, Option.getD_none, if_true, if_false, reduceIte, Option.map_some, Option.map_none, Option.bind_some, Option.bind_none, Option.isSome_some, List.map_cons, List.map_nil, AV.cells, List.length_cons, List.length_nil, List.all_cons, List.all_nil, AV.one, Value.oneCell', ne_eq, reduceCtorEq, Int.reduceNeg, Int.reduceEq, Int.reduceNe, Int.reduceAdd, Int.reduceSub, Int.reduceMul, Int.reduceLT, Int.reduceLE, Int.reduceToNat, List.drop_zero, List.take_zero, List.drop_succ_cons, List.take_succ_cons, List.nil_append, List.cons_append, List.append_nil, List.replicate_zero, List.flatten_nil, List.flatten_cons, List.reduceReplicate, ge_iff_le, gt_iff_lt, eq_self, Nat.add_assoc, facts, *, rd_cons1, rd_cons2, rd_cons3, sz_cons1, sz_cons2, sz_cons3, wr_cons1, wr_cons2, wr_cons3, set_cons1, set_cons2, set_cons3] | simp (disch := omega) only [Ab.wrap_i64] | ((with_reducible refine Ab.gd_ndec (fun _ => ?_) (fun _ => ?_)) <;> try (exfalso; omega)) | ((with_reducible refine Ab.br_ndec (fun _ => ?_) (fun _ => ?_)) <;> try (exfalso; omega)) | ((with_reducible refine Ab.gd_dec (fun _ => ?_) (fun _ => ?_)) <;> try (exfalso; omega)) | ((with_reducible refine Ab.br_dec (fun _ => ?_) (fun _ => ?_)) <;> try (exfalso; omega)) | (with_reducible refine Ab.run_alt ?_ ?_) | (refine And.intro (by omega) ?_) | (refine gd_split (fun _ => ?_) (fun _ => ?_)) | (refine br_split (fun _ => ?_) (fun _ => ?_)) | omega)
          exact ⟨m + 1 + 1, [], by omega, by omega, (List.append_nil _).symm, by rw [hsm]; omega, by omega⟩
      · have hti : P.take k = P := take_all hge
        rw [hti, hPs]
        clear hrow hol hr1 hr2 hpat hpap hroom hPs hP hti gP gP0
        repeat' (first | simp -implicitDefEqProofs only [Ab.R1, Ab.R2, Ab.R3, Ab.R4, Ab.R5, Ab.RH, Ab.RM, Ab.binV, Ab.binC, Nat.reduceLT, Nat.reduceBEq, Nat.reduceAdd, Nat.reduceMul, Nat.reduceEqDiff, Nat.reduceLeDiff, Nat.reduceSub, List.getElem?_cons_zero, List.getElem?_cons_succ, List.getElem?_nil, Option.getD_some, Option.getD_none, if_true, if_false, reduceIte, Option.map_some, Option.map_none, Option.bind_some, Option.bind_none, Option.isSome_some, List.map_cons, List.map_nil, AV.cells, List.length_cons, List.length_nil, List.all_cons, List.all_nil, AV.one, Value.oneCell', ne_eq, reduceCtorEq, Int.reduceNeg, Int.reduceEq, Int.reduceNe, Int.reduceAdd, Int.reduceSub, Int.reduceMul, Int.reduceLT, Int.reduceLE, Int.reduceToNat, List.drop_zero, List.take_zero, List.drop_succ_cons, List.take_succ_cons, List.nil_append, List.cons_append, List.append_nil, List.replicate_zero, List.flatten_nil, List.flatten_cons, List.reduceReplicate, ge_iff_le, gt_iff_lt, eq_self, Nat.add_assoc, facts, *, rd_cons1, rd_cons2, rd_cons3, sz_cons1, sz_cons2, sz_cons3, wr_cons1, wr_cons2, wr_cons3, set_cons1, set_cons2, set_cons3] | simp (disch := omega) only [Ab.wrap_i64] | ((with_reducible refine Ab.gd_ndec (fun _ => ?_) (fun _ => ?_)) <;> try (exfalso; omega)) | ((with_reducible refine Ab.br_ndec (fun _ => ?_) (fun _ => ?_)) <;> try (exfalso; omega)) | ((with_reducible refine Ab.gd_dec (fun _ => ?_) (fun _ => ?_)) <;> try (exfalso; omega)) | ((with_reducible refine Ab.br_dec (fun _ => ?_) (fun _ => ?_)) <;> try (exfalso; omega)) | (with_reducible refine Ab.run_alt ?_ ?_) | (refine And.intro (by omega) ?_) | (refine gd_split (fun _ => ?_) (fun _ => ?_)) | (refine br_split (fun _ => ?_) (fun _ => ?_)) | (refine cl_more ( cR0 _ gE0) ?_) | (refine cl_more ( cR0 _ (gE _)) ?_) | (refine cl_same (cE _ (gE _)) ?_) | omega)
    | cons f fs =>
      obtain ⟨x1, x2⟩ := nextX_cons hF
      have hfm : f ∈ freeL s xs := by rw [hF]; exact List.mem_cons_self
      obtain ⟨f1, f2, _⟩ := free_at hed hfm
      have hef := free_sell hed hfm
      have h64f := ed64 hef
      have hlf : (xs ++ [f]).length = xs.length + 1 := by simp
      have cR := implRet_ok s (xs ++ [f]) f
      rw [(ret_free hed hfm).1, (ret_free hed hfm).2] at cR
      have cT := implSell_ok s (xs ++ [f]) f
      rw [sell_twice f, sellX_no (sell_twice f)] at cT
      have cEf := implEd_ok s (xs ++ [f])
      rw [hef] at cEf
      rw [x1, x2] at cN
      rw [hlf] at cR cT cEf cN
      obtain ⟨z, hz0⟩ : ∃ z, (freeL s xs)[fs.length]? = some z := some_at (by rw [hF]; simp)
      have hzm : z ∈ freeL s xs := List.mem_of_getElem? hz0
      obtain ⟨z1, z2, _⟩ := free_at hed hzm
      have hlz : (xs ++ [z]).length = xs.length + 1 := by simp
      have cZ := implSell_ok s xs z rid
      rw [(sell_free hed hzm).1, (sell_free hed hzm).2, hlz] at cZ
      have hhas : hasI (xs ++ [z]) z = true := hasI_iff.2 (by simp)
      have cH := has_ok (xs ++ [z]) z
      rw [hhas, hlz] at cH
      have cS := sameInts_ok xs xs
      rw [decide_eq_true (rfl : xs = xs)] at cS
      have qf := rowI_len (xs ++ [f])
      have qz := rowI_len (xs ++ [z])
      rw [hlf] at qf
      rw [hlz] at qz
      rw [hF] at hfl qF hz0
      have hzr : (rowI (f :: fs))[fs.length]? = some (VI z) := by rw [rowI_at, hz0]; rfl
      have hf0 : (rowI (f :: fs))[0]? = some (VI f) := rfl
      have hlc : (f :: fs).length = fs.length + 1 := rfl
      rw [hlc] at hfl qF
      have hn1 : (f = 0) = False := eq_false (by omega)
      have hn2 : (((fs.length + 1 : Nat) : Int) = 0) = False := eq_false (by omega)
      have hn3 : (0 < f) = True := eq_true (by omega)
      have hn4 : (0 < ((fs.length + 1 : Nat) : Int)) = True := eq_true (by omega)
      have hfl1 : ((fs.length + 1 : Nat) : Int) - 1 = fs.length := by omega
      clear x1 x2 hhas hz0 hfm hzm hlz hlf cF
      repeat' (first | simp -implicitDefEqProofs only [Ab.R1, Ab.R2, Ab.R3, Ab.R4, Ab.R5, Ab.RH, Ab.RM, Ab.binV, Ab.binC, Nat.reduceLT, Nat.reduceBEq, Nat.reduceAdd, Nat.reduceMul, Nat.reduceEqDiff, Nat.reduceLeDiff, Nat.reduceSub, List.getElem?_cons_zero, List.getElem?_cons_succ, List.getElem?_nil, Option.getD_some, Option.getD_none, if_true, if_false, reduceIte, Option.map_some, Option.map_none, Option.bind_some, Option.bind_none, Option.isSome_some, List.map_cons, List.map_nil, AV.cells, List.length_cons, List.length_nil, List.all_cons, List.all_nil, AV.one, Value.oneCell', ne_eq, reduceCtorEq, Int.reduceNeg, Int.reduceEq, Int.reduceNe, Int.reduceAdd, Int.reduceSub, Int.reduceMul, Int.reduceLT, Int.reduceLE, Int.reduceToNat, List.drop_zero, List.take_zero, List.drop_succ_cons, List.take_succ_cons, List.nil_append, List.cons_append, List.append_nil, List.replicate_zero, List.flatten_nil, List.flatten_cons, List.reduceReplicate, ge_iff_le, gt_iff_lt, eq_self, Nat.add_assoc, facts, *, bb1, bb2, bb3, bb4, Bool.not_true, Bool.not_false, rd_cons1, rd_cons2, rd_cons3, sz_cons1, sz_cons2, sz_cons3, wr_cons1, wr_cons2, wr_cons3, set_cons1, set_cons2, set_cons3] | simp (disch := omega) only [Ab.wrap_i64] | ((with_reducible refine Ab.gd_ndec (fun _ => ?_) (fun _ => ?_)) <;> try (exfalso; omega)) | ((with_reducible refine Ab.br_ndec (fun _ => ?_) (fun _ => ?_)) <;> try (exfalso; omega)) | ((with_reducible refine Ab.gd_dec (fun _ => ?_) (fun _ => ?_)) <;> try (exfalso; omega)) | ((with_reducible refine Ab.br_dec (fun _ => ?_) (fun _ => ?_)) <;> try (exfalso; omega)) | (with_reducible refine Ab.run_alt ?_ ?_) | (refine And.intro (by omega) ?_) | (refine gd_split (fun _ => ?_) (fun _ => ?_)) | (refine br_split (fun _ => ?_) (fun _ => ?_)) | (refine cl_more ( cN _ (hE _)) ?_) | omega)
      refine gen_heap fun H hH => ?_
      have gE : ∀ l, rd (H ++ l) rid xs.length = some (rowI xs) := fun l => by rw [hH]; simp only [List.append_assoc, List.cons_append, List.nil_append]; exact hE _
      have gA : ∀ l, rd (H ++ l) (h.length + E.length) 2 = some [VI s, .own rid 1 xs.length] := fun l => by rw [hH]; simp -implicitDefEqProofs only [Ab.app_assoc, Ab.len_app, Ab.sz_newk, Ab.sz_new0, Ab.rd_newk, Ab.rd_new0, Ab.wr_newk, Ab.wr_new0, Ab.set_newk, Ab.set_new0, Ab.sz_cons, Ab.sz_row0, Ab.sz_ro0, Ab.rd_cons, Ab.rd_row, Ab.rd_ro0, Ab.wr_cons, Ab.wr_row, Ab.set_cons_zero, Ab.set_cons_succ, Ab.rowI_len, Ab.rowB_len, Ab.rowS_len, Ab.rowU_len, Nat.add_assoc, List.cons_append, List.nil_append, List.append_nil, List.length_cons, List.length_nil, Nat.reduceAdd, Nat.reduceSub, Nat.reduceEqDiff, Nat.zero_add, Nat.add_zero, Nat.mul_one, Nat.one_mul, if_true, if_false, reduceIte, reduceCtorEq, eq_self, rd_cons1, rd_cons2, rd_cons3, sz_cons1, sz_cons2, sz_cons3, wr_cons1, wr_cons2, wr_cons3, set_cons1, set_cons2, set_cons3]
      have gX : ∀ l, rd (H ++ l) (h.length + (E.length + (E2.length + 2))) (xs.length + 1) = some (rowI (xs ++ [f])) := fun l => by rw [hH]; simp -implicitDefEqProofs only [Ab.app_assoc, Ab.len_app, Ab.sz_newk, Ab.sz_new0, Ab.rd_newk, Ab.rd_new0, Ab.wr_newk, Ab.wr_new0, Ab.set_newk, Ab.set_new0, Ab.sz_cons, Ab.sz_row0, Ab.sz_ro0, Ab.rd_cons, Ab.rd_row, Ab.rd_ro0, Ab.wr_cons, Ab.wr_row, Ab.set_cons_zero, Ab.set_cons_succ, Ab.rowI_len, Ab.rowB_len, Ab.rowS_len, Ab.rowU_len, Nat.add_assoc, List.cons_append, List.nil_append, List.append_nil, List.length_cons, List.length_nil, Nat.reduceAdd, Nat.reduceSub, Nat.reduceEqDiff, Nat.zero_add, Nat.add_zero, Nat.mul_one, Nat.one_mul, if_true, if_false, reduceIte, reduceCtorEq, eq_self, qf, rd_cons1, rd_cons2, rd_cons3, sz_cons1, sz_cons2, sz_cons3, wr_cons1, wr_cons2, wr_cons3, set_cons1, set_cons2, set_cons3]
      have gB : ∀ l, rd (H ++ l) (h.length + (E.length + (E2.length + 3))) 2 = some [VI s, .own (h.length + (E.length + (E2.length + 2))) 1 (xs.length + 1)] := fun l => by rw [hH]; simp -implicitDefEqProofs only [Ab.app_assoc, Ab.len_app, Ab.sz_newk, Ab.sz_new0, Ab.rd_newk, Ab.rd_new0, Ab.wr_newk, Ab.wr_new0, Ab.set_newk, Ab.set_new0, Ab.sz_cons, Ab.sz_row0, Ab.sz_ro0, Ab.rd_cons, Ab.rd_row, Ab.rd_ro0, Ab.wr_cons, Ab.wr_row, Ab.set_cons_zero, Ab.set_cons_succ, Ab.rowI_len, Ab.rowB_len, Ab.rowS_len, Ab.rowU_len, Nat.add_assoc, List.cons_append, List.nil_append, List.append_nil, List.length_cons, List.length_nil, Nat.reduceAdd, Nat.reduceSub, Nat.reduceEqDiff, Nat.zero_add, Nat.add_zero, Nat.mul_one, Nat.one_mul, if_true, if_false, reduceIte, reduceCtorEq, eq_self, rd_cons1, rd_cons2, rd_cons3, sz_cons1, sz_cons2, sz_cons3, wr_cons1, wr_cons2, wr_cons3, set_cons1, set_cons2, set_cons3]
      have gP : ∀ l, NP (H ++ l) (h.length + (E.length + 2)) (h.length + (E.length + 2) + 1) P := fun l => by rw [hH]; simp only [List.append_assoc, List.cons_append, List.nil_append]; exact hN _ _ _
      have gF : ∀ l, rd (H ++ l) (h.length + (E.length + 1)) (fs.length + 1) = some (rowI (f :: fs)) := fun l => by rw [hH]; simp -implicitDefEqProofs only [Ab.app_assoc, Ab.len_app, Ab.sz_newk, Ab.sz_new0, Ab.rd_newk, Ab.rd_new0, Ab.wr_newk, Ab.wr_new0, Ab.set_newk, Ab.set_new0, Ab.sz_cons, Ab.sz_row0, Ab.sz_ro0, Ab.rd_cons, Ab.rd_row, Ab.rd_ro0, Ab.wr_cons, Ab.wr_row, Ab.set_cons_zero, Ab.set_cons_succ, Ab.rowI_len, Ab.rowB_len, Ab.rowS_len, Ab.rowU_len, Nat.add_assoc, List.cons_append, List.nil_append, List.append_nil, List.length_cons, List.length_nil, Nat.reduceAdd, Nat.reduceSub, Nat.reduceEqDiff, Nat.zero_add, Nat.add_zero, Nat.mul_one, Nat.one_mul, if_true, if_false, reduceIte, reduceCtorEq, eq_self, qF, rd_cons1, rd_cons2, rd_cons3, sz_cons1, sz_cons2, sz_cons3, wr_cons1, wr_cons2, wr_cons3, set_cons1, set_cons2, set_cons3]
      have gE0 := gE []; have gA0 := gA []; have gX0 := gX []; have gB0 := gB []; have gP0 := gP []; have gF0 := gF []
      rw [List.append_nil] at gE0 gA0 gX0 gB0 gP0 gF0
      clear hH hN hE hEs
      generalize h.length + E.length = i1 at *
      generalize h.length + (E.length + (E2.length + 2)) = i2 at *
      generalize h.length + (E.length + (E2.length + 3)) = i3 at *
      generalize h.length + (E.length + 2) + 1 = pb at *
      generalize h.length + (E.length + 2) = pid at *
      generalize h.length + (E.length + 1) = i4 at *
      have hol := oC_len pb P.length
      have hrow := gP0.row
      have hrows := sz_of hrow
      have sE := fun l => sz_of (gE l)
      have sX := fun l => sz_of (gX l)
      have sA := fun l => sz_of (gA l)
      have sB := fun l => sz_of (gB l)
      have sE0 := sz_of gE0; have sX0 := sz_of gX0; have sA0 := sz_of gA0; have sB0 := sz_of gB0
      have sF := fun l => sz_of (gF l)
      have sF0 := sz_of gF0
      refine lw_loopS K9b0 (fun k : Nat => [(8, VI (sumP (P.take k))), (9, VI k)]) (fun _ => _) (fun k => k ≤ P.length) (fun k => P.length - k) 0 (by omega) rfl ?_ (fun hc' _ _ => .same hc' (by simp [AV.ok])) ?_
      · (simp -implicitDefEqProofs only [Ab.R1, Ab.R2, Ab.R3, Ab.R4, Ab.R5, Ab.RH, Ab.RM, Ab.binV, Ab.binC, Nat.reduceLT, Nat.reduceBEq, Nat.reduceAdd, Nat.reduceMul, Nat.reduceEqDiff, Nat.reduceLeDiff, Nat.reduceSub, List.getElem?_cons_zero, List.getElem?_cons_succ, List.getElem?_nil, Option.getD_some, Option.getD_none, if_true, if_false, reduceIte, Option.map_some, Option.map_none, Option.bind_some, Option.bind_none, Option.isSome_some, List.map_cons, List.map_nil, AV.cells, List.length_cons, List.length_nil, List.all_cons, List.all_nil, AV.one, Value.oneCell', ne_eq, reduceCtorEq, Int.reduceNeg, Int.reduceEq, Int.reduceNe, Int.reduceAdd, Int.reduceSub, Int.reduceMul, Int.reduceLT, Int.reduceLE, Int.reduceToNat, List.drop_zero, List.take_zero, List.drop_succ_cons, List.take_succ_cons, List.nil_append, List.cons_append, List.append_nil, List.replicate_zero, List.flatten_nil, List.flatten_cons, List.reduceReplicate, ge_iff_le, gt_iff_lt, eq_self, Nat.add_assoc, facts] <;> first | rfl | exact ⟨rfl, rfl⟩ | exact ⟨rfl, rfl, rfl⟩ | (simp; done))
      intro k hk _
      refine lw_run mixed ?_
      unfold L9b0 K9b0
      obtain ⟨hr1, hr2⟩ := hroom k hk
      rcases Nat.lt_or_ge k P.length with hlt | hge
      · obtain ⟨p, hp⟩ := some_at hlt
        obtain ⟨p1, p2, p3⟩ := hpat k p hp
        have hz := oC_at (b := pb) hlt
        have hg := gP0.get k p hp
        have hgz := sz_of hg
        have hsm := sumP_more hp
        have he0 : (rowI [p.1, p.2])[0]? = some (VI p.1) := rfl
        have he1 : (rowI [p.1, p.2])[1]? = some (VI p.2) := rfl
        have hel : (rowI [p.1, p.2]).length = 2 := rfl
        generalize hS : sumP (P.take k) = S at *
        rcases Nat.eq_zero_or_pos k with rfl | hk0
        · simp only [Nat.add_zero] at hg hgz hz
          repeat' (first | simp -implicitDefEqProofs only [Ab.R1, Ab.R2, Ab.R3, Ab.R4, Ab.R5, Ab.RH, Ab.RM, Ab.binV, Ab.binC, Nat.reduceLT, Nat.reduceBEq, Nat.reduceAdd, Nat.reduceMul, Nat.reduceEqDiff, Nat.reduceLeDiff, Nat.reduceSub, List.getElem?_cons_zero, List.getElem?_cons_succ, List.getElem?_nil, Option.getD_some, Option.getD_none, if_true, if_false, reduceIte, Option.map_some, Option.map_none, Option.bind_some, Option.bind_none, Option.isSome_some, List.map_cons, List.map_nil, AV.cells, List.length_cons, List.length_nil, List.all_cons, List.all_nil, AV.one, Value.oneCell', ne_eq, reduceCtorEq, Int.reduceNeg, Int.reduceEq, Int.reduceNe, Int.reduceAdd, Int.reduceSub, Int.reduceMul, Int.reduceLT, Int.reduceLE, Int.reduceToNat, List.drop_zero, List.take_zero, List.drop_succ_cons, List.take_succ_cons, List.nil_append, List.cons_append, List.append_nil, List.replicate_zero, List.flatten_nil, List.flatten_cons, List.reduceReplicate, ge_iff_le, gt_iff_lt, eq_self, Nat.add_assoc, facts, *, rd_cons1, rd_cons2, rd_cons3, sz_cons1, sz_cons2, sz_cons3, wr_cons1, wr_cons2, wr_cons3, set_cons1, set_cons2, set_cons3] | simp (disch := omega) only [Ab.wrap_i64] | ((with_reducible refine Ab.gd_ndec (fun _ => ?_) (fun _ => ?_)) <;> try (exfalso; omega)) | ((with_reducible refine Ab.br_ndec (fun _ => ?_) (fun _ => ?_)) <;> try (exfalso; omega)) | ((with_reducible refine Ab.gd_dec (fun _ => ?_) (fun _ => ?_)) <;> try (exfalso; omega)) | ((with_reducible refine Ab.br_dec (fun _ => ?_) (fun _ => ?_)) <;> try (exfalso; omega)) | (with_reducible refine Ab.run_alt ?_ ?_) | (refine And.intro (by omega) ?_) | (refine gd_split (fun _ => ?_) (fun _ => ?_)) | (refine br_split (fun _ => ?_) (fun _ => ?_)) | omega)
          exact ⟨0 + 1, [], by omega, by omega, (List.append_nil _).symm, by rw [hsm]; omega, by omega⟩
        · obtain ⟨m, rfl⟩ : ∃ m, k = m + 1 := ⟨k - 1, by omega⟩
          obtain ⟨q, hq⟩ := some_at (show m < P.length by omega)
          have hpq := hpap m q p hq hp
          obtain ⟨q1', q2', q3'⟩ := hpat m q hq
          have he2 : (rowI [q.1, q.2])[1]? = some (VI q.2) := rfl
          have hel2 : (rowI [q.1, q.2]).length = 2 := rfl
          have hz' := oC_at (b := pb) (show m < P.length by omega)
          have hg' := gP0.get m q hq
          have hgz' := sz_of hg'
          have hm1 : ((m + 1 : Nat) : Int) - 1 = m := by omega
          repeat' (first | simp -implicitDefEqProofs only [Ab.R1, Ab.R2, Ab.R3, Ab.R4, Ab.R5, Ab.RH, Ab.RM, Ab.binV, Ab.binC, Nat.reduceLT, Nat.reduceBEq, Nat.reduceAdd, Nat.reduceMul, Nat.reduceEqDiff, Nat.reduceLeDiff, Nat.reduceSub, List.getElem?_cons_zero, List.getElem?_cons_succ, List.getElem?_nil, Option.getD_some, Option.getD_none, if_true, if_false, reduceIte, Option.map_some, Option.map_none, Option.bind_some, Option.bind_none, Option.isSome_some, List.map_cons, List.map_nil, AV.cells, List.length_cons, List.length_nil, List.all_cons, List.all_nil, AV.one, Value.oneCell', ne_eq, reduceCtorEq, Int.reduceNeg, Int.reduceEq, Int.reduceNe, Int.reduceAdd, Int.reduceSub, Int.reduceMul, Int.reduceLT, Int.reduceLE, Int.reduceToNat, List.drop_zero, List.take_zero, List.drop_succ_cons, List.take_succ_cons, List.nil_append, List.cons_append, List.append_nil, List.replicate_zero, List.flatten_nil, List.flatten_cons, List.reduceReplicate, ge_iff_le, gt_iff_lt, eq_self, Nat.add_assoc, facts, *, rd_cons1, rd_cons2, rd_cons3, sz_cons1, sz_cons2, sz_cons3, wr_cons1, wr_cons2, wr_cons3, set_cons1, set_cons2, set_cons3] | simp (disch := omega) only [Ab.wrap_i64] | ((with_reducible refine Ab.gd_ndec (fun _ => ?_) (fun _ => ?_)) <;> try (exfalso; omega)) | ((with_reducible refine Ab.br_ndec (fun _ => ?_) (fun _ => ?_)) <;> try (exfalso; omega)) | ((with_reducible refine Ab.gd_dec (fun _ => ?_) (fun _ => ?_)) <;> try (exfalso; omega)) | ((with_reducible refine Ab.br_dec (fun _ => ?_) (fun _ => ?_)) <;> try (exfalso; omega)) | (with_reducible refine Ab.run_alt ?_ ?_) | (refine And.intro (by omega) ?_) | (refine gd_split (fun _ => ?_) (fun _ => ?_)) | (refine br_split (fun _ => ?_) (fun _ => ?_)) | omega)
          exact ⟨m + 1 + 1, [], by omega, by omega, (List.append_nil _).symm, by rw [hsm]; omega, by omega⟩
      · have hti : P.take k = P := take_all hge
        rw [hti, hPs]
        clear hrow hol hr1 hr2 hpat hpap hroom hPs hP hti gP gP0
        repeat' (first | simp -implicitDefEqProofs only [Ab.R1, Ab.R2, Ab.R3, Ab.R4, Ab.R5, Ab.RH, Ab.RM, Ab.binV, Ab.binC, Nat.reduceLT, Nat.reduceBEq, Nat.reduceAdd, Nat.reduceMul, Nat.reduceEqDiff, Nat.reduceLeDiff, Nat.reduceSub, List.getElem?_cons_zero, List.getElem?_cons_succ, List.getElem?_nil, Option.getD_some, Option.getD_none, if_true, if_false, reduceIte, Option.map_some, Option.map_none, Option.bind_some, Option.bind_none, Option.isSome_some, List.map_cons, List.map_nil, AV.cells, List.length_cons, List.length_nil, List.all_cons, List.all_nil, AV.one, Value.oneCell', ne_eq, reduceCtorEq, Int.reduceNeg, Int.reduceEq, Int.reduceNe, Int.reduceAdd, Int.reduceSub, Int.reduceMul, Int.reduceLT, Int.reduceLE, Int.reduceToNat, List.drop_zero, List.take_zero, List.drop_succ_cons, List.take_succ_cons, List.nil_append, List.cons_append, List.append_nil, List.replicate_zero, List.flatten_nil, List.flatten_cons, List.reduceReplicate, ge_iff_le, gt_iff_lt, eq_self, Nat.add_assoc, facts, *, rd_cons1, rd_cons2, rd_cons3, sz_cons1, sz_cons2, sz_cons3, wr_cons1, wr_cons2, wr_cons3, set_cons1, set_cons2, set_cons3] | simp (disch := omega) only [Ab.wrap_i64] | ((with_reducible refine Ab.gd_ndec (fun _ => ?_) (fun _ => ?_)) <;> try (exfalso; omega)) | ((with_reducible refine Ab.br_ndec (fun _ => ?_) (fun _ => ?_)) <;> try (exfalso; omega)) | ((with_reducible refine Ab.gd_dec (fun _ => ?_) (fun _ => ?_)) <;> try (exfalso; omega)) | ((with_reducible refine Ab.br_dec (fun _ => ?_) (fun _ => ?_)) <;> try (exfalso; omega)) | (with_reducible refine Ab.run_alt ?_ ?_) | (refine And.intro (by omega) ?_) | (refine gd_split (fun _ => ?_) (fun _ => ?_)) | (refine br_split (fun _ => ?_) (fun _ => ?_)) | (refine cl_more ( cR _ (by omega) h64f _ gX0) ?_) | (refine cl_more ( cT _ (by omega) h64f (by unfold int64; omega) _ (gX _)) ?_) | (refine cl_same (cS _ _ (by omega) _ (by simp -implicitDefEqProofs only [Ab.app_assoc, Ab.len_app, Ab.sz_newk, Ab.sz_new0, Ab.rd_newk, Ab.rd_new0, Ab.wr_newk, Ab.wr_new0, Ab.set_newk, Ab.set_new0, Ab.sz_cons, Ab.sz_row0, Ab.sz_ro0, Ab.rd_cons, Ab.rd_row, Ab.rd_ro0, Ab.wr_cons, Ab.wr_row, Ab.set_cons_zero, Ab.set_cons_succ, Ab.rowI_len, Ab.rowB_len, Ab.rowS_len, Ab.rowU_len, Nat.add_assoc, List.cons_append, List.nil_append, List.append_nil, List.length_cons, List.length_nil, Nat.reduceAdd, Nat.reduceSub, Nat.reduceEqDiff, Nat.zero_add, Nat.add_zero, Nat.mul_one, Nat.one_mul, if_true, if_false, reduceIte, reduceCtorEq, eq_self, q1, rd_cons1, rd_cons2, rd_cons3, sz_cons1, sz_cons2, sz_cons3, wr_cons1, wr_cons2, wr_cons3, set_cons1, set_cons2, set_cons3]) (gE _)) ?_) | (refine cl_same (cEf _ (by omega) h64f _ (gX _)) ?_) | (refine cl_more ( cZ (by omega) h64 (by unfold int64; omega) _ (gE _)) ?_) | (refine cl_same (cH _ (by omega) _ (by simp -implicitDefEqProofs only [Ab.app_assoc, Ab.len_app, Ab.sz_newk, Ab.sz_new0, Ab.rd_newk, Ab.rd_new0, Ab.wr_newk, Ab.wr_new0, Ab.set_newk, Ab.set_new0, Ab.sz_cons, Ab.sz_row0, Ab.sz_ro0, Ab.rd_cons, Ab.rd_row, Ab.rd_ro0, Ab.wr_cons, Ab.wr_row, Ab.set_cons_zero, Ab.set_cons_succ, Ab.rowI_len, Ab.rowB_len, Ab.rowS_len, Ab.rowU_len, Nat.add_assoc, List.cons_append, List.nil_append, List.append_nil, List.length_cons, List.length_nil, Nat.reduceAdd, Nat.reduceSub, Nat.reduceEqDiff, Nat.zero_add, Nat.add_zero, Nat.mul_one, Nat.one_mul, if_true, if_false, reduceIte, reduceCtorEq, eq_self, qz, rd_cons1, rd_cons2, rd_cons3, sz_cons1, sz_cons2, sz_cons3, wr_cons1, wr_cons2, wr_cons3, set_cons1, set_cons2, set_cons3])) ?_) | (refine cl_more ( cR0 _ (gE _)) ?_) | (refine cl_same (cE _ (gE _)) ?_) | omega)
end
end Go.Proofs.Ytdpopimpdhgfaaa
