/- SoldParts: what the spec and the program build. -/
import Derived.Test.YtdpopimpdhgfaaaAb32
import Derived.Test.YtdpopimpdhgfaaaPart
import Derived.Test.YtdpopimpdhgfaaaSort
import Derived.Test.YtdpopimpdhgfaaaClone
namespace Go.Proofs.Ytdpopimpdhgfaaa
set_option maxRecDepth 20000
set_option linter.unusedSimpArgs false
set_option linter.unusedVariables false
open Go Go.Ab

abbrev outB (b m : Nat) : Blk := ⟨.row 22 1, oC b m⟩
theorem ren_oC {ρ : Nat → Nat} : ∀ {m b b' : Nat}, (∀ i, i < m → ρ (b + i) = b' + i) → renL ρ (oC b m) = oC b' m
  | 0, _, _, _ => rfl
  | m + 1, b, b', h => by
    have h0 := h 0 (by omega)
    have ih := ren_oC (ρ := ρ) (m := m) (b := b + 1) (b' := b' + 1) fun i hi => by
      have := h (i + 1) (by omega)
      rw [show b + 1 + i = b + (i + 1) by omega, this]; omega
    simp only [Nat.add_zero] at h0
    unfold oC at *
    rw [List.range'_succ, List.range'_succ, List.map_cons, List.map_cons, renL_cons, ih]
    rw [show (AV.own b 1 2).ren ρ = .own (ρ b) 1 2 from rfl, h0]
theorem keepB_of {ρ : Nat → Nat} {junk : Heap} : ∀ {bs : List Blk} {ps : List Nat}, ps.length = bs.length → (∀ (j : Nat) b p, bs[j]? = some b → ps[j]? = some p → junk[p]? = some ⟨b.kind, renL ρ b.cells⟩) → KeepB ρ junk bs ps
  | [], [], _, _ => trivial
  | [], _ :: _, h, _ => by simp at h
  | _ :: _, [], h, _ => by simp at h
  | b :: bs, p :: ps, h, hg => ⟨hg 0 b p rfl rfl, keepB_of (by simpa using h) fun j b' p' h1 h2 => hg (j + 1) b' p' (by simpa using h1) (by simpa using h2)⟩
/-- the outer row and the inner ones are kept -/
theorem keepP {h junk : Heap} {ps : List PT} {q : Nat} (h1 : junk[q]? = some (outB (h.length + 3) ps.length)) (h2 : ∀ (k : Nat) p, ps[k]? = some p → junk[3 + k]? = some (rowW [p.1, p.2])) :
    KeepB (plc h (q :: List.range' 3 ps.length)) junk (outB (h.length + 1) ps.length :: inP ps) (q :: List.range' 3 ps.length) := by
  refine keepB_of (by simp [inP_len]) fun j b p hb hp => ?_
  cases j with
  | zero =>
    simp at hb hp
    subst hb; subst hp
    have e := ren_oC (ρ := plc h (q :: List.range' 3 ps.length)) (m := ps.length) (b := h.length + 1) (b' := h.length + 3) fun i hi => by
      rw [show h.length + 1 + i = h.length + (i + 1) by omega, plc_new]
      simp only [List.getD_cons_succ]
      rw [List.getD_eq_getElem?_getD, List.getElem?_range' hi]
      simp; omega
    rw [h1]
    show some _ = some (⟨.row 22 1, renL _ (oC (h.length + 1) ps.length)⟩ : Blk)
    rw [e]
  | succ j =>
    simp only [List.getElem?_cons_succ] at hb hp
    have hj : j < ps.length := by have := lt_len hb; rwa [inP_len] at this
    obtain ⟨a, ha⟩ := some_at hj
    rw [inP_at ha] at hb
    injection hb with hb; subst hb
    rw [List.getElem?_range' hj] at hp
    injection hp with hp; subst hp
    have := h2 j a ha
    rw [show 3 + 1 * j = 3 + j by omega, this]
    simp [ren_rowI]
theorem outB_ok {h : Heap} {ps : List PT} : ∀ b ∈ (outB (h.length + 1) ps.length :: inP ps), okAll (h ++ (outB (h.length + 1) ps.length :: inP ps)) b.cells = true := by
  intro b hb
  rcases List.mem_cons.1 hb with rfl | hb
  · refine oC_ok fun i hi => ?_
    obtain ⟨a, ha⟩ := some_at hi
    unfold refOk csz
    rw [show h.length + 1 + i = h.length + (i + 1) by omega, get_new, List.getElem?_cons_succ, inP_at ha]
    simp [rowI_len]
  · exact inP_cells _ hb
theorem oC_side {h : Heap} {x y z : Blk} {ps : List PT} : okAll (h ++ (x :: y :: z :: inP ps)) (oC (h.length + 3) ps.length) = true := by
  refine oC_ok fun i hi => ?_
  obtain ⟨a, ha⟩ := some_at hi
  unfold refOk csz
  rw [show h.length + 3 + i = h.length + (i + 3) by omega, get_new]
  simp only [List.getElem?_cons_succ, inP_at ha]
  simp [rowI_len]
theorem oC_next (n m : Nat) : oC (n + 3) m ++ [.own (n + (m + 3)) 1 2] = oC (n + 3) (m + 1) := by
  rw [← oC_snoc]; congr 3; omega

theorem partA_le (xs : List Int) : ∀ k, (partA xs k).length ≤ k
  | 0 => Nat.le_refl _
  | k + 1 => by
    have ih := partA_le xs k
    cases g : hasI xs ((k + 1 : Nat) : Int) with
    | false => rw [partA_no g]; omega
    | true => rw [partA_yes g]; have := stepP_le (partA xs k) ((k + 1 : Nat) : Int); omega

set_option maxHeartbeats 1000000 in
theorem specPart_ok (s : Int) (xs : List Int) (id : Nat) (hn : xs.length ≤ 1048576) (h : Heap) (hr : rd h id xs.length = some (rowI xs)) :
    AC Try.prog 32 [edV s id xs.length] h fun r h' => r = .own h.length 1 (partL s xs).length ∧ h' = h ++ (outB (h.length + 1) (partL s xs).length :: inP (partL s xs)) := by
  refine AC.keepB (1 :: List.range' 3 (partL s xs).length) _ _ (by simp [List.nodup_range', List.mem_range']; try omega) (by simp [AV.ok, refOk, csz, oC_len]) outB_ok ?_
  refine AC_go mixed ok32 (by simp) fun hc _ => ?_
  unfold L32
  have hrd : ∀ l, rd (h ++ l) id xs.length = some (rowI xs) := fun l => rd_old hr l
  have hsd : ∀ l, sz (h ++ l) id = some xs.length := fun l => sz_old hr l
  have c1 := fun H hH => specEd_ok s xs id (by omega) H hH
  cases hv : edB s xs with
  | false =>
    have hF : partL s xs = [] := if_neg (by rw [hv]; decide)
    rw [hv] at c1
    rw [hF]
    repeat' (first | simp -implicitDefEqProofs only [Ab.R1, Ab.R2, Ab.R3, Ab.R4, Ab.R5, Ab.RH, Ab.RM, Ab.binV, Ab.binC, Nat.reduceLT, Nat.reduceBEq, Nat.reduceAdd, Nat.reduceMul, Nat.reduceEqDiff, Nat.reduceLeDiff, Nat.reduceSub, List.getElem?_cons_zero, List.getElem?_cons_succ, List.getElem?_nil, Option.getD_some, Option.getD_none, if_true, if_false, reduceIte, Option.map_some, Option.map_none, Option.bind_some, Option.bind_none, Option.isSome_some, List.map_cons, List.map_nil, AV.cells, List.length_cons, List.length_nil, List.all_cons, List.all_nil, AV.one, Value.oneCell', ne_eq, reduceCtorEq, Int.reduceNeg, Int.reduceEq, Int.reduceNe, Int.reduceAdd, Int.reduceSub, Int.reduceMul, Int.reduceLT, Int.reduceLE, Int.reduceToNat, List.drop_zero, List.take_zero, List.drop_succ_cons, List.take_succ_cons, List.nil_append, List.cons_append, List.append_nil, List.replicate_zero, List.flatten_nil, List.flatten_cons, List.reduceReplicate, ge_iff_le, gt_iff_lt, eq_self, Nat.add_assoc, facts, *] | simp (disch := omega) only [Ab.wrap_i64] | ((with_reducible refine Ab.gd_ndec (fun _ => ?_) (fun _ => ?_)) <;> try (exfalso; omega)) | ((with_reducible refine Ab.br_ndec (fun _ => ?_) (fun _ => ?_)) <;> try (exfalso; omega)) | ((with_reducible refine Ab.gd_dec (fun _ => ?_) (fun _ => ?_)) <;> try (exfalso; omega)) | ((with_reducible refine Ab.br_dec (fun _ => ?_) (fun _ => ?_)) <;> try (exfalso; omega)) | (with_reducible refine Ab.run_alt ?_ ?_) | (refine And.intro (by omega) ?_) | (refine gd_split (fun _ => ?_) (fun _ => ?_)) | (refine br_split (fun _ => ?_) (fun _ => ?_)) | (refine cl_same (c1 _ (hrd _)) ?_) | omega)
    all_goals first | exact ⟨by rw [ren_own, plc_new0]; rfl, _, rfl, keepP (ps := []) rfl (fun k p hk => by simp at hk)⟩
  | true =>
    have hF : partL s xs = partA xs s.toNat := if_pos hv
    rw [hF]
    rw [hv] at c1
    have c2 := fun H hH => specSeen_ok s xs id hv H hH
    obtain ⟨⟨h1, h2⟩, _, h3⟩ := edB_spec hv
    obtain ⟨m, rfl⟩ : ∃ m : Nat, s = m := ⟨s.toNat, by omega⟩
    rw [Int.toNat_natCast] at c2 ⊢
    have qs := seenL_len (m + 2) xs
    have qb := rowB_len (seenL (m + 2) xs)
    repeat' (first | simp -implicitDefEqProofs only [Ab.R1, Ab.R2, Ab.R3, Ab.R4, Ab.R5, Ab.RH, Ab.RM, Ab.binV, Ab.binC, Nat.reduceLT, Nat.reduceBEq, Nat.reduceAdd, Nat.reduceMul, Nat.reduceEqDiff, Nat.reduceLeDiff, Nat.reduceSub, List.getElem?_cons_zero, List.getElem?_cons_succ, List.getElem?_nil, Option.getD_some, Option.getD_none, if_true, if_false, reduceIte, Option.map_some, Option.map_none, Option.bind_some, Option.bind_none, Option.isSome_some, List.map_cons, List.map_nil, AV.cells, List.length_cons, List.length_nil, List.all_cons, List.all_nil, AV.one, Value.oneCell', ne_eq, reduceCtorEq, Int.reduceNeg, Int.reduceEq, Int.reduceNe, Int.reduceAdd, Int.reduceSub, Int.reduceMul, Int.reduceLT, Int.reduceLE, Int.reduceToNat, List.drop_zero, List.take_zero, List.drop_succ_cons, List.take_succ_cons, List.nil_append, List.cons_append, List.append_nil, List.replicate_zero, List.flatten_nil, List.flatten_cons, List.reduceReplicate, ge_iff_le, gt_iff_lt, eq_self, Nat.add_assoc, facts, *] | simp (disch := omega) only [Ab.wrap_i64] | ((with_reducible refine Ab.gd_ndec (fun _ => ?_) (fun _ => ?_)) <;> try (exfalso; omega)) | ((with_reducible refine Ab.br_ndec (fun _ => ?_) (fun _ => ?_)) <;> try (exfalso; omega)) | ((with_reducible refine Ab.gd_dec (fun _ => ?_) (fun _ => ?_)) <;> try (exfalso; omega)) | ((with_reducible refine Ab.br_dec (fun _ => ?_) (fun _ => ?_)) <;> try (exfalso; omega)) | (with_reducible refine Ab.run_alt ?_ ?_) | (refine And.intro (by omega) ?_) | (refine gd_split (fun _ => ?_) (fun _ => ?_)) | (refine br_split (fun _ => ?_) (fun _ => ?_)) | (refine cl_same (c1 _ (hrd _)) ?_) | (refine cl_more ( c2 _ (hrd _)) ?_) | omega)
    refine lw_loopS K32b1 (fun k : Nat => [(3, .own (h.length + 1) 1 (partA xs k).length), (5, VI ((k + 1 : Nat) : Int))]) (fun k => h ++ (⟨.row 27 2, [VI m, .own id 1 xs.length]⟩ :: outB (h.length + 3) (partA xs k).length :: rowQ (seenL (m + 2) xs) :: inP (partA xs k)))
      (fun k => k ≤ m ∧ (hasI xs (k : Int) = false ∨ hasI xs ((k + 1 : Nat) : Int) = false)) (fun k => m - k) 0 ⟨by omega, .inl ?_⟩ rfl (by (simp -implicitDefEqProofs only [Ab.R1, Ab.R2, Ab.R3, Ab.R4, Ab.R5, Ab.RH, Ab.RM, Ab.binV, Ab.binC, Nat.reduceLT, Nat.reduceBEq, Nat.reduceAdd, Nat.reduceMul, Nat.reduceEqDiff, Nat.reduceLeDiff, Nat.reduceSub, List.getElem?_cons_zero, List.getElem?_cons_succ, List.getElem?_nil, Option.getD_some, Option.getD_none, if_true, if_false, reduceIte, Option.map_some, Option.map_none, Option.bind_some, Option.bind_none, Option.isSome_some, List.map_cons, List.map_nil, AV.cells, List.length_cons, List.length_nil, List.all_cons, List.all_nil, AV.one, Value.oneCell', ne_eq, reduceCtorEq, Int.reduceNeg, Int.reduceEq, Int.reduceNe, Int.reduceAdd, Int.reduceSub, Int.reduceMul, Int.reduceLT, Int.reduceLE, Int.reduceToNat, List.drop_zero, List.take_zero, List.drop_succ_cons, List.take_succ_cons, List.nil_append, List.cons_append, List.append_nil, List.replicate_zero, List.flatten_nil, List.flatten_cons, List.reduceReplicate, ge_iff_le, gt_iff_lt, eq_self, Nat.add_assoc, facts] <;> first | rfl | exact ⟨rfl, rfl⟩ | exact ⟨rfl, rfl, rfl⟩ | (simp; done))) ?_ ?_
    · rw [hasI_not]; intro hm; have := h3 _ hm; omega
    · intro hc' k hk
      have hrf : ∀ l, refOk (h ++ l) id xs.length = true := fun l => refOk_sz (hsd l)
      have q3 := oC_len (h.length + 3) (partA xs k).length
      have q4 := oC_side (h := h) (x := ⟨.row 27 2, [VI m, .own id 1 xs.length]⟩) (y := outB (h.length + 3) (partA xs k).length) (z := rowQ (seenL (m + 2) xs)) (ps := partA xs k)
      have q5 := inP_cells (ps := partA xs k) (h := h ++ (⟨.row 27 2, [VI m, .own id 1 xs.length]⟩ :: outB (h.length + 3) (partA xs k).length :: rowQ (seenL (m + 2) xs) :: inP (partA xs k)))
      refine .app hc (fun b hb => ?_) (by simp only [Ab.leB_cons, Ab.leB_nil, Ab.ok_raw, Ab.ok_own, Ab.ok_ptr, Ab.ok_sub, Ab.okAll_nil, Ab.okAll_cons, Ab.refOk_app, Ab.refOk_app0, Ab.okB_zero, Ab.okB_succ, Ab.rowI_ok, Ab.rowB_ok, Ab.rowS_ok, Ab.rowU_ok, Ab.rowI_len, Ab.rowB_len, Ab.rowS_len, Ab.rowU_len, List.mem_cons, List.not_mem_nil, or_false, forall_eq, forall_eq_or_imp, List.forall_mem_cons, List.length_replicate, and_true, true_and, and_self, Nat.le_refl, Nat.zero_le, implies_true, List.length_set, List.length_append, List.length_cons, List.length_nil, List.length_map, Bool.and_true, Bool.true_and, Bool.and_self, decide_true, decide_eq_true_eq, q3, Nat.mul_one] <;> omega) (by simp only [Ab.leB_cons, Ab.leB_nil, Ab.ok_raw, Ab.ok_own, Ab.ok_ptr, Ab.ok_sub, Ab.okAll_nil, Ab.okAll_cons, Ab.refOk_app, Ab.refOk_app0, Ab.okB_zero, Ab.okB_succ, Ab.rowI_ok, Ab.rowB_ok, Ab.rowS_ok, Ab.rowU_ok, Ab.rowI_len, Ab.rowB_len, Ab.rowS_len, Ab.rowU_len, List.mem_cons, List.not_mem_nil, or_false, forall_eq, forall_eq_or_imp, List.forall_mem_cons, List.length_replicate, and_true, true_and, and_self, Nat.le_refl, Nat.zero_le, implies_true, List.length_set, List.length_append, List.length_cons, List.length_nil, List.length_map, Bool.and_true, Bool.true_and, Bool.and_self, decide_true, decide_eq_true_eq, hrf, q3, Nat.mul_one] <;> omega)
      rcases List.mem_cons.1 hb with rfl | hb
      · simp only [Ab.leB_cons, Ab.leB_nil, Ab.ok_raw, Ab.ok_own, Ab.ok_ptr, Ab.ok_sub, Ab.okAll_nil, Ab.okAll_cons, Ab.refOk_app, Ab.refOk_app0, Ab.okB_zero, Ab.okB_succ, Ab.rowI_ok, Ab.rowB_ok, Ab.rowS_ok, Ab.rowU_ok, Ab.rowI_len, Ab.rowB_len, Ab.rowS_len, Ab.rowU_len, List.mem_cons, List.not_mem_nil, or_false, forall_eq, forall_eq_or_imp, List.forall_mem_cons, List.length_replicate, and_true, true_and, and_self, Nat.le_refl, Nat.zero_le, implies_true, List.length_set, List.length_append, List.length_cons, List.length_nil, List.length_map, Bool.and_true, Bool.true_and, Bool.and_self, decide_true, decide_eq_true_eq, hrf, Nat.mul_one]
      rcases List.mem_cons.1 hb with rfl | hb
      · exact q4
      rcases List.mem_cons.1 hb with rfl | hb
      · exact rowB_ok _ _
      · exact q5 b hb
    intro k ⟨hk, hb⟩ _
    refine lw_run mixed ?_
    unfold L32b1 K32b1
    have q3 := oC_len (h.length + 3) (partA xs k).length
    have hpl := partA_le xs k
    rcases Nat.lt_or_ge k m with hlt | hge
    · have hat := seenL_at (n := m + 2) (i := k + 1) (ys := xs) (by omega)
      cases g : hasI xs ((k + 1 : Nat) : Int) with
      | false =>
        have e := partA_no g
        rw [g] at hat
        repeat' (first | simp -implicitDefEqProofs only [Ab.R1, Ab.R2, Ab.R3, Ab.R4, Ab.R5, Ab.RH, Ab.RM, Ab.binV, Ab.binC, Nat.reduceLT, Nat.reduceBEq, Nat.reduceAdd, Nat.reduceMul, Nat.reduceEqDiff, Nat.reduceLeDiff, Nat.reduceSub, List.getElem?_cons_zero, List.getElem?_cons_succ, List.getElem?_nil, Option.getD_some, Option.getD_none, if_true, if_false, reduceIte, Option.map_some, Option.map_none, Option.bind_some, Option.bind_none, Option.isSome_some, List.map_cons, List.map_nil, AV.cells, List.length_cons, List.length_nil, List.all_cons, List.all_nil, AV.one, Value.oneCell', ne_eq, reduceCtorEq, Int.reduceNeg, Int.reduceEq, Int.reduceNe, Int.reduceAdd, Int.reduceSub, Int.reduceMul, Int.reduceLT, Int.reduceLE, Int.reduceToNat, List.drop_zero, List.take_zero, List.drop_succ_cons, List.take_succ_cons, List.nil_append, List.cons_append, List.append_nil, List.replicate_zero, List.flatten_nil, List.flatten_cons, List.reduceReplicate, ge_iff_le, gt_iff_lt, eq_self, Nat.add_assoc, facts, *, rowB_at] | simp (disch := omega) only [Ab.wrap_i64] | ((with_reducible refine Ab.gd_ndec (fun _ => ?_) (fun _ => ?_)) <;> try (exfalso; omega)) | ((with_reducible refine Ab.br_ndec (fun _ => ?_) (fun _ => ?_)) <;> try (exfalso; omega)) | ((with_reducible refine Ab.gd_dec (fun _ => ?_) (fun _ => ?_)) <;> try (exfalso; omega)) | ((with_reducible refine Ab.br_dec (fun _ => ?_) (fun _ => ?_)) <;> try (exfalso; omega)) | (with_reducible refine Ab.run_alt ?_ ?_) | (refine And.intro (by omega) ?_) | (refine gd_split (fun _ => ?_) (fun _ => ?_)) | (refine br_split (fun _ => ?_) (fun _ => ?_)) | omega)
        refine ⟨k + 1, [], by omega, ⟨by omega, .inl g⟩, ?_, ?_, by omega⟩
        · rw [e]; try simp
        · rw [e]
      | true =>
        have hb0 : hasI xs (k : Int) = false := by
          rcases hb with hb | hb
          · exact hb
          · rw [g] at hb; cases hb
        have e := partA_begin g hb0
        rw [g] at hat
        repeat' (first | simp -implicitDefEqProofs only [Ab.R1, Ab.R2, Ab.R3, Ab.R4, Ab.R5, Ab.RH, Ab.RM, Ab.binV, Ab.binC, Nat.reduceLT, Nat.reduceBEq, Nat.reduceAdd, Nat.reduceMul, Nat.reduceEqDiff, Nat.reduceLeDiff, Nat.reduceSub, List.getElem?_cons_zero, List.getElem?_cons_succ, List.getElem?_nil, Option.getD_some, Option.getD_none, if_true, if_false, reduceIte, Option.map_some, Option.map_none, Option.bind_some, Option.bind_none, Option.isSome_some, List.map_cons, List.map_nil, AV.cells, List.length_cons, List.length_nil, List.all_cons, List.all_nil, AV.one, Value.oneCell', ne_eq, reduceCtorEq, Int.reduceNeg, Int.reduceEq, Int.reduceNe, Int.reduceAdd, Int.reduceSub, Int.reduceMul, Int.reduceLT, Int.reduceLE, Int.reduceToNat, List.drop_zero, List.take_zero, List.drop_succ_cons, List.take_succ_cons, List.nil_append, List.cons_append, List.append_nil, List.replicate_zero, List.flatten_nil, List.flatten_cons, List.reduceReplicate, ge_iff_le, gt_iff_lt, eq_self, Nat.add_assoc, facts, *, rowB_at] | simp (disch := omega) only [Ab.wrap_i64] | ((with_reducible refine Ab.gd_ndec (fun _ => ?_) (fun _ => ?_)) <;> try (exfalso; omega)) | ((with_reducible refine Ab.br_ndec (fun _ => ?_) (fun _ => ?_)) <;> try (exfalso; omega)) | ((with_reducible refine Ab.gd_dec (fun _ => ?_) (fun _ => ?_)) <;> try (exfalso; omega)) | ((with_reducible refine Ab.br_dec (fun _ => ?_) (fun _ => ?_)) <;> try (exfalso; omega)) | (with_reducible refine Ab.run_alt ?_ ?_) | (refine And.intro (by omega) ?_) | (refine gd_split (fun _ => ?_) (fun _ => ?_)) | (refine br_split (fun _ => ?_) (fun _ => ?_)) | omega)
        refine lw_loopS K32b0 (fun j : Nat => [(5, VI (j : Int))]) (fun _ => _) (fun j => k + 1 ≤ j ∧ j ≤ m ∧ partA xs j = partA xs k ++ [(((k + 1 : Nat) : Int), (j : Int))]) (fun j => m - j) (k + 1) ⟨by omega, by omega, e⟩ rfl (by (simp -implicitDefEqProofs only [Ab.R1, Ab.R2, Ab.R3, Ab.R4, Ab.R5, Ab.RH, Ab.RM, Ab.binV, Ab.binC, Nat.reduceLT, Nat.reduceBEq, Nat.reduceAdd, Nat.reduceMul, Nat.reduceEqDiff, Nat.reduceLeDiff, Nat.reduceSub, List.getElem?_cons_zero, List.getElem?_cons_succ, List.getElem?_nil, Option.getD_some, Option.getD_none, if_true, if_false, reduceIte, Option.map_some, Option.map_none, Option.bind_some, Option.bind_none, Option.isSome_some, List.map_cons, List.map_nil, AV.cells, List.length_cons, List.length_nil, List.all_cons, List.all_nil, AV.one, Value.oneCell', ne_eq, reduceCtorEq, Int.reduceNeg, Int.reduceEq, Int.reduceNe, Int.reduceAdd, Int.reduceSub, Int.reduceMul, Int.reduceLT, Int.reduceLE, Int.reduceToNat, List.drop_zero, List.take_zero, List.drop_succ_cons, List.take_succ_cons, List.nil_append, List.cons_append, List.append_nil, List.replicate_zero, List.flatten_nil, List.flatten_cons, List.reduceReplicate, ge_iff_le, gt_iff_lt, eq_self, Nat.add_assoc, facts] <;> first | rfl | exact ⟨rfl, rfl⟩ | exact ⟨rfl, rfl, rfl⟩ | (simp; done))) (fun hc' _ _ => .same hc' (by simp [AV.ok])) ?_
        intro j ⟨hj1, hj2, hj3⟩ _
        refine lw_run mixed ?_
        unfold L32b0 K32b0
        have hat2 := seenL_at (n := m + 2) (i := j + 1) (ys := xs) (by omega)
        have hjn : ((j : Int) + 1).toNat = j + 1 := by omega
        cases g2 : hasI xs ((j + 1 : Nat) : Int) with
        | true =>
          have hjm : j + 1 ≤ m := by
            have := h3 _ (hasI_iff.1 g2); omega
          rw [g2] at hat2
          have e2 := partA_on g2 hj3
          repeat' (first | simp -implicitDefEqProofs only [Ab.R1, Ab.R2, Ab.R3, Ab.R4, Ab.R5, Ab.RH, Ab.RM, Ab.binV, Ab.binC, Nat.reduceLT, Nat.reduceBEq, Nat.reduceAdd, Nat.reduceMul, Nat.reduceEqDiff, Nat.reduceLeDiff, Nat.reduceSub, List.getElem?_cons_zero, List.getElem?_cons_succ, List.getElem?_nil, Option.getD_some, Option.getD_none, if_true, if_false, reduceIte, Option.map_some, Option.map_none, Option.bind_some, Option.bind_none, Option.isSome_some, List.map_cons, List.map_nil, AV.cells, List.length_cons, List.length_nil, List.all_cons, List.all_nil, AV.one, Value.oneCell', ne_eq, reduceCtorEq, Int.reduceNeg, Int.reduceEq, Int.reduceNe, Int.reduceAdd, Int.reduceSub, Int.reduceMul, Int.reduceLT, Int.reduceLE, Int.reduceToNat, List.drop_zero, List.take_zero, List.drop_succ_cons, List.take_succ_cons, List.nil_append, List.cons_append, List.append_nil, List.replicate_zero, List.flatten_nil, List.flatten_cons, List.reduceReplicate, ge_iff_le, gt_iff_lt, eq_self, Nat.add_assoc, facts, *, rowB_at] | simp (disch := omega) only [Ab.wrap_i64] | ((with_reducible refine Ab.gd_ndec (fun _ => ?_) (fun _ => ?_)) <;> try (exfalso; omega)) | ((with_reducible refine Ab.br_ndec (fun _ => ?_) (fun _ => ?_)) <;> try (exfalso; omega)) | ((with_reducible refine Ab.gd_dec (fun _ => ?_) (fun _ => ?_)) <;> try (exfalso; omega)) | ((with_reducible refine Ab.br_dec (fun _ => ?_) (fun _ => ?_)) <;> try (exfalso; omega)) | (with_reducible refine Ab.run_alt ?_ ?_) | (refine And.intro (by omega) ?_) | (refine gd_split (fun _ => ?_) (fun _ => ?_)) | (refine br_split (fun _ => ?_) (fun _ => ?_)) | omega)
          exact ⟨j + 1, [], by omega, ⟨by omega, hjm, e2⟩, by simp, by omega⟩
        | false =>
          rw [g2] at hat2
          have on := oC_next h.length (partA xs k).length
          repeat' (first | simp -implicitDefEqProofs only [Ab.R1, Ab.R2, Ab.R3, Ab.R4, Ab.R5, Ab.RH, Ab.RM, Ab.binV, Ab.binC, Nat.reduceLT, Nat.reduceBEq, Nat.reduceAdd, Nat.reduceMul, Nat.reduceEqDiff, Nat.reduceLeDiff, Nat.reduceSub, List.getElem?_cons_zero, List.getElem?_cons_succ, List.getElem?_nil, Option.getD_some, Option.getD_none, if_true, if_false, reduceIte, Option.map_some, Option.map_none, Option.bind_some, Option.bind_none, Option.isSome_some, List.map_cons, List.map_nil, AV.cells, List.length_cons, List.length_nil, List.all_cons, List.all_nil, AV.one, Value.oneCell', ne_eq, reduceCtorEq, Int.reduceNeg, Int.reduceEq, Int.reduceNe, Int.reduceAdd, Int.reduceSub, Int.reduceMul, Int.reduceLT, Int.reduceLE, Int.reduceToNat, List.drop_zero, List.take_zero, List.drop_succ_cons, List.take_succ_cons, List.nil_append, List.cons_append, List.append_nil, List.replicate_zero, List.flatten_nil, List.flatten_cons, List.reduceReplicate, ge_iff_le, gt_iff_lt, eq_self, Nat.add_assoc, facts, *, rowB_at, rd_in, rd_in0, sz_in, sz_in0, inP_len, rd_cons1, sz_cons1, on] | simp (disch := omega) only [Ab.wrap_i64] | ((with_reducible refine Ab.gd_ndec (fun _ => ?_) (fun _ => ?_)) <;> try (exfalso; omega)) | ((with_reducible refine Ab.br_ndec (fun _ => ?_) (fun _ => ?_)) <;> try (exfalso; omega)) | ((with_reducible refine Ab.gd_dec (fun _ => ?_) (fun _ => ?_)) <;> try (exfalso; omega)) | ((with_reducible refine Ab.br_dec (fun _ => ?_) (fun _ => ?_)) <;> try (exfalso; omega)) | (with_reducible refine Ab.run_alt ?_ ?_) | (refine And.intro (by omega) ?_) | (refine gd_split (fun _ => ?_) (fun _ => ?_)) | (refine br_split (fun _ => ?_) (fun _ => ?_)) | omega)
          refine ⟨j, [⟨.row 22 1, [.own (h.length + ((partA xs k).length + 3)) 1 2]⟩], by omega, ⟨hj2, .inr g2⟩, ?_, ?_, by omega⟩
          · rw [hj3, inP_snoc]; simp; rfl
          · rw [hj3]; simp
    · obtain rfl : k = m := by omega
      repeat' (first | simp -implicitDefEqProofs only [Ab.R1, Ab.R2, Ab.R3, Ab.R4, Ab.R5, Ab.RH, Ab.RM, Ab.binV, Ab.binC, Nat.reduceLT, Nat.reduceBEq, Nat.reduceAdd, Nat.reduceMul, Nat.reduceEqDiff, Nat.reduceLeDiff, Nat.reduceSub, List.getElem?_cons_zero, List.getElem?_cons_succ, List.getElem?_nil, Option.getD_some, Option.getD_none, if_true, if_false, reduceIte, Option.map_some, Option.map_none, Option.bind_some, Option.bind_none, Option.isSome_some, List.map_cons, List.map_nil, AV.cells, List.length_cons, List.length_nil, List.all_cons, List.all_nil, AV.one, Value.oneCell', ne_eq, reduceCtorEq, Int.reduceNeg, Int.reduceEq, Int.reduceNe, Int.reduceAdd, Int.reduceSub, Int.reduceMul, Int.reduceLT, Int.reduceLE, Int.reduceToNat, List.drop_zero, List.take_zero, List.drop_succ_cons, List.take_succ_cons, List.nil_append, List.cons_append, List.append_nil, List.replicate_zero, List.flatten_nil, List.flatten_cons, List.reduceReplicate, ge_iff_le, gt_iff_lt, eq_self, Nat.add_assoc, facts, *] | simp (disch := omega) only [Ab.wrap_i64] | ((with_reducible refine Ab.gd_ndec (fun _ => ?_) (fun _ => ?_)) <;> try (exfalso; omega)) | ((with_reducible refine Ab.br_ndec (fun _ => ?_) (fun _ => ?_)) <;> try (exfalso; omega)) | ((with_reducible refine Ab.gd_dec (fun _ => ?_) (fun _ => ?_)) <;> try (exfalso; omega)) | ((with_reducible refine Ab.br_dec (fun _ => ?_) (fun _ => ?_)) <;> try (exfalso; omega)) | (with_reducible refine Ab.run_alt ?_ ?_) | (refine And.intro (by omega) ?_) | (refine gd_split (fun _ => ?_) (fun _ => ?_)) | (refine br_split (fun _ => ?_) (fun _ => ?_)) | omega)
      all_goals first | exact ⟨by rw [ren_own, plc_new0]; rfl, _, rfl, keepP rfl (fun k p hk => by rw [show 3 + k = k + 3 by omega]; simp only [List.getElem?_cons_succ]; exact inP_at hk)⟩
end Go.Proofs.Ytdpopimpdhgfaaa
