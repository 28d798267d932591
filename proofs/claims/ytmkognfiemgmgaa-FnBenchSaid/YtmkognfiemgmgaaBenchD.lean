/- FnBench: drawn jobs. -/
import Derived.Test.YtmkognfiemgmgaaAb32
import Derived.Test.YtmkognfiemgmgaaJobs
import Derived.Test.YtmkognfiemgmgaaDrawB
namespace Go.Proofs.Ytmkognfiemgmgaa
set_option maxRecDepth 20000
set_option linter.unusedSimpArgs false
set_option linter.unusedVariables false
open Go Go.Ab

theorem keeps_base {h h2 h' h1 : Heap} {ρ : Nat → Nat} (k : Keeps h h' h1 ρ) (hl : h2.length = h.length) : Keeps h2 h' h1 ρ := ⟨fun i hi => k.old i (by omega), k.inj, k.get⟩
theorem once_at {bs : List UInt8} {ci : Nat} {c : List AV} (k : Int) (hn : bs.length ≤ 1048576) (hk : k ≤ 1000000000000) (hc0 : CurC ci bs.length c) (g l : Heap) (hr : rd g ci bs.length = some (rowU bs)) :
    AC Try.prog 48 [.ptr g.length 3 0, VI k] (g ++ (curB c :: l)) fun r h' => ∃ (b : Bool) (c' : List AV), CurC ci bs.length c' ∧ r = VB b ∧ h' = g ++ (curB c' :: l) := by
  refine AC_go mixed ok48 (by simp) fun hc _ => ?_
  unfold L48
  repeat' (first | simp -implicitDefEqProofs only [Ab.R1, Ab.R2, Ab.R3, Ab.R4, Ab.R5, Ab.RH, Ab.RM, Ab.binV, Ab.binC, Nat.reduceLT, Nat.reduceBEq, Nat.reduceAdd, Nat.reduceMul, Nat.reduceEqDiff, Nat.reduceLeDiff, Nat.reduceSub, List.getElem?_cons_zero, List.getElem?_cons_succ, List.getElem?_nil, Option.getD_some, Option.getD_none, if_true, if_false, reduceIte, Option.map_some, Option.map_none, Option.bind_some, Option.bind_none, Option.isSome_some, List.map_cons, List.map_nil, AV.cells, List.length_cons, List.length_nil, List.all_cons, List.all_nil, AV.one, Value.oneCell', ne_eq, reduceCtorEq, Int.reduceNeg, Int.reduceEq, Int.reduceNe, Int.reduceAdd, Int.reduceSub, Int.reduceMul, Int.reduceLT, Int.reduceLE, Int.reduceToNat, List.drop_zero, List.take_zero, List.drop_succ_cons, List.take_succ_cons, List.nil_append, List.cons_append, List.append_nil, List.replicate_zero, List.flatten_nil, List.flatten_cons, List.reduceReplicate, ge_iff_le, gt_iff_lt, eq_self, Nat.add_assoc, facts, *] | simp (disch := omega) only [Ab.wrap_i64] | ((with_reducible refine Ab.gd_ndec (fun _ => ?_) (fun _ => ?_)) <;> try (exfalso; omega)) | ((with_reducible refine Ab.br_ndec (fun _ => ?_) (fun _ => ?_)) <;> try (exfalso; omega)) | ((with_reducible refine Ab.gd_dec (fun _ => ?_) (fun _ => ?_)) <;> try (exfalso; omega)) | ((with_reducible refine Ab.br_dec (fun _ => ?_) (fun _ => ?_)) <;> try (exfalso; omega)) | (with_reducible refine Ab.run_alt ?_ ?_) | (refine And.intro (by omega) ?_) | (refine gd_split (fun _ => ?_) (fun _ => ?_)) | (refine br_split (fun _ => ?_) (fun _ => ?_)) | omega)
  refine cl_any (below_at k hn hk hc0 g l hr) ?_
  rintro _ _ ⟨x, c1, a1, b1, k1, rfl, rfl⟩
  repeat' (first | simp -implicitDefEqProofs only [Ab.R1, Ab.R2, Ab.R3, Ab.R4, Ab.R5, Ab.RH, Ab.RM, Ab.binV, Ab.binC, Nat.reduceLT, Nat.reduceBEq, Nat.reduceAdd, Nat.reduceMul, Nat.reduceEqDiff, Nat.reduceLeDiff, Nat.reduceSub, List.getElem?_cons_zero, List.getElem?_cons_succ, List.getElem?_nil, Option.getD_some, Option.getD_none, if_true, if_false, reduceIte, Option.map_some, Option.map_none, Option.bind_some, Option.bind_none, Option.isSome_some, List.map_cons, List.map_nil, AV.cells, List.length_cons, List.length_nil, List.all_cons, List.all_nil, AV.one, Value.oneCell', ne_eq, reduceCtorEq, Int.reduceNeg, Int.reduceEq, Int.reduceNe, Int.reduceAdd, Int.reduceSub, Int.reduceMul, Int.reduceLT, Int.reduceLE, Int.reduceToNat, List.drop_zero, List.take_zero, List.drop_succ_cons, List.take_succ_cons, List.nil_append, List.cons_append, List.append_nil, List.replicate_zero, List.flatten_nil, List.flatten_cons, List.reduceReplicate, ge_iff_le, gt_iff_lt, eq_self, Nat.add_assoc, facts, *] | simp (disch := omega) only [Ab.wrap_i64] | ((with_reducible refine Ab.gd_ndec (fun _ => ?_) (fun _ => ?_)) <;> try (exfalso; omega)) | ((with_reducible refine Ab.br_ndec (fun _ => ?_) (fun _ => ?_)) <;> try (exfalso; omega)) | ((with_reducible refine Ab.gd_dec (fun _ => ?_) (fun _ => ?_)) <;> try (exfalso; omega)) | ((with_reducible refine Ab.br_dec (fun _ => ?_) (fun _ => ?_)) <;> try (exfalso; omega)) | (with_reducible refine Ab.run_alt ?_ ?_) | (refine And.intro (by omega) ?_) | (refine gd_split (fun _ => ?_) (fun _ => ?_)) | (refine br_split (fun _ => ?_) (fun _ => ?_)) | omega)
  exact ⟨_, _, k1, rfl, rfl⟩

/-- numbers below k that rise -/
structure RisK (k : Nat) (fs : List Int) : Prop where
  low : ∀ a ∈ fs, 0 ≤ a ∧ a < k
  asc : fs.Pairwise (· < ·)
theorem RisK.nil : RisK 0 [] := ⟨fun a ha => (by cases ha), .nil⟩
theorem RisK.skip {k : Nat} {fs : List Int} (h : RisK k fs) : RisK (k + 1) fs := ⟨fun a ha => by have := h.low a ha; omega, h.asc⟩
theorem RisK.more {k : Nat} {fs : List Int} (h : RisK k fs) : RisK (k + 1) (fs ++ [(k : Int)]) := by
  refine ⟨fun a ha => ?_, ?_⟩
  · rcases List.mem_append.1 ha with ha | ha
    · have := h.low a ha; omega
    · simp at ha; subst ha; omega
  · rw [List.pairwise_append]
    refine ⟨h.asc, by simp, fun a ha b hb => ?_⟩
    simp at hb; subst hb
    exact (h.low a ha).2
theorem RisK.asB {k : Nat} {fs : List Int} (h : RisK k fs) : ascB ((k : Int) - 1) fs = true := by
  unfold ascB allB
  rw [List.all_eq_true]
  intro i hi
  rw [List.mem_range] at hi
  have hi' : fs[i]? = some fs[i] := List.getElem?_eq_getElem hi
  have h1 := h.low fs[i] (List.getElem_mem hi)
  simp only [ascP, Bool.and_eq_true, inR_iff, Bool.or_eq_true, decide_eq_true_eq, List.getD, hi', Option.getD_some]
  refine ⟨by omega, ?_⟩
  rcases Nat.eq_zero_or_pos i with h0 | h0
  · exact .inl h0
  · right
    have hp : fs[i - 1]? = some (fs[i - 1]'(by omega)) := List.getElem?_eq_getElem (by omega)
    rw [hp]
    exact List.pairwise_iff_getElem.1 h.asc (i - 1) i (by omega) hi (by omega)
/-- drawn jobs -/
def DrawnJ (js : List Jb) : Prop := ∀ i j, js[i]? = some j → 1 ≤ j.1 ∧ j.1 ≤ 9 ∧ RisK i j.2
theorem DrawnJ.nil : DrawnJ [] := fun i j h => by simp at h
theorem DrawnJ.more {js : List Jb} (h : DrawnJ js) {x : Int} {fs : List Int} (h1 : 1 ≤ x) (h2 : x ≤ 9) (h3 : RisK js.length fs) : DrawnJ (js ++ [(x, fs)]) := fun i j hj => by
  rw [List.getElem?_append] at hj
  split at hj
  · exact h i j hj
  · rename_i hge
    have hl := some_lt hj
    simp at hl
    obtain rfl : i = js.length := by omega
    simp at hj; subst hj
    exact ⟨h1, h2, h3⟩
theorem DrawnJ.ok {js : List Jb} (h : DrawnJ js) (h1 : 1 ≤ js.length) (h2 : js.length ≤ 8) : jobsB js = true := by
  rw [jobsB, inR_iff.2 (by omega), Bool.true_and, allB, List.all_eq_true]
  intro k hk
  rw [List.mem_range] at hk
  obtain ⟨j, hj⟩ := some_at hk
  obtain ⟨a, b, c⟩ := h k j hj
  rw [jobP, hrs_of hj, aft_of hj, inR_iff.2 (by omega), c.asB]; rfl

theorem ren_rowJ {ρ : Nat → Nat} (zs : List (Jb × Nat)) : renL ρ (rowOf fJ zs) = rowOf fJ (zs.map fun p => (p.1, ρ p.2)) := by
  induction zs with
  | nil => rfl
  | cons z zs ih =>
    have e : ∀ w : List (Jb × Nat), rowOf fJ w = w.flatMap fJ := fun _ => rfl
    rw [e] at ih ⊢
    rw [e] at ih ⊢
    rw [List.flatMap_cons, List.map_cons, List.flatMap_cons, ← ih]
    simp [fJ, renL_cons, ren_own, ren_raw]
theorem zip_more {α : Type} {b : Nat} (js : List α) (x : α) : (js ++ [x]).zip (List.range' b (js.length + 1)) = js.zip (List.range' b js.length) ++ [(x, b + js.length)] := by
  rw [List.range'_concat, List.zip_append (by simp)]
  simp
/-- the rows that a round leaves, and the ones that are kept -/
theorem keep_jobs {g : Heap} {c c' : List AV} {js : List Jb} {x : Int} {fs : List Int} {y z : Blk} (hg : closedH (g ++ [curB c'])) :
    Keeps (g ++ [curB c]) (g ++ (curB c' :: ⟨.row 40 2, rowOf fJ (js.zip (List.range' (g.length + 2) js.length)) ++ fJ ((x, fs), g.length + (js.length + 3))⟩ :: (js.map (fun a => (⟨.row 3 1, inJ a⟩ : Blk)) ++ [y, rowW fs, z])))
      (g ++ (curB c' :: blkJ (g.length + 1) (js ++ [(x, fs)]))) (plc (g ++ [curB c']) (List.range (js.length + 1) ++ [js.length + 2])) := by
  have hl : (g ++ [curB c']).length = g.length + 1 := by simp
  have hps : ∀ j, j ≤ js.length → (List.range (js.length + 1) ++ [js.length + 2])[j]? = some j := fun j hj => by
    rw [List.getElem?_append_left (by rw [List.length_range]; omega), List.getElem?_range (by omega)]
  have hpe : (List.range (js.length + 1) ++ [js.length + 2])[js.length + 1]? = some (js.length + 2) := by
    rw [List.getElem?_append_right (by rw [List.length_range]; omega), List.length_range, Nat.sub_self]; rfl
  have hp : ∀ j, j ≤ js.length → plc (g ++ [curB c']) (List.range (js.length + 1) ++ [js.length + 2]) (g.length + 1 + j) = g.length + 1 + j := fun j hj => by
    have := plc_new (h := g ++ [curB c']) (ps := List.range (js.length + 1) ++ [js.length + 2]) (j := j)
    rw [hl] at this
    rw [this, List.getD_eq_getElem?_getD, hps j hj]; rfl
  have hpn : plc (g ++ [curB c']) (List.range (js.length + 1) ++ [js.length + 2]) (g.length + 2 + js.length) = g.length + (js.length + 3) := by
    have := plc_new (h := g ++ [curB c']) (ps := List.range (js.length + 1) ++ [js.length + 2]) (j := js.length + 1)
    rw [hl] at this
    rw [show g.length + 2 + js.length = g.length + 1 + (js.length + 1) by omega, this, List.getD_eq_getElem?_getD, hpe]
    simp; omega
  have key := keeps_list (h := g ++ [curB c']) (junk := ⟨.row 40 2, rowOf fJ (js.zip (List.range' (g.length + 2) js.length)) ++ fJ ((x, fs), g.length + (js.length + 3))⟩ :: (js.map (fun a => (⟨.row 3 1, inJ a⟩ : Blk)) ++ [y, rowW fs, z]))
    (bs := blkJ (g.length + 1) (js ++ [(x, fs)])) (ps := List.range (js.length + 1) ++ [js.length + 2]) hg
    (by rw [List.nodup_append]; refine ⟨List.nodup_range, by simp, fun a ha b hb => ?_⟩; simp at ha hb; omega)
    (by rw [blksN_len]; simp)
    (fun j b p hb hp' => ?_)
  · have e1 : g ++ [curB c'] ++ (⟨.row 40 2, rowOf fJ (js.zip (List.range' (g.length + 2) js.length)) ++ fJ ((x, fs), g.length + (js.length + 3))⟩ :: (js.map (fun a => (⟨.row 3 1, inJ a⟩ : Blk)) ++ [y, rowW fs, z])) = g ++ (curB c' :: ⟨.row 40 2, rowOf fJ (js.zip (List.range' (g.length + 2) js.length)) ++ fJ ((x, fs), g.length + (js.length + 3))⟩ :: (js.map (fun a => (⟨.row 3 1, inJ a⟩ : Blk)) ++ [y, rowW fs, z])) := by simp
    have e2 : g ++ [curB c'] ++ blkJ (g.length + 1) (js ++ [(x, fs)]) = g ++ (curB c' :: blkJ (g.length + 1) (js ++ [(x, fs)])) := by simp
    rw [e1, e2] at key
    exact keeps_base key (by simp)
  · have hjl := some_lt hp'
    simp at hjl
    rcases Nat.eq_zero_or_pos j with rfl | hj0
    · rw [hps 0 (by omega)] at hp'
      injection hp' with hp'; subst hp'
      rw [blksN_row] at hb
      injection hb with hb; subst hb
      rw [List.getElem?_cons_zero]
      congr 1
      have : renL (plc (g ++ [curB c']) (List.range (js.length + 1) ++ [js.length + 2])) (rowOf fJ ((js ++ [(x, fs)]).zip (List.range' (g.length + 1 + 1) (js ++ [(x, fs)]).length))) = rowOf fJ (js.zip (List.range' (g.length + 2) js.length)) ++ fJ ((x, fs), g.length + (js.length + 3)) := by
        rw [ren_rowJ, List.length_append, List.length_singleton, zip_more, List.map_append]
        rw [show g.length + 1 + 1 = g.length + 2 by omega]
        have e3 : (js.zip (List.range' (g.length + 2) js.length)).map (fun p => (p.1, plc (g ++ [curB c']) (List.range (js.length + 1) ++ [js.length + 2]) p.2)) = js.zip (List.range' (g.length + 2) js.length) := by
          conv => rhs; rw [← List.map_id (js.zip (List.range' (g.length + 2) js.length))]
          refine List.map_congr_left fun p hp2 => ?_
          obtain ⟨a, i⟩ := p
          have hi := (List.of_mem_zip hp2).2
          rw [List.mem_range'_1] at hi
          have := hp (i - (g.length + 1)) (by omega)
          rw [show g.length + 1 + (i - (g.length + 1)) = i by omega] at this
          show (a, _) = (a, i)
          rw [this]
        rw [e3, List.map_singleton, hpn]
        simp [rowOf]
      rw [this]
    · obtain ⟨m, rfl⟩ : ∃ m, j = m + 1 := ⟨j - 1, by omega⟩
      have hm : m < (js ++ [(x, fs)]).length := by simp; omega
      obtain ⟨a, ha⟩ := some_at hm
      rw [blksN_get ha] at hb
      injection hb with hb; subst hb
      rcases Nat.lt_or_ge m js.length with hlt | hge
      · rw [hps (m + 1) (by omega)] at hp'
        injection hp' with hp'; subst hp'
        rw [List.getElem?_append_left hlt] at ha
        rw [List.getElem?_cons_succ, List.getElem?_append_left (by simpa using hlt), List.getElem?_map, ha]
        simp [ren_rowI]
      · obtain rfl : m = js.length := by omega
        rw [hpe] at hp'
        injection hp' with hp'; subst hp'
        have : a = (x, fs) := by simpa using ha.symm
        subst this
        rw [List.getElem?_cons_succ, List.getElem?_append_right (by simp)]
        simp [ren_rowI]
end Go.Proofs.Ytmkognfiemgmgaa
