/- Marking items: their rows stay where they are, and as long as they were. -/
import Derived.Test.YtfcbjeciogfmeaaAb32
import Derived.Test.YtfcbjeciogfmeaaCatLaw
import Derived.Test.YtfcbjeciogfmeaaMarkS
namespace Go.Proofs.Ytfcbjeciogfmeaa
set_option maxRecDepth 20000
set_option linter.unusedSimpArgs false
set_option linter.unusedVariables false
open Go Go.Ab

/-- as many items, with as many strips each -/
def Alike (js X : List It) : Prop := X.length = js.length ∧ ∀ (k : Nat) a, X[k]? = some a → ∃ j, js[k]? = some j ∧ a.2.2.2.length = j.2.2.2.length
theorem Alike.set {js X : List It} (h : Alike js X) {k : Nat} {a b : It} (hk : X[k]? = some a) (hb : b.2.2.2.length = a.2.2.2.length) : Alike js (X.set k b) := by
  refine ⟨by rw [List.length_set]; exact h.1, fun m c hm => ?_⟩
  by_cases hkm : k = m
  · subst hkm
    rw [List.getElem?_set_self (some_lt hk)] at hm
    injection hm with hm; subst hm
    obtain ⟨j, hj, hl⟩ := h.2 k a hk
    exact ⟨j, hj, hb.trans hl⟩
  · rw [List.getElem?_set_ne hkm] at hm
    exact h.2 m c hm

section
variable {A l : Heap} {js : List It}
theorem blkI_side (X : List It) (hA : Alike js X) : closedH (A ++ (blkI A.length js ++ l)) → closedH (A ++ (blkI A.length X ++ l)) ∧ (A ++ (blkI A.length js ++ l)).le (A ++ (blkI A.length X ++ l)) := by
  intro hc
  obtain ⟨hX, hlen⟩ := hA
  exact same_shape (h' := A ++ (blkI A.length X ++ l)) hc (by simp [blksN_len, hX]) fun id c hcc => by
    rcases three_at (e := blkI A.length js) (by rw [blksN_len, blksN_len, hX]) hcc with h1 | ⟨k, rfl, hk, hk'⟩
    · exact ⟨c, h1, rfl, hc _ _ h1⟩
    · have hold : ∀ b, (blkI A.length js)[k]? = some b → (A ++ (blkI A.length js ++ l))[A.length + k]? = some b := fun b hb => by
        rw [get_new, List.getElem?_append_left (lt_len hb)]; exact hb
      cases k with
      | zero =>
        refine ⟨_, hold _ rfl, ?_, ?_⟩
        · injection hk' with hk'; subst hk'
          simp [fI_row, hX]
        · injection hk' with hk'; subst hk'
          rw [okAll_iff]
          intro d hd
          simp only [rowOf, List.mem_flatMap] at hd
          obtain ⟨⟨a, i⟩, hp, hd⟩ := hd
          obtain ⟨m, hm⟩ := List.getElem?_of_mem hp
          rw [List.getElem?_zip_eq_some] at hm
          obtain ⟨h1, h2⟩ := hm
          obtain ⟨j, hj, hlj⟩ := hlen m a h1
          rw [List.getElem?_range' (some_lt h1)] at h2
          simp at h2
          subst h2
          simp only [List.mem_cons, List.not_mem_nil, or_false] at hd
          rcases hd with rfl | rfl | rfl | rfl
          · rfl
          · rfl
          · rfl
          · have hg := blksN_get (f := fI) (inn := inI) (e := 65) (es := 4) (ei := 9) (b := A.length) hj
            simp only [AV.ok, refOk, csz]
            rw [show A.length + 1 + m = A.length + (m + 1) by omega, get_new, List.getElem?_append_left (lt_len hg), hg]
            simp [rowS_len, hlj]
      | succ k =>
        have hkl : k < X.length := by rw [blksN_len] at hk; omega
        obtain ⟨a, ha⟩ := some_at hkl
        obtain ⟨j, hj, hlj⟩ := hlen k a ha
        rw [blksN_get ha] at hk'
        injection hk' with hk'; subst hk'
        exact ⟨_, hold _ (blksN_get hj), by simp [rowS_len, hlj], rowS_ok _ _⟩

theorem blkI_wr0 (X : List It) : wr (blkI A.length X ++ l) 0 (X.length * 4) = some (65, 4, rowOf fI (X.zip (List.range' (A.length + 1) X.length))) := by
  have := blksN_wr (f := fI) (inn := inI) (e := 65) (es := 4) (ei := 9) (xs := X) fI_len (h := A) rfl l
  rwa [wr_new0] at this
theorem blkI_wri {X : List It} {k : Nat} {a : It} (hk : X[k]? = some a) : wr (A ++ (blkI A.length X ++ l)) (A.length + (k + 1)) a.2.2.2.length = some (9, 1, rowS a.2.2.2) := by
  rw [wr_newk]
  have hg := blksN_get (f := fI) (inn := inI) (e := 65) (es := 4) (ei := 9) (b := A.length) hk
  unfold wr
  rw [List.getElem?_append_left (lt_len hg), hg]
  simp [rowS_len]
theorem zipI_set {X : List It} {k : Nat} {a b : It} (hk : X[k]? = some a) : (X.zip (List.range' (A.length + 1) X.length)).set k (b, A.length + (k + 1)) = (X.set k b).zip (List.range' (A.length + 1) X.length) := by
  have hkl := some_lt hk
  apply List.ext_getElem?
  intro m
  by_cases hm : k = m
  · subst hm
    rw [List.getElem?_set_self (by simpa using hkl)]
    symm
    rw [List.getElem?_zip_eq_some (z := (b, A.length + (k + 1)))]
    refine ⟨List.getElem?_set_self hkl, ?_⟩
    rw [List.getElem?_range' hkl]; first | (simp; done) | (simp; omega)
  · rw [List.getElem?_set_ne hm]
    cases hx : ((X.set k b).zip (List.range' (A.length + 1) X.length))[m]? with
    | none =>
      rw [List.getElem?_eq_none_iff] at hx ⊢
      simpa using hx
    | some p =>
      rw [List.getElem?_zip_eq_some] at hx ⊢
      rw [List.getElem?_set_ne hm] at hx; exact hx
theorem zipI_at {X : List It} {k : Nat} {a : It} (hk : X[k]? = some a) : (X.zip (List.range' (A.length + 1) X.length))[k]? = some (a, A.length + (k + 1)) := by
  rw [List.getElem?_zip_eq_some]
  refine ⟨hk, ?_⟩
  rw [List.getElem?_range' (some_lt hk)]; first | (simp; done) | (simp; omega)
/-- one cell of one item set anew; the strips stay -/
theorem blkI_cell {X : List It} {k i : Nat} {a b : It} {c : AV} (hk : X[k]? = some a) (hi : i < 4) (hb : fI (b, A.length + (k + 1)) = (fI (a, A.length + (k + 1))).set i c) (hs : b.2.2.2 = a.2.2.2) :
    List.set (blkI A.length X ++ l) 0 ⟨.row 65 4, List.take (k * 4 + i) (rowOf fI (X.zip (List.range' (A.length + 1) X.length))) ++ [c] ++ List.drop (k * 4 + i + 1) (rowOf fI (X.zip (List.range' (A.length + 1) X.length)))⟩ = blkI A.length (X.set k b) ++ l := by
  rw [rowOf_cell fI_len (zipI_at (A := A) hk) hi hb, zipI_set hk]
  unfold blkI blksN
  simp only [List.cons_append, List.set_cons_zero, List.length_set]
  congr 2
  have h1 : ∀ Z : List It, List.map (fun a : It => (⟨.row 9 1, inI a⟩ : Blk)) Z = (Z.map (·.2.2.2)).map fun a => ⟨.row 9 1, rowS a⟩ := fun Z => by simp
  rw [h1, h1]
  congr 1
  rw [List.map_set]
  apply List.ext_getElem?
  intro m
  by_cases hm : k = m
  · subst hm
    rw [List.getElem?_set_self (by simpa using some_lt hk), List.getElem?_map, hk, hs]; rfl
  · rw [List.getElem?_set_ne hm]
theorem blkI_seti {X : List It} {k : Nat} {a : It} (hk : X[k]? = some a) (ys : List ByteArray) (hy : ys.length = a.2.2.2.length) : List.set (A ++ (blkI A.length X ++ l)) (A.length + (k + 1)) (rowT ys) = A ++ (blkI A.length (X.set k (a.1, a.2.1, a.2.2.1, ys)) ++ l) := by
  rw [set_newk]
  congr 1
  unfold blkI blksN
  simp only [List.cons_append, List.set_cons_succ, List.length_set]
  congr 1
  · congr 1
    rw [← zipI_set hk]
    have h1 := rowOf_cell fI_len (i := 3) (b := ((a.1, a.2.1, a.2.2.1, ys), A.length + (k + 1))) (c := .own (A.length + (k + 1)) 1 ys.length) (zipI_at (A := A) hk) (by decide) (by simp [hy])
    have h2 := rowOf_cell fI_len (i := 3) (b := (a, A.length + (k + 1))) (c := .own (A.length + (k + 1)) 1 a.2.2.2.length) (zipI_at (A := A) hk) (by decide) (by simp)
    rw [← h1, hy, h2]
    congr 1
    apply List.ext_getElem?
    intro m
    by_cases hm : k = m
    · subst hm; rw [List.getElem?_set_self (some_lt (zipI_at (A := A) hk)), zipI_at hk]
    · rw [List.getElem?_set_ne hm]
  · rw [List.set_append_left _ _ (by simpa using some_lt hk)]
    congr 1
    rw [List.map_set]
end

theorem szG_ge {js : List It} {i : Nat} {j : It} (h : js[i]? = some j) : szG (js.take i) + j.2.2.2.length ≤ szG (js.take (i + 1)) := by
  rw [szG_take h]
  have := szT_len j.2.2.2
  omega

set_option maxHeartbeats 1000000 in
theorem markItemS_ok (js : List It) (A l : Heap) (hn : js.length + szG js ≤ 1048576) :
    AC Try.prog 25 [.own A.length 4 js.length, VI 1] (A ++ (blkI A.length js ++ l)) fun r h' => ∃ (k : Int) (X : List It), 0 ≤ k ∧ X.length = js.length ∧ r = VI k ∧ h' = A ++ (blkI A.length X ++ l) := by
  refine AC_go mixed ok25 (by simp) fun hc _ => ?_
  unfold L25
  repeat' (first | simp -implicitDefEqProofs only [Ab.R1, Ab.R2, Ab.R3, Ab.R4, Ab.R5, Ab.RH, Ab.RM, Ab.binV, Ab.binC, Nat.reduceLT, Nat.reduceBEq, Nat.reduceAdd, Nat.reduceMul, Nat.reduceEqDiff, Nat.reduceLeDiff, Nat.reduceSub, List.getElem?_cons_zero, List.getElem?_cons_succ, List.getElem?_nil, Option.getD_some, Option.getD_none, if_true, if_false, reduceIte, Option.map_some, Option.map_none, Option.bind_some, Option.bind_none, Option.isSome_some, List.map_cons, List.map_nil, AV.cells, List.length_cons, List.length_nil, List.all_cons, List.all_nil, AV.one, Value.oneCell', ne_eq, reduceCtorEq, Int.reduceNeg, Int.reduceEq, Int.reduceNe, Int.reduceAdd, Int.reduceSub, Int.reduceMul, Int.reduceLT, Int.reduceLE, Int.reduceToNat, List.drop_zero, List.take_zero, List.drop_succ_cons, List.take_succ_cons, List.nil_append, List.cons_append, List.append_nil, List.replicate_zero, List.flatten_nil, List.flatten_cons, List.reduceReplicate, ge_iff_le, gt_iff_lt, eq_self, Nat.add_assoc, facts, *] | simp (disch := omega) only [Ab.wrap_i64] | ((with_reducible refine Ab.gd_ndec (fun _ => ?_) (fun _ => ?_)) <;> try (exfalso; omega)) | ((with_reducible refine Ab.br_ndec (fun _ => ?_) (fun _ => ?_)) <;> try (exfalso; omega)) | ((with_reducible refine Ab.gd_dec (fun _ => ?_) (fun _ => ?_)) <;> try (exfalso; omega)) | ((with_reducible refine Ab.br_dec (fun _ => ?_) (fun _ => ?_)) <;> try (exfalso; omega)) | (refine And.intro (by omega) ?_) | (refine gd_split (fun _ => ?_) (fun _ => ?_)) | (refine br_split (fun _ => ?_) (fun _ => ?_)) | omega)
  refine lw_loopS K25b0 (fun a : Nat × Int × List It => [(1, VI a.2.1), (5, VI a.1)]) (fun a => A ++ (blkI A.length a.2.2 ++ l)) (fun a => a.1 ≤ js.length ∧ 1 ≤ a.2.1 ∧ a.2.1 ≤ 1 + 3 * a.1 + szG (js.take a.1) ∧ Alike js a.2.2) (fun a => js.length - a.1) (0, 1, js) ⟨by dsimp only; omega, by dsimp only; omega, by dsimp only; omega, rfl, fun k a h => ⟨a, h, rfl⟩⟩ rfl (by (simp -implicitDefEqProofs only [Ab.R1, Ab.R2, Ab.R3, Ab.R4, Ab.R5, Ab.RH, Ab.RM, Ab.binV, Ab.binC, Nat.reduceLT, Nat.reduceBEq, Nat.reduceAdd, Nat.reduceMul, Nat.reduceEqDiff, Nat.reduceLeDiff, Nat.reduceSub, List.getElem?_cons_zero, List.getElem?_cons_succ, List.getElem?_nil, Option.getD_some, Option.getD_none, if_true, if_false, reduceIte, Option.map_some, Option.map_none, Option.bind_some, Option.bind_none, Option.isSome_some, List.map_cons, List.map_nil, AV.cells, List.length_cons, List.length_nil, List.all_cons, List.all_nil, AV.one, Value.oneCell', ne_eq, reduceCtorEq, Int.reduceNeg, Int.reduceEq, Int.reduceNe, Int.reduceAdd, Int.reduceSub, Int.reduceMul, Int.reduceLT, Int.reduceLE, Int.reduceToNat, List.drop_zero, List.take_zero, List.drop_succ_cons, List.take_succ_cons, List.nil_append, List.cons_append, List.append_nil, List.replicate_zero, List.flatten_nil, List.flatten_cons, List.reduceReplicate, ge_iff_le, gt_iff_lt, eq_self, Nat.add_assoc, facts] <;> first | rfl | exact ⟨rfl, rfl⟩ | exact ⟨rfl, rfl, rfl⟩ | (simp; done))) ?_ ?_
  · rintro hc' ⟨i, k, X⟩ ⟨_, _, _, hA⟩
    obtain ⟨h1, h2⟩ := blkI_side (A := A) (l := l) X hA hc'
    exact ⟨h1, h2, by simp [AV.ok]⟩
  · rintro ⟨i, k, X⟩ ⟨hi, hk1, hk2, hA⟩ _
    dsimp only at hi hk1 hk2 hA ⊢
    refine lw_run mixed ?_
    unfold L25b0 K25b0
    have hXl := hA.1
    have w0 := blkI_wr0 (A := A) (l := l) X
    rw [hXl] at w0
    have s0 := sz_of (wr_rd w0)
    rcases Nat.lt_or_ge i js.length with hlt | hge
    · obtain ⟨j, hj⟩ := some_at hlt
      obtain ⟨x, hx⟩ := some_at (show i < X.length by omega)
      obtain ⟨j', hj', hxl⟩ := hA.2 i x hx
      rw [hj] at hj'; injection hj' with hj'; subst hj'
      have hG1 := szG_ge hj
      have hG2 := szG_le js (i + 1)
      obtain ⟨x1, x2, x3, xs⟩ := x
      dsimp only at hxl
      replace hxl := hxl.symm
      -- the three cells, one behind another
      have e1 := blkI_cell (A := A) (l := l) (i := 0) (b := (markT k, x2, x3, xs)) (c := VS (markT k)) hx (by decide) rfl rfl
      have hx1 : (X.set i (markT k, x2, x3, xs))[i]? = some (markT k, x2, x3, xs) := List.getElem?_set_self (some_lt hx)
      have hA1 := hA.set hx (b := (markT k, x2, x3, xs)) rfl
      generalize hX1 : X.set i (markT k, x2, x3, xs) = X1 at *
      have e2 := blkI_cell (A := A) (l := l) (i := 1) (b := (markT k, k + 1, x3, xs)) (c := VI (k + 1)) hx1 (by decide) rfl rfl
      have hx2 : (X1.set i (markT k, k + 1, x3, xs))[i]? = some (markT k, k + 1, x3, xs) := List.getElem?_set_self (some_lt hx1)
      have hA2 := hA1.set hx1 (b := (markT k, k + 1, x3, xs)) rfl
      have w1 := blkI_wr0 (A := A) (l := l) X1
      generalize hX2 : X1.set i (markT k, k + 1, x3, xs) = X2 at *
      have e3 := blkI_cell (A := A) (l := l) (i := 2) (b := (markT k, k + 1, k + 1 + 1, xs)) (c := VI (k + 1 + 1)) hx2 (by decide) rfl rfl
      have hx3 : (X2.set i (markT k, k + 1, k + 1 + 1, xs))[i]? = some (markT k, k + 1, k + 1 + 1, xs) := List.getElem?_set_self (some_lt hx2)
      have hA3 := hA2.set hx2 (b := (markT k, k + 1, k + 1 + 1, xs)) rfl
      have w2 := blkI_wr0 (A := A) (l := l) X2
      generalize hX3 : X2.set i (markT k, k + 1, k + 1 + 1, xs) = X3 at *
      have w3 := blkI_wr0 (A := A) (l := l) X3
      have hz3 := zipI_at (A := A) hx3
      have hwi := blkI_wri (A := A) (l := l) hx3
      have hseti := blkI_seti (A := A) (l := l) hx3 (marksT (k + 1 + 1 + 1) xs.length) (by rw [marksT_len])
      have hA4 := hA3.set hx3 (b := (markT k, k + 1, k + 1 + 1, marksT (k + 1 + 1 + 1) xs.length)) (by simp [marksT_len])
      dsimp only at hseti hwi
      have hmk := markStringS_ok xs (A.length + (i + 1)) (k + 1 + 1 + 1) (by omega) (by omega) _ hwi
      rw [hseti] at hmk
      clear hseti hwi
      generalize hX4 : X3.set i (markT k, k + 1, k + 1 + 1, marksT (k + 1 + 1 + 1) xs.length) = X4 at *
      rw [hA1.1] at w1
      rw [hA2.1] at w2
      rw [hA3.1] at w3 hz3
      rw [hXl] at e1
      rw [hA1.1] at e2
      rw [hA2.1] at e3
      have s1 := sz_of (wr_rd w1)
      have s2 := sz_of (wr_rd w2)
      have s3 := sz_of (wr_rd w3)
      have r3 := wr_rd w3
      have q0 := (rd_spec (wr_rd w0)).1
      have q1 := (rd_spec (wr_rd w1)).1
      have q2 := (rd_spec (wr_rd w2)).1
      have q3 := (rd_spec r3).1
      have mk := fun H => markText_ok k (by omega) H
      simp only [Nat.add_zero] at e1
      clear hX1 hX2 hX3 hX4 hx1 hx2 hx3 hx hA hA1 hA2 hA3
      repeat' (first | simp -implicitDefEqProofs only [Ab.R1, Ab.R2, Ab.R3, Ab.R4, Ab.R5, Ab.RH, Ab.RM, Ab.binV, Ab.binC, Nat.reduceLT, Nat.reduceBEq, Nat.reduceAdd, Nat.reduceMul, Nat.reduceEqDiff, Nat.reduceLeDiff, Nat.reduceSub, List.getElem?_cons_zero, List.getElem?_cons_succ, List.getElem?_nil, Option.getD_some, Option.getD_none, if_true, if_false, reduceIte, Option.map_some, Option.map_none, Option.bind_some, Option.bind_none, Option.isSome_some, List.map_cons, List.map_nil, AV.cells, List.length_cons, List.length_nil, List.all_cons, List.all_nil, AV.one, Value.oneCell', ne_eq, reduceCtorEq, Int.reduceNeg, Int.reduceEq, Int.reduceNe, Int.reduceAdd, Int.reduceSub, Int.reduceMul, Int.reduceLT, Int.reduceLE, Int.reduceToNat, List.drop_zero, List.take_zero, List.drop_succ_cons, List.take_succ_cons, List.nil_append, List.cons_append, List.append_nil, List.replicate_zero, List.flatten_nil, List.flatten_cons, List.reduceReplicate, ge_iff_le, gt_iff_lt, eq_self, Nat.add_assoc, facts, *, fI_at, fI_at0] | simp (disch := omega) only [Ab.wrap_i64] | ((with_reducible refine Ab.gd_ndec (fun _ => ?_) (fun _ => ?_)) <;> try (exfalso; omega)) | ((with_reducible refine Ab.br_ndec (fun _ => ?_) (fun _ => ?_)) <;> try (exfalso; omega)) | ((with_reducible refine Ab.gd_dec (fun _ => ?_) (fun _ => ?_)) <;> try (exfalso; omega)) | ((with_reducible refine Ab.br_dec (fun _ => ?_) (fun _ => ?_)) <;> try (exfalso; omega)) | (refine And.intro (by omega) ?_) | (refine gd_split (fun _ => ?_) (fun _ => ?_)) | (refine br_split (fun _ => ?_) (fun _ => ?_)) | (refine cl_same (mk _) ?_) | (refine cl_use ( hmk) (fun hd => by cases hd) ?_) | omega)
      exact ⟨(i + 1, k + 1 + 1 + 1 + xs.length, X4), [], by dsimp only; omega, ⟨by dsimp only; omega, by dsimp only; omega, by dsimp only; omega, hA4⟩, by simp, by first | rfl | (dsimp only; omega) | (dsimp only; done), by first | rfl | (dsimp only; omega) | (dsimp only; done)⟩
    · obtain rfl : i = js.length := by omega
      repeat' (first | simp -implicitDefEqProofs only [Ab.R1, Ab.R2, Ab.R3, Ab.R4, Ab.R5, Ab.RH, Ab.RM, Ab.binV, Ab.binC, Nat.reduceLT, Nat.reduceBEq, Nat.reduceAdd, Nat.reduceMul, Nat.reduceEqDiff, Nat.reduceLeDiff, Nat.reduceSub, List.getElem?_cons_zero, List.getElem?_cons_succ, List.getElem?_nil, Option.getD_some, Option.getD_none, if_true, if_false, reduceIte, Option.map_some, Option.map_none, Option.bind_some, Option.bind_none, Option.isSome_some, List.map_cons, List.map_nil, AV.cells, List.length_cons, List.length_nil, List.all_cons, List.all_nil, AV.one, Value.oneCell', ne_eq, reduceCtorEq, Int.reduceNeg, Int.reduceEq, Int.reduceNe, Int.reduceAdd, Int.reduceSub, Int.reduceMul, Int.reduceLT, Int.reduceLE, Int.reduceToNat, List.drop_zero, List.take_zero, List.drop_succ_cons, List.take_succ_cons, List.nil_append, List.cons_append, List.append_nil, List.replicate_zero, List.flatten_nil, List.flatten_cons, List.reduceReplicate, ge_iff_le, gt_iff_lt, eq_self, Nat.add_assoc, facts, *] | simp (disch := omega) only [Ab.wrap_i64] | ((with_reducible refine Ab.gd_ndec (fun _ => ?_) (fun _ => ?_)) <;> try (exfalso; omega)) | ((with_reducible refine Ab.br_ndec (fun _ => ?_) (fun _ => ?_)) <;> try (exfalso; omega)) | ((with_reducible refine Ab.gd_dec (fun _ => ?_) (fun _ => ?_)) <;> try (exfalso; omega)) | ((with_reducible refine Ab.br_dec (fun _ => ?_) (fun _ => ?_)) <;> try (exfalso; omega)) | (refine And.intro (by omega) ?_) | (refine gd_split (fun _ => ?_) (fun _ => ?_)) | (refine br_split (fun _ => ?_) (fun _ => ?_)) | omega)
      exact ⟨k, X, by omega, hXl, rfl, rfl⟩
end Go.Proofs.Ytfcbjeciogfmeaa
