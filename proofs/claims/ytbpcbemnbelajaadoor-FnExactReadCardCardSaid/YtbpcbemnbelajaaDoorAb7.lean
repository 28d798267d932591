/- Literals and appends; all operations together. Plain library text, no statement. -/
import Derived.Test.YtbpcbemnbelajaaDoorAb6
namespace Go.Ab
open Go Go.RowKit

section
variable {P : Program} {w0 w : World} {μ : Mu} {h : Heap} {K : AV → Heap → Prop} {s : S} {a : Act}

theorem foldl_set (off : Nat) : ∀ (vs : List Value) (k : Nat) (xs : Array Value), off + k + vs.length ≤ xs.size →
    ((vs.zipIdx k).foldl (fun (cs : Array Value) (p : Value × Nat) => cs.setIfInBounds (off + p.2) p.1) xs).toList = xs.toList.take (off + k) ++ vs ++ xs.toList.drop (off + k + vs.length) := by
  intro vs
  induction vs with
  | nil => intro k xs _; simp
  | cons v vs ih =>
    intro k xs hl
    simp only [List.length_cons] at hl
    simp only [List.zipIdx_cons, List.foldl_cons]
    rw [ih (k + 1) _ (by simp; omega)]
    simp only [Array.toList_setIfInBounds]
    have t1 : (xs.toList.set (off + k) v).take (off + (k + 1)) = xs.toList.take (off + k) ++ [v] := by
      rw [List.take_set, show off + (k + 1) = (off + k) + 1 from by omega, List.take_succ_eq_append_getElem (by simp; omega), List.set_append]
      simp [List.length_take, show min (off + k) xs.size = off + k from by omega]
    have t2 : (xs.toList.set (off + k) v).drop (off + (k + 1) + vs.length) = xs.toList.drop (off + k + (v :: vs).length) := by
      rw [List.drop_set_of_lt (by omega)]
      congr 1
      simp; omega
    rw [t1, t2]
    simp

/-- related parts -/
inductive PRs (μ : Mu) (h : Heap) : List (Nat × AV) → List (Nat × Value) → Prop
  | nil : PRs μ h [] []
  | cons {p x ps xs} : (p.1 = x.1 ∧ VR μ h p.2 x.2 ∧ p.2.cells.all AV.one = true) → PRs μ h ps xs → PRs μ h (p :: ps) (x :: xs)

theorem crs_splice {cs news : List AV} {xs ys : List Value} (hc : CRs μ h cs xs) (hn : CRs μ h news ys) {off : Nat} (hl : off + news.length ≤ cs.length) :
    CRs μ h (cs.take off ++ news ++ cs.drop (off + news.length)) (xs.take off ++ ys ++ xs.drop (off + ys.length)) := by
  have h1 := hc.1
  have h2 := hn.1
  refine ⟨by simp [h1, h2], fun i c x hi hx => ?_⟩
  rw [List.append_assoc, List.getElem?_append, List.length_take, Nat.min_eq_left (by omega)] at hi hx
  split at hi
  · rename_i hlt
    rw [if_pos hlt] at hx
    rw [List.getElem?_take, if_pos hlt] at hi hx
    exact hc.2 i c x hi hx
  · rename_i hge
    rw [if_neg hge] at hx
    rw [List.getElem?_append] at hi hx
    rw [h2] at hi
    split at hi
    · rename_i hlt
      rw [if_pos hlt] at hx
      exact hn.2 _ c x hi hx
    · rename_i hge'
      rw [if_neg hge'] at hx
      rw [List.getElem?_drop] at hi hx
      exact hc.2 _ c x hi hx

theorem fill_run {place : Nat → Option (Nat × Nat)} : ∀ (ps : List (Nat × AV)) (xs : List (Nat × Value)) (cells cells' : List AV) (arr : Array Value),
    PRs μ h ps xs → CRs μ h cells arr.toList → fillA place cells ps = some cells' → ∃ arr', Instr.fill place arr xs = some arr' ∧ CRs μ h cells' arr'.toList := by
  intro ps
  induction ps with
  | nil =>
    intro xs cells cells' arr hp hc hf
    cases hp
    simp [fillA] at hf
    subst hf
    exact ⟨arr, rfl, hc⟩
  | cons p ps ih =>
    intro xs cells cells' arr hp hc hf
    cases hp with
    | cons h1 h2 =>
      rename_i x xs
      obtain ⟨i, c⟩ := p
      obtain ⟨j, v⟩ := x
      obtain ⟨rfl, hv, hone⟩ := h1
      simp only [fillA] at hf
      cases hpl : place i with
      | none => simp [hpl] at hf
      | some q =>
        obtain ⟨off, size⟩ := q
        simp only [hpl] at hf
        split at hf
        · rename_i hcond
          have hcr := hv.cells hone
          have hvs : v.cells.size = size := by have := hcr.1; rw [hcond.1] at this; simpa using this.symm
          have hal : arr.size = cells.length := by have := hc.1; simpa using this.symm
          have e := foldl_set off v.cells.toList 0 arr (by simp; omega)
          simp only [Nat.add_zero] at e
          have hc' := crs_splice hc hcr (off := off) hcond.2
          rw [← e] at hc'
          obtain ⟨arr', ha, hca⟩ := ih xs _ cells' _ h2 hc' hf
          refine ⟨arr', ?_, hca⟩
          simp only [Instr.fill, hpl, hvs]
          have hb : (decide (size ≠ size) || decide (off + size > arr.size)) = false := by
            simp; omega
          rw [show (size ≠ size || decide (off + size > arr.size)) = false from hb]
          simp only [Bool.false_eq_true, if_false]
          rw [← ha]
          congr 1
          rw [← Array.foldl_toList]
          simp
        · cases hf

theorem fill_ok {place : Nat → Option (Nat × Nat)} : ∀ (ps : List (Nat × AV)) (cells cells' : List AV), okAll h cells = true → (∀ p ∈ ps, p.2.ok h = true) → fillA place cells ps = some cells' → okAll h cells' = true ∧ cells'.length = cells.length := by
  intro ps
  induction ps with
  | nil => intro cells cells' hc _ hf; simp [fillA] at hf; subst hf; exact ⟨hc, rfl⟩
  | cons p ps ih =>
    intro cells cells' hc hp hf
    obtain ⟨i, c⟩ := p
    simp only [fillA] at hf
    cases hpl : place i with
    | none => simp [hpl] at hf
    | some q =>
      obtain ⟨off, size⟩ := q
      simp only [hpl] at hf
      split at hf
      · rename_i hcond
        have hck := okAll_cells (hp (i, c) List.mem_cons_self)
        have hnew : okAll h (cells.take off ++ c.cells ++ cells.drop (off + c.cells.length)) = true := by
          refine okAll_iff.2 fun d hd => ?_
          rw [okAll_iff] at hc hck
          simp only [List.mem_append] at hd
          rcases hd with (hd | hd) | hd
          · exact hc d (List.mem_of_mem_take hd)
          · exact hck d hd
          · exact hc d (List.mem_of_mem_drop hd)
        obtain ⟨r1, r2⟩ := ih _ cells' hnew (fun p hm => hp p (List.mem_cons_of_mem _ hm)) hf
        exact ⟨r1, r2.trans (by simp only [List.length_append, List.length_take, List.length_drop]; omega)⟩
      · cases hf

theorem parts_rel (hs : SR μ h s a.tmps) : ∀ (ps : List (Nat × Operand)), (ps.all fun p => ((ev s p.2).cells.all AV.one)) = true → PRs μ h (parts s ps) (ps.map fun p => (p.1, a.eval p.2)) ∧ ∀ p ∈ parts s ps, p.2.ok h = true := by
  intro ps
  induction ps with
  | nil => intro _; exact ⟨.nil, fun p hp => by simp [parts] at hp⟩
  | cons p ps ih =>
    intro hall
    simp only [List.all_cons, Bool.and_eq_true] at hall
    obtain ⟨h1, h2⟩ := ih hall.2
    refine ⟨.cons ⟨rfl, (hs.ev p.2).2, hall.1⟩ h1, fun q hq => ?_⟩
    simp only [parts, List.map_cons, List.mem_cons] at hq
    rcases hq with rfl | hq
    · exact (hs.ev p.2).1
    · exact h2 q hq

theorem done_buildSlice {t e : TypeId} {y : Ty} {len : Nat} {ps : List (Nat × Operand)} (H : HR w0 μ h w) (hs : SR μ h s a.tmps) (he : elemT P t = some e) (hy : tyOf P e = some y) (hl : len * y.size ≤ 16777216)
    (hone : (ps.all fun p => ((ev s p.2).cells.all AV.one)) = true) {cells : List AV}
    (hf : fillA (fun i => some (i * y.size, y.size)) (List.replicate len (y.zero.map AV.raw)).flatten (parts s ps) = some cells)
    (hk : K (.own h.length y.size len) (h ++ [⟨.row e y.size, cells⟩])) {run : Result Next}
    (hrun : run = ((Instr.buildSlice t len (ps.map fun p => (p.1, a.eval p.2)).toArray).run P w).andThen fun v w => .ok (.value v) w) : Done P w0 μ h w run K := by
  obtain ⟨i, d, z, hi, hd, hz, e1, e2, e3, e4, e5, e6, e7, e8⟩ := tyOf_spec hy
  have hz' : z.cells = y.zero.toArray := toArray_eq e3
  obtain ⟨hpr, hpk⟩ := parts_rel hs ps hone
  have hmade : (madeCells z.cells (len * y.size)).toList = (List.replicate len y.zero).flatten := by rw [hz', ← e6, madeCells_eq]
  have hmem : ∀ v ∈ (List.replicate len y.zero).flatten, v.oneCell' = true := by
    intro v hv
    simp only [List.mem_flatten, List.mem_replicate] at hv
    obtain ⟨l, ⟨_, rfl⟩, hv⟩ := hv
    exact e7 v hv
  have hc0 : CRs μ h (List.replicate len (y.zero.map AV.raw)).flatten (madeCells z.cells (len * y.size)).toList := by rw [hmade, flatten_map]; exact crs_raw hmem
  obtain ⟨arr, ha, hca⟩ := fill_run (parts s ps) _ _ cells _ hpr hc0 hf
  obtain ⟨hok, hlen⟩ := fill_ok (parts s ps) _ cells (by rw [flatten_map]; exact okAll_raw _) hpk hf
  have hlen' : cells.length = len * y.size := by rw [hlen]; simp [List.length_flatten, e6]
  have hpos : 1 ≤ y.size := e5
  have hbound : len ≤ 16777216 := Nat.le_trans (Nat.le_mul_of_pos_right _ e5) hl
  refine Done.alloc H e y.size len cells arr (.slice (some ⟨w.heap.size, 0, none⟩) len len) _ (by simp only [maxLen]; omega) e5 hlen' hok hca ?_ ?_ (vr_own_new e y.size _ _) hk
  · rw [hrun]
    have hnot : ¬ (16777216 < len * y.size) := by omega
    by_cases h0 : len * y.size = 0
    · have hm0 : (Array.map (fun x => (#[] : Array Value)[x % 0]!) (Array.range 0)) = madeCells z.cells 0 := by simp [madeCells, Array.range_zero']
      simp [Instr.buildSlice, run_underlying (elemT_spec he), sizeOf_run hi, e1, hnot, h0, newRow]
      rw [h0] at ha
      have hm0 : madeCells z.cells 0 = Array.map (fun _ => (default : Value)) (Array.range 0) := by simp [madeCells, Array.range_zero']
      rw [hm0] at ha
      rw [ha]
      rfl
    · simp [Instr.buildSlice, run_underlying (elemT_spec he), sizeOf_run hi, e1, hnot, h0, zeroValue_run hi hz, newRow]
      have : (Array.map (fun x => z.cells[x % z.cells.size]!) (Array.range (len * y.size))) = madeCells z.cells (len * y.size) := rfl
      simp [this, ha]
  · simp [AV.ok, refOk, csz_new, hlen']

theorem run_places : ∀ (fs : List Field), (fs.all fun f => (P.info? f.type).isSome) = true →
    (fs.mapM (fun f => do pure (f.offset, ← Go.sizeOf f.type)) : Sem (List (Nat × Nat))).run P w = .ok (fs.map fun f => (f.offset, ((P.info? f.type).map (·.size)).getD 0)) w := by
  intro fs
  induction fs with
  | nil => intro _; simp
  | cons f fs ih =>
    intro hall
    simp only [List.all_cons, Bool.and_eq_true] at hall
    obtain ⟨i, hi⟩ := Option.isSome_iff_exists.1 hall.1
    simp only [List.mapM_cons, Sem.run_bind, sizeOf_run hi, Result.andThen_ok, Sem.run_pure, ih hall.2, List.map_cons, hi, Option.map_some, Option.getD_some]

theorem fldOf_place {t : TypeId} {fs : Array Field} (hu : P.underlying t = some (.struct fs)) (i : Nat) {q : Nat × Nat} (hq : fldOf P t i = some q) :
    ((fs.map fun f => (f.offset, ((P.info? f.type).map (·.size)).getD 0))[i]?) = some q := by
  obtain ⟨o, n⟩ := q
  obtain ⟨fs', x, j, hu', hx, hj, h1, h2, _⟩ := fldOf_spec hq
  rw [hu] at hu'; injection hu' with hu'; injection hu' with hu'; subst hu'
  simp [hx, hj, h1, h2]

theorem fillA_mono {place place' : Nat → Option (Nat × Nat)} (hp : ∀ i q, place i = some q → place' i = some q) : ∀ (ps : List (Nat × AV)) (cells cells' : List AV), fillA place cells ps = some cells' → fillA place' cells ps = some cells' := by
  intro ps
  induction ps with
  | nil => intro cells cells' hf; exact hf
  | cons p ps ih =>
    intro cells cells' hf
    simp only [fillA] at *
    cases hpl : place p.1 with
    | none => simp [hpl] at hf
    | some q =>
      simp only [hpl] at hf
      simp only [hp _ _ hpl]
      split at hf
      · rename_i hc; rw [if_pos hc]; exact ih _ _ hf
      · cases hf

theorem done_build {t : TypeId} {y : Ty} {ps : List (Nat × Operand)} (H : HR w0 μ h w) (hs : SR μ h s a.tmps) (hfl : fldsOk P t = true) (hy : tyOf P t = some y)
    (hone : (ps.all fun p => ((ev s p.2).cells.all AV.one)) = true) {cells : List AV} (hf : fillA (fldOf P t) (y.zero.map AV.raw) (parts s ps) = some cells)
    (hk : K (.agg cells) h) {run : Result Next}
    (hrun : run = ((Instr.build t (ps.map fun p => (p.1, a.eval p.2)).toArray).run P w).andThen fun v w => .ok (.value v) w) : Done P w0 μ h w run K := by
  obtain ⟨i, d, z, hi, hd, hz, e1, e2, e3, e4, e5, e6, e7, e8⟩ := tyOf_spec hy
  obtain ⟨hpr, hpk⟩ := parts_rel hs ps hone
  unfold fldsOk at hfl
  split at hfl
  · rename_i fs hu
    have hc0 : CRs μ h (y.zero.map AV.raw) z.cells.toList := by rw [e3]; exact crs_raw e7
    have hf' := fillA_mono (place' := fun i => (fs.map fun f => (f.offset, ((P.info? f.type).map (·.size)).getD 0))[i]?) (fun i q hq => fldOf_place hu i hq) _ _ _ hf
    obtain ⟨arr, ha, hca⟩ := fill_run (parts s ps) _ _ cells _ hpr hc0 hf'
    obtain ⟨hok, hlen⟩ := fill_ok (parts s ps) _ cells (okAll_raw _) hpk hf
    refine Done.same H (c := .agg cells) (x := .agg arr) ?_ (by simpa only [AV.ok] using hok) (.agg (by simpa using hca.1) fun i c x hi hx => (hca.2 i c x hi (by simpa using hx)).1) hk
    rw [hrun]
    have hpl : (fs.mapM (fun f => do pure (f.offset, ← Go.sizeOf f.type)) : Sem (Array (Nat × Nat))).run P w = .ok (fs.map fun f => (f.offset, ((P.info? f.type).map (·.size)).getD 0)) w := by
      rw [Array.mapM_eq_mapM_toList, Sem.run_map, run_places (P := P) (w := w) fs.toList hfl]
      simp only [Result.andThen_ok]
      congr 1
      apply Array.ext'
      simp
    simp only [Instr.build, Sem.run_bind, zeroValue_run hi hz, Result.andThen_ok, run_underlying hu, hpl]
    split
    · rename_i cs hcs
      rw [ha] at hcs
      injection hcs with hcs
      subst hcs
      rfl
    · rename_i hcs
      exact (hcs arr ha).elim
  · cases hfl

end
end Go.Ab
