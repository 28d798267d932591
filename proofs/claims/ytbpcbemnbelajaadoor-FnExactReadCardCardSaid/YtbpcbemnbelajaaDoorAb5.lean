/- The model does each operation as the abstract heap says. Plain library text, no statement. -/
import Derived.Test.YtbpcbemnbelajaaDoorAb4
import Derived.Laws.Entries
import Derived.Laws.Slices
namespace Go.Ab
open Go Go.RowKit

section
variable {P : Program} {w0 w : World} {μ : Mu} {h : Heap} {K : AV → Heap → Prop} {s : S} {a : Act}

theorem toArray_eq {α : Type} {l : List α} {xs : Array α} (h : xs.toList = l) : xs = l.toArray := by subst h; simp

theorem zeroValue_run {t : TypeId} {i : TypeInfo} {z : Value} (hi : P.info? t = some i) (hz : i.zero = some z) (w : World) : (zeroValue t).run P w = .ok z w := by
  simp [zeroValue, typeInfo, hi, hz]
theorem sizeOf_run {t : TypeId} {i : TypeInfo} (hi : P.info? t = some i) (w : World) : (Go.sizeOf t).run P w = .ok i.size w := by
  simp [Go.sizeOf, typeInfo, hi]

theorem done_alloc {T : TypeId} {y : Ty} (H : HR w0 μ h w) (hy : tyOf P T = some y) (hk : K (.ptr h.length y.size 0) (h ++ [⟨.row T y.size, y.zero.map .raw⟩])) {run : Result Next}
    (hr : run = ((Instr.alloc T true (.tuple #[])).run P w).andThen fun v w => .ok (.value v) w) : Done P w0 μ h w run K := by
  obtain ⟨i, d, z, hi, hd, hz, h1, h2, h3, h4, h5, h6, h7, h8⟩ := tyOf_spec hy
  have hcells : z.cells = y.zero.toArray := toArray_eq h3
  refine Done.alloc H T y.size 1 (y.zero.map .raw) z.cells (.pointer (some ⟨w.heap.size, 0, none⟩)) _ (by simp [maxLen]) h5 (by simpa using h6) (okAll_raw _) (by rw [h3]; exact crs_raw h7) ?_ ?_ ?_ hk
  · rw [hr]
    simp [Instr.alloc, zeroValue_run hi hz, newVar, newRow]
  · simp [AV.ok, refOk, csz_new, h6]
  · have := vr_ptr_new (μ := μ) (h := h) (w := w) T y.size (y.zero.map .raw) 0 1
    simpa [h6] using this

theorem done_box {T : TypeId} {y : Ty} (H : HR w0 μ h w) (hy : tyOf P T = some y) {c : AV} {x : Value} (hok : c.ok h = true) (hv : VR μ h c x) (hl : c.cells.length = y.size) (h1 : c.cells.all AV.one = true)
    (hk : K (.ptr h.length y.size 0) (h ++ [⟨.row T y.size, c.cells⟩])) {run : Result Next}
    (hr : run = ((Instr.box T x).run P w).andThen fun v w => .ok (.value v) w) : Done P w0 μ h w run K := by
  obtain ⟨i, d, z, hi, hd, hz, e1, e2, e3, e4, e5, e6, e7, e8⟩ := tyOf_spec hy
  refine Done.alloc H T y.size 1 c.cells x.cells (.pointer (some ⟨w.heap.size, 0, none⟩)) _ (by simp [maxLen]) e5 (by simpa using hl) (okAll_cells hok) (hv.cells h1) ?_ ?_ ?_ hk
  · rw [hr]
    simp [Instr.box, newVar, newRow]
  · simp [AV.ok, refOk, csz_new, hl]
  · have := vr_ptr_new (μ := μ) (h := h) (w := w) T y.size c.cells 0 1
    simpa [hl] using this

theorem isAgg_run {t : TypeId} {d : TypeDesc} (hd : P.underlying t = some d) (w : World) : (isAgg t).run P w = .ok (aggB d) w := by
  unfold isAgg
  rw [Sem.run_bind, run_underlying hd]
  cases d <;> rfl

theorem loadVar_run {t : TypeId} {y : Ty} (hy : tyOf P t = some y) (H : HR w0 μ h w) {id st off b o : Nat} {cells : List AV} (hr : rd h id st = some cells) (hb : (μ id).base = some (b, o)) :
    (y.agg = true → off + y.size ≤ cells.length → ∃ x, (loadVar t ⟨b, o + off, none⟩).run P w = .ok x w ∧ VR μ h (.agg ((cells.drop off).take y.size)) x) ∧
    (y.agg = false → ∀ c, cells[off]? = some c → ∃ x, (loadVar t ⟨b, o + off, none⟩).run P w = .ok x w ∧ VR μ h c x) := by
  obtain ⟨i, d, z, hi, hd, hz, e1, e2, e3, e4, e5, e6, e7, e8⟩ := tyOf_spec hy
  have hcell : ∀ (j : Nat) c, cells[j]? = some c → ∃ x, w.cell? ⟨b, o + j, none⟩ = some x ∧ CR μ h c x := by
    intro j c hj
    obtain ⟨b', o', x, hb', hx, hc⟩ := H.read hr hj
    rw [hb] at hb'
    injection hb' with hb'; injection hb' with h1 h2
    subst h1; subst h2
    exact ⟨x, hx, hc⟩
  constructor
  · intro hagg hlen
    have hall : ∀ j, j < y.size → ∃ x, w.cell? ⟨b, o + off + j, none⟩ = some x ∧ ∃ c, cells[off + j]? = some c ∧ CR μ h c x := by
      intro j hj
      obtain ⟨x, hx, hc⟩ := hcell (off + j) _ (List.getElem?_eq_getElem (by omega))
      exact ⟨x, by rw [Nat.add_assoc]; exact hx, _, List.getElem?_eq_getElem (by omega), hc⟩
    let f : Nat → Value := fun j => (w.cell? ⟨b, o + off + j, none⟩).getD undef
    have hf : ∀ j, j < y.size → w.cell? ((⟨b, o + off, none⟩ : Addr).add j) = some (f j) := by
      intro j hj
      obtain ⟨x, hx, _⟩ := hall j hj
      have hadd : (⟨b, o + off, none⟩ : Addr).add j = ⟨b, o + off + j, none⟩ := by unfold Addr.add; split <;> simp_all
      rw [hadd]
      simp [f, hx]
    refine ⟨.agg ((List.range y.size).map f).toArray, ?_, .agg (by simp; omega) ?_⟩
    · simp [loadVar, isAgg_run hd, e2, hagg, sizeOf_run hi, e1, run_loadCells w _ _ f hf]
    · intro j c x hc hx
      have hj : j < y.size := by have := lt_len hc; simp at this; omega
      obtain ⟨x', hx', c', hc', hcr⟩ := hall j hj
      have e1 : c = c' := by
        rw [List.getElem?_take, if_pos hj, List.getElem?_drop] at hc
        rw [hc] at hc'; injection hc'
      have e2 : x = x' := by
        simp [hj] at hx
        rw [← hx]; simp [f, hx']
      subst e1; subst e2
      exact hcr.1
  · intro hagg c hc
    obtain ⟨x, hx, hcr⟩ := hcell off c hc
    exact ⟨x, by simp [loadVar, isAgg_run hd, e2, hagg, hx], hcr.1⟩

/-- a list of stores into one row -/
theorem storeCells_run {id e es : Nat} {b : Nat} : ∀ (news : List AV) (xs : List Value) (i off : Nat) (h : Heap) (w : World) (cells : List AV), HR w0 μ h w → h[id]? = some ⟨.row e es, cells⟩ → (news ≠ [] → (μ id).base = some (b, 0)) → off + i + news.length ≤ cells.length →
    okAll h news = true → CRs μ h news xs →
    ∃ w', (storeCells ⟨b, off, none⟩ xs i).run P w = .ok () w' ∧ HR w0 μ (h.set id ⟨.row e es, cells.take (off + i) ++ news ++ cells.drop (off + i + news.length)⟩) w' := by
  intro news
  induction news with
  | nil =>
    intro xs i off h w cells H hb hbase hlen hok hcr
    have hx : xs = [] := List.eq_nil_of_length_eq_zero hcr.1.symm
    subst hx
    refine ⟨w, by simp [storeCells], ?_⟩
    have : h.set id ⟨.row e es, cells.take (off + i) ++ [] ++ cells.drop (off + i + ([] : List AV).length)⟩ = h := by
      simp only [List.append_nil, List.length_nil, Nat.add_zero, List.take_append_drop]
      apply List.ext_getElem?
      intro j
      by_cases hj : id = j
      · subst hj; rw [List.getElem?_set_self (lt_len hb), hb]
      · rw [List.getElem?_set_ne hj]
    rw [this]; exact H
  | cons c news ih =>
    intro xs i off h w cells H hb hbase hlen hok hcr
    cases xs with
    | nil => have := hcr.1; simp at this
    | cons x xs =>
      simp only [List.length_cons] at hlen
      simp only [okAll, Bool.and_eq_true] at hok
      have hc0 := hcr.2 0 c x rfl rfl
      obtain ⟨b', hb', ⟨y, hy⟩, hf, H'⟩ := H.set hb (off := off + i) (by omega) hok.1 hc0
      have hbb : b' = b := by
        rw [hbase (by simp)] at hb'; injection hb' with hb'; injection hb' with h1 h2; exact h1.symm
      subst hbb
      have hb2 : (h.set id ⟨.row e es, cells.set (off + i) c⟩)[id]? = some ⟨.row e es, cells.set (off + i) c⟩ := List.getElem?_set_self (lt_len hb)
      have hLe := Heap.le_set hb (k' := .row e es) (cells' := cells.set (off + i) c) (by simp)
      have hE : Ext μ h μ (h.set id ⟨.row e es, cells.set (off + i) c⟩) := Ext.set hb (by simp)
      have hcr' : CRs μ h news xs := ⟨by have := hcr.1; simpa using this, fun j d y hd hy => hcr.2 (j + 1) d y (by simpa using hd) (by simpa using hy)⟩
      obtain ⟨w', hr', H''⟩ := ih xs (i + 1) off _ _ _ H' hb2 (fun _ => hb') (by simp; omega) (okAll_mono hLe _ hok.2) (hE.crs hok.2 hcr')
      have hadd : (⟨b', off, none⟩ : Addr).add i = ⟨b', off + i, none⟩ := by unfold Addr.add; split <;> simp_all
      refine ⟨w', ?_, ?_⟩
      · simp only [storeCells, Sem.run_bind, hadd]
        rw [run_store P w _ x .plain hc0.2]
        simp only [hy, hf, Bool.false_eq_true, if_false, Result.andThen_ok]
        exact hr'
      · have e1 : (h.set id ⟨.row e es, cells.set (off + i) c⟩).set id ⟨.row e es, (cells.set (off + i) c).take (off + (i + 1)) ++ news ++ (cells.set (off + i) c).drop (off + (i + 1) + news.length)⟩ =
            h.set id ⟨.row e es, cells.take (off + i) ++ (c :: news) ++ cells.drop (off + i + (c :: news).length)⟩ := by
          rw [List.set_set]
          congr 2
          have t1 : (cells.set (off + i) c).take (off + (i + 1)) = cells.take (off + i) ++ [c] := by
            rw [List.take_set, show off + (i + 1) = (off + i) + 1 from by omega, List.take_succ_eq_append_getElem (by omega)]
            rw [List.set_append]
            simp [List.length_take, show min (off + i) cells.length = off + i from by omega]
          have t2 : (cells.set (off + i) c).drop (off + (i + 1) + news.length) = cells.drop (off + i + (c :: news).length) := by
            rw [List.drop_set_of_lt (by omega)]
            congr 1
            simp; omega
          rw [t1, t2]
          simp
        rw [← e1]; exact H''

end
end Go.Ab
