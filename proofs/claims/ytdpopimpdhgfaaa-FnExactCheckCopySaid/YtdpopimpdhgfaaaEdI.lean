/- EditionOk: the program's as a contract on the abstract heap. -/
import Derived.Test.YtdpopimpdhgfaaaEdW
import Derived.Test.YtdpopimpdhgfaaaAb32
namespace Go.Proofs.Ytdpopimpdhgfaaa
set_option maxRecDepth 20000
set_option linter.unusedSimpArgs false
set_option linter.unusedVariables false
open Go Go.Ab Go.RowKit

theorem wf_of64 {n : Int} (h : int64 n) : (Lit.int .i64 n).wf = true := WalkArith.wf_i64 ⟨h.1, h.2⟩

theorem implEd_ok (sz : Int) (xs : List Int) (id : Nat) (hn : xs.length ≤ 4194304) (hx : ∀ x ∈ xs, int64 x) (h : Heap) (hr : rd h id xs.length = some (rowI xs)) :
    AC Try.prog 17 [.agg [VI sz, .own id 1 xs.length]] h fun r h' => r = VB (edB sz xs) ∧ h' = h := by
  intro w0 μ w av H hv hk
  obtain ⟨x, rfl⟩ : ∃ x, av = #[x] := by
    have hl := hv.1
    simp at hl
    obtain ⟨l⟩ := av
    match l, hl with
    | [x], _ => exact ⟨x, rfl⟩
  have hx0 := hv.2 0 _ x rfl rfl
  obtain ⟨arr, rfl, harr⟩ : ∃ arr : Array Value, x = .agg arr ∧ VRs μ h [VI sz, .own id 1 xs.length] arr.toList := by
    cases hx0 with
    | agg h1 h2 => exact ⟨_, rfl, by simpa using h1, fun i c y hc hy => h2 i c y hc (by simpa using hy)⟩
  obtain ⟨a0, a1, rfl⟩ : ∃ a0 a1, arr = #[a0, a1] := by
    have hl := harr.1
    simp at hl
    obtain ⟨l⟩ := arr
    match l, hl with
    | [a0, a1], _ => exact ⟨a0, a1, rfl⟩
  have h0 := raw_val (harr.2 0 _ a0 rfl rfl)
  have h1 := harr.2 1 _ a1 rfl rfl
  have hr' : rd h id (xs.length * 1) = some (rowI xs) := by rw [Nat.mul_one]; exact hr
  have hsz := (rd_spec hr').2.2
  have hae := h1.own_get hsz
  obtain ⟨vals, hcr, hor⟩ := H.row_read hr'
  subst h0
  subst hae
  have he := entered_of Try.func17 (by decide) (by kernel_rfl)
  unfold CallOK
  rw [he]
  refine ⟨rfl, ?_⟩
  have fin : ∀ (b : Bool) (e : Ending) (w' : World), e = .returned (.bool b) ∧ Below w.heap.size w w' → ∃ x, e = .returned x ∧ ∃ μ' c h', (c = VB b ∧ h' = h) ∧ VR μ' h' c x ∧ c.ok h' = true ∧ HR w0 μ' h' w' ∧ Ext μ h μ' h' ∧ h.le h' :=
    fun b e w' ⟨hee, hb⟩ => ⟨_, hee, μ, VB b, h, ⟨rfl, rfl⟩, .raw _, rfl, H.world hb, Ext.refl _ _, Heap.le_refl _⟩
  cases hb : (μ id).base with
  | none =>
    have hxe : xs = [] := by
      rcases hor with hor | ⟨b, o, hbo, _⟩
      · have := congrArg List.length hor
        rw [rowI_len] at this
        exact List.eq_nil_of_length_eq_zero this
      · rw [hb] at hbo; cases hbo
    subst hxe
    exact (ed_none _ _ sz w).mono fun e w' hh => fin _ e w' hh
  | some p =>
    obtain ⟨b, o⟩ := p
    by_cases hl0 : xs.length = 0
    · have hxe : xs = [] := List.eq_nil_of_length_eq_zero hl0
      subst hxe
      exact (ed_none _ _ sz w).mono fun e w' hh => fin _ e w' hh
    have hsl : (μ id).at 0 = some ⟨b, o, none⟩ := by simp [Loc.at, hb]
    rw [hsl]
    have hcells : ∀ j u, vals[j]? = some u → w.cell? ⟨b, o + j, none⟩ = some u := by
      rcases hor with hor | ⟨b', o', hbo, hce⟩
      · have := congrArg List.length hor
        rw [rowI_len] at this
        exact absurd this hl0
      · rw [hb] at hbo; injection hbo with hbo; injection hbo with h1 h2; subst h1; subst h2
        exact hce
    have hval : ∀ j, j < xs.length → vals[j]? = some (.int .i64 (xs.getD j 0)) := fun j hj => by
      have hl : j < vals.length := by rw [← hcr.1, rowI_len]; exact hj
      have h3 := hcr.2 j _ vals[j] (rowI_get hj) (List.getElem?_eq_getElem hl)
      rw [List.getElem?_eq_getElem hl, raw_val h3.1]
    have hblt : b < w.heap.size := by
      have := hcells 0 _ (hval 0 (by omega))
      exact World.block_lt_of_cell? w _ this
    exact (ed_any b o xs.length _ sz xs w hn rfl hblt (fun j hj => hcells j _ (hval j hj)) (fun n hn' => wf_of64 (hx n hn'))).mono fun e w' hh => fin _ e w' hh
end Go.Proofs.Ytdpopimpdhgfaaa
