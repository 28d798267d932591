/- Results that keep one row. Plain library text, no statement. -/
import Derived.Test.YtbpcbemnbelajaaGreatDoorAb27
namespace Go.Ab
open Go Go.RowKit

/-- Of the rows that a call has made one, of plain cells, is kept, and stands then at the old heap's end. -/
theorem AC.row1 {P : Program} {g : FuncId} {args : List AV} {h : Heap} (p : Nat) (F : Nat → AV) (b : Blk) (hF : ∀ ρ i, (F i).ren ρ = F (ρ i)) (hok : (F h.length).ok (h ++ [b]) = true) (hb : ∀ h, okAll h b.cells = true) (hr : ∀ ρ, renL ρ b.cells = b.cells)
    (hc : AC P g args h fun c h' => c = F (h.length + p) ∧ ∃ junk, h' = h ++ junk ∧ junk[p]? = some b) : AC P g args h fun c h' => c = F h.length ∧ h' = h ++ [b] :=
  hc.keep fun hcl c h' ⟨hce, junk, hh, hp⟩ => by
    subst hh; subst hce
    refine ⟨plc h [p], h ++ [b], F h.length, keeps_list hcl (by simp) rfl (fun j b' p' hb' hp' => ?_), closedH_append hcl (fun b' hb' => ?_), Heap.le_append _ _, hok, ?_, rfl, rfl⟩
    · cases j with
      | zero => simp at hb' hp'; subst hb'; subst hp'; rw [hp, hr]
      | succ j => simp at hb'
    · simp at hb'; subst hb'; exact hb _
    · rw [hF]; simp [plc]

theorem renL_rowN (ρ : Nat → Nat) (xs : List Nat) : renL ρ (rowN xs) = rowN xs := by simp [renL_map, rowN, AV.ren]
theorem renL_rowOf {α : Type} {f : α → List AV} (hf : ∀ ρ a, renL ρ (f a) = f a) (ρ : Nat → Nat) (xs : List α) : renL ρ (rowOf f xs) = rowOf f xs := by
  induction xs with
  | nil => rfl
  | cons a xs ih =>
    rw [rowOf_cons, renL_map, List.map_append, ← renL_map, ← renL_map, hf, ih]

theorem ok_new {h : Heap} {e : TypeId} {es n : Nat} {cells : List AV} (hl : n * es ≤ cells.length) : (AV.own h.length es n).ok (h ++ [⟨.row e es, cells⟩]) = true := by
  simp [AV.ok, refOk, csz, hl]

/-- a search with a test of one's own -/
theorem any_take {q : Int → Bool} {xs : List Int} {i : Nat} {x : Int} (hx : xs[i]? = some x) (ht : (xs.take i).any q = false) (hq : q x = false) : (xs.take (i + 1)).any q = false := by
  rw [take_snoc hx, List.any_append, ht]; simp [hq]
theorem any_hit {q : Int → Bool} {xs : List Int} {i : Nat} {x : Int} (hx : xs[i]? = some x) (hq : q x = true) : xs.any q = true :=
  List.any_eq_true.2 ⟨x, List.mem_of_getElem? hx, hq⟩
theorem any_none {q : Int → Bool} {xs : List Int} {i : Nat} (h : xs.length ≤ i) (ht : (xs.take i).any q = false) : xs.any q = false := by
  rwa [take_all h] at ht
end Go.Ab
