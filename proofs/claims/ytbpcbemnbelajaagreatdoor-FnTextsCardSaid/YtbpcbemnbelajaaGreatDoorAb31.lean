/- Loops that turn rows which stood when the function began. Plain library text, no statement. -/
import Derived.Test.YtbpcbemnbelajaaGreatDoorAb30
namespace Go.Ab
open Go Go.RowKit

section
variable {P : Program} {n : Nat} {h0 h : Heap} {s : S} {Q : Exit → S → Heap → Prop}
/-- **A loop**: as lw_loopS; the heads are held against the heap with which the function began. -/
theorem lw_loopH {c : LC} {α : Type} (kp : List Nat) (V : α → List (Nat × AV)) (H : α → Heap) (Inv : α → Prop) (m : α → Nat) (a0 : α)
    (hI : Inv a0) (hh : h = H a0) (hs : Has (V a0) s) (hkp : ∀ t ∈ kp, (s t).ok h0 = true) (side : ∀ a, Inv a → Side h0 (V a) (H a))
    (round : ∀ a, Inv a → closedH (H a) → LW P n h0 c (thenQ (fun s' h' => ∃ a' ext, m a' < m a ∧ Inv a' ∧ h' = H a' ++ ext ∧ Has (V a') s' ∧ KeptS kp s s') Q) (upds (V a) (kbase kp s)) (H a)) :
    LW P n h0 (.loop c) Q s h := by
  refine lw_loopR kp V H Inv m a0 hI hh hs hkp side fun a ha hc => (round a ha hc).mono fun e s' h' hq => ?_
  cases e with
  | normal =>
    obtain ⟨a', ext, h1, h2, rfl, h4, h5⟩ := hq
    have S := side a' h2
    have hid : ∀ i, i < (H a').length → (fun i : Nat => i) i = i := fun _ _ => rfl
    refine ⟨a', fun i => i, h1, h2, ⟨fun _ _ => rfl, fun i j _ _ he => he, fun i b hb => ?_⟩, ?_, h5⟩
    · rw [renL_same hid _ (S.closed i b hb)]
      exact Heap.sub_append _ _ _ _ hb
    · have key : ∀ l : List (Nat × AV), (∀ p ∈ l, p.2.ok (H a') = true) → Has l s' → HasR (fun i => i) l s' := by
        intro l
        induction l with
        | nil => intro _ _; trivial
        | cons p l ih =>
          intro hp hv
          exact ⟨by rw [ren_same hid _ (hp p List.mem_cons_self)]; exact hv.1, ih (fun q hq => hp q (List.mem_cons_of_mem _ hq)) hv.2⟩
      exact key _ S.vals h4
  | _ => exact hq
end

/-- one row set anew, others behind -/
theorem Side.setApp {h l : Heap} {V : List (Nat × AV)} {id st es es' : Nat} {e e' : TypeId} {cells cells' : List AV} (hc : closedH h) (hw : wr h id st = some (e, es, cells)) (hl : st ≤ cells'.length) (hp : okAll h cells' = true)
    (hb : ∀ b ∈ l, okAll (List.set h id ⟨.row e' es', cells'⟩ ++ l) b.cells = true) (hv : ∀ p ∈ V, p.2.ok (List.set h id ⟨.row e' es', cells'⟩ ++ l) = true) :
    Side h V (List.set h id ⟨.row e' es', cells'⟩ ++ l) := by
  obtain ⟨hlen, hbk, _⟩ := wr_spec hw
  have hLe := Heap.le_set hbk (k' := .row e' es') (cells' := cells') (by omega)
  refine ⟨closedH_append (fun i b hi => ?_) hb, Heap.le_trans hLe (Heap.le_append _ _), hv⟩
  rcases getElem?_set_cases hi with ⟨rfl, rfl⟩ | ⟨_, hi⟩
  · exact okAll_mono hLe _ hp
  · exact okAll_mono hLe _ (hc i b hi)
theorem set_app {h l : Heap} {id : Nat} {b : Blk} (hid : id < h.length) : List.set (h ++ l) id b = List.set h id b ++ l := List.set_append_left _ _ hid
theorem len_set {h : Heap} {id : Nat} {b : Blk} : (List.set h id b).length = h.length := List.length_set
end Go.Ab
