/- Loops that keep some of the rows that a round has made, in a new numbering; calls with an outcome that is not written out. Plain library text, no statement. -/
import Derived.Test.YtbpcbemnbelajaaGreatDoorAb28
namespace Go.Ab
open Go Go.RowKit

/-- these rows stand at these places of what the call has made -/
def KeepB (ρ : Nat → Nat) (junk : Heap) : List Blk → List Nat → Prop
  | [], [] => True
  | b :: bs, p :: ps => junk[p]? = some ⟨b.kind, renL ρ b.cells⟩ ∧ KeepB ρ junk bs ps
  | _, _ => False
theorem keepB_nil {ρ : Nat → Nat} {junk : Heap} : KeepB ρ junk [] [] = True := rfl
theorem keepB_cons {ρ : Nat → Nat} {junk : Heap} {b : Blk} {bs : List Blk} {p : Nat} {ps : List Nat} : KeepB ρ junk (b :: bs) (p :: ps) = (junk[p]? = some ⟨b.kind, renL ρ b.cells⟩ ∧ KeepB ρ junk bs ps) := rfl
theorem KeepB.len {ρ : Nat → Nat} {junk : Heap} : ∀ {bs : List Blk} {ps : List Nat}, KeepB ρ junk bs ps → ps.length = bs.length
  | [], [], _ => rfl
  | [], _ :: _, h => h.elim
  | _ :: _, [], h => h.elim
  | _ :: _, _ :: _, h => by simp [h.2.len]
theorem KeepB.get {ρ : Nat → Nat} {junk : Heap} : ∀ {bs : List Blk} {ps : List Nat}, KeepB ρ junk bs ps → ∀ (j : Nat) b p, bs[j]? = some b → ps[j]? = some p → junk[p]? = some ⟨b.kind, renL ρ b.cells⟩
  | [], [], _, j, b, p, hb, _ => by simp at hb
  | [], _ :: _, h, _, _, _, _, _ => h.elim
  | _ :: _, [], h, _, _, _, _, _ => h.elim
  | c :: bs, q :: ps, h, 0, b, p, hb, hp => by simp at hb hp; subst hb; subst hp; exact h.1
  | c :: bs, q :: ps, h, j + 1, b, p, hb, hp => h.2.get j b p (by simpa using hb) (by simpa using hp)
theorem KeepB.keeps {h junk bs : Heap} {ps : List Nat} (hk : KeepB (plc h ps) junk bs ps) (hcl : closedH h) (hnd : ps.Nodup) : Keeps h (h ++ junk) (h ++ bs) (plc h ps) :=
  keeps_list hcl hnd hk.len hk.get

/-- Of the rows that a call has made some are kept. -/
theorem AC.keepB {P : Program} {g : FuncId} {args : List AV} {h : Heap} (ps : List Nat) (c1 : AV) (bs : Heap) (hnd : ps.Nodup) (hok : c1.ok (h ++ bs) = true) (hb : ∀ b ∈ bs, okAll (h ++ bs) b.cells = true)
    (hc : AC P g args h fun c h' => c = c1.ren (plc h ps) ∧ ∃ junk, h' = h ++ junk ∧ KeepB (plc h ps) junk bs ps) : AC P g args h fun c h' => c = c1 ∧ h' = h ++ bs :=
  hc.keep fun hcl c h' ⟨hce, junk, hh, hk⟩ => by
    subst hh; subst hce
    exact ⟨plc h ps, h ++ bs, c1, hk.keeps hcl hnd, closedH_append hcl hb, Heap.le_append _ _, hok, rfl, rfl, rfl⟩

def HasR (ρ : Nat → Nat) : List (Nat × AV) → S → Prop
  | [], _ => True
  | p :: l, s => s p.1 = p.2.ren ρ ∧ HasR ρ l s
theorem hasR_nil {ρ : Nat → Nat} {s : S} : HasR ρ [] s = True := rfl
theorem hasR_cons {ρ : Nat → Nat} {t : Nat} {v : AV} {l : List (Nat × AV)} {s : S} : HasR ρ ((t, v) :: l) s = (s t = v.ren ρ ∧ HasR ρ l s) := rfl
theorem HasR.get {ρ : Nat → Nat} {l : List (Nat × AV)} {s : S} (h : HasR ρ l s) : ∀ p ∈ l, s p.1 = p.2.ren ρ := by
  induction l with
  | nil => intro p hp; cases hp
  | cons q l ih =>
    intro p hp
    rcases List.mem_cons.1 hp with rfl | hp
    · exact h.1
    · exact ih h.2 p hp
theorem ren_own {ρ : Nat → Nat} {id es len : Nat} : (AV.own id es len).ren ρ = .own (ρ id) es len := rfl
theorem ren_ptr {ρ : Nat → Nat} {id st off : Nat} : (AV.ptr id st off).ren ρ = .ptr (ρ id) st off := rfl
theorem ren_sub {ρ : Nat → Nat} {id st es lo len : Nat} : (AV.sub id st es lo len).ren ρ = .sub (ρ id) st es lo len := rfl
theorem ren_raw {ρ : Nat → Nat} {v : Value} : (AV.raw v).ren ρ = .raw v := rfl
theorem ren_agg {ρ : Nat → Nat} {cs : List AV} : (AV.agg cs).ren ρ = .agg (renL ρ cs) := rfl
theorem ren_tup {ρ : Nat → Nat} {cs : List AV} : (AV.tup cs).ren ρ = .tup (renL ρ cs) := rfl
theorem renL_nil {ρ : Nat → Nat} : renL ρ [] = [] := rfl
theorem renL_cons {ρ : Nat → Nat} {c : AV} {cs : List AV} : renL ρ (c :: cs) = c.ren ρ :: renL ρ cs := rfl
theorem plc_new {h : Heap} {ps : List Nat} {j : Nat} : plc h ps (h.length + j) = h.length + ps.getD j 0 := by
  unfold plc
  rw [if_neg (by omega)]
  congr 2; omega
theorem plc_new0 {h : Heap} {ps : List Nat} : plc h ps h.length = h.length + ps.getD 0 0 := plc_new (j := 0)
theorem plc_old {h : Heap} {ps : List Nat} {i : Nat} (hi : i < h.length) : plc h ps i = i := by simp [plc, hi]

section
variable {P : Program} {n : Nat} {h0 h : Heap} {s : S} {Q : Exit → S → Heap → Prop}

theorem Rel.ren {w0 w : World} {μ0 μ : Mu} {a : Act} {h' h1 : Heap} {ρ : Nat → Nat} {s1 : S} (r : Rel w0 μ0 h0 n μ h' s a w) (hk : Keeps h0 h' h1 ρ) (hc : closedH h1) (hl : h0.le h1)
    (hs : ∀ t, s1 t = .dead ∨ ((s1 t).ok h1 = true ∧ s t = (s1 t).ren ρ)) : Rel w0 μ0 h0 n (fun i => μ (ρ i)) h1 s1 a w := by
  refine ⟨r.size, r.defers, fun t => ?_, r.heap.ren hk hc, fun d y hd hy => ?_, hl⟩
  · rcases hs t with ht | ⟨h1, h2⟩
    · rw [ht]; exact ⟨rfl, .dead _⟩
    · refine ⟨h1, VR.ren hk h1 ?_⟩
      rw [← h2]; exact (r.slots t).2
  · refine VR.ren hk (AV.ok_mono hl d hd) ?_
    rw [ren_same hk.old d hd]
    exact r.ext d y hd hy

theorem upds_get {l : List (Nat × AV)} {s : S} {t : Nat} : upds l s t = s t ∨ ∃ p ∈ l, p.1 = t ∧ upds l s t = p.2 := by
  induction l with
  | nil => exact .inl rfl
  | cons q l ih =>
    unfold upds upd
    by_cases ht : t = q.1
    · exact .inr ⟨q, List.mem_cons_self, ht.symm, by rw [if_pos ht]⟩
    · rw [if_neg ht]
      rcases ih with h | ⟨p, hp, h1, h2⟩
      · exact .inl h
      · exact .inr ⟨p, List.mem_cons_of_mem _ hp, h1, h2⟩
theorem kbase_get {l : List Nat} {s : S} {t : Nat} : kbase l s t = .dead ∨ (t ∈ l ∧ kbase l s t = s t) := by
  induction l with
  | nil => exact .inl rfl
  | cons q l ih =>
    unfold kbase upd
    by_cases ht : t = q
    · subst ht; exact .inr ⟨List.mem_cons_self, by rw [if_pos rfl]⟩
    · rw [if_neg ht]
      rcases ih with h | ⟨h1, h2⟩
      · exact .inl h
      · exact .inr ⟨List.mem_cons_of_mem _ h1, h2⟩

/-- **A loop**: as lw_loopS; of what a round has made some rows are kept, in a new numbering. The kept slots refer to what stood when the function began. -/
theorem lw_loopR {c : LC} {α : Type} (kp : List Nat) (V : α → List (Nat × AV)) (H : α → Heap) (Inv : α → Prop) (m : α → Nat) (a0 : α)
    (hI : Inv a0) (hh : h = H a0) (hs : Has (V a0) s) (hkp : ∀ t ∈ kp, (s t).ok h0 = true) (side : ∀ a, Inv a → Side h0 (V a) (H a))
    (round : ∀ a, Inv a → closedH (H a) → LW P n h0 c (thenQ (fun s' h' => ∃ a' ρ, m a' < m a ∧ Inv a' ∧ Keeps h0 h' (H a') ρ ∧ HasR ρ (V a') s' ∧ KeptS kp s s') Q) (upds (V a) (kbase kp s)) (H a)) :
    LW P n h0 (.loop c) Q s h := by
  intro C hC w0 μ0 μ a w r
  obtain ⟨c1, rfl, hC1⟩ := lite_loop hC
  have less : ∀ a (s' : S), Has (V a) s' → KeptS kp s s' → Less (upds (V a) (kbase kp s)) s' := fun a s' hv hk => less_upds (less_kbase hk) hv
  have key : ∀ k a, m a < k → ∀ (μ : Mu) (ac : Act) (w : World), Inv a → Rel w0 μ0 h0 n μ (H a) (upds (V a) (kbase kp s)) ac w → Code.rounds P c1 (LQ w0 μ0 h0 n Q) k ac w := by
    intro k
    induction k with
    | zero => intro a hk; omega
    | succ k ih =>
      intro a hk μ ac w ha r
      rw [rounds_succ]
      have S := side a ha
      refine wp_mono (round a ha S.closed c1 hC1 w0 μ0 μ ac w r) fun e a' w' ⟨μ', h', s', q, r'⟩ => ?_
      cases e with
      | normal =>
        obtain ⟨b, ρ, hm, hb, hkeep, hv, hks⟩ := q
        have S' := side b hb
        refine ih b (by omega) _ a' w' hb (r'.ren hkeep S'.closed S'.le fun t => ?_)
        rcases upds_get (l := V b) (s := kbase kp s) (t := t) with h1 | ⟨p, hp, h1, h2⟩
        · rcases kbase_get (l := kp) (s := s) (t := t) with h3 | ⟨h3, h4⟩
          · left; rw [h1, h3]
          · right
            rw [h1, h4]
            refine ⟨AV.ok_mono S'.le _ (hkp t h3), ?_⟩
            rw [ren_same hkeep.old _ (hkp t h3)]
            exact hks.get t h3
        · right
          rw [h2]
          refine ⟨S'.vals p hp, ?_⟩
          rw [← h1]; exact hv.get p hp
      | _ => exact ⟨μ', h', s', q, r'⟩
  subst hh
  refine wp_loop_rounds (m a0 + 1) (key (m a0 + 1) a0 (by omega) μ a w hI ⟨r.size, r.defers, fun t => ?_, r.heap, r.ext, r.le⟩)
  rcases less a0 s hs (KeptS.of fun _ _ => rfl) t with ht | ht
  · rw [ht]; exact ⟨rfl, .dead _⟩
  · rw [ht]; exact r.slots t
end

section
variable {P : Program} {n : Nat} {h0 h : Heap} {s : S} {Q : Exit → S → Heap → Prop} {k : List It} {dr : Bool} {l : List LO} {L : List Operand}
/-- a call whose outcome is one of many; what has been made stands behind the old heap -/
theorem cl_ex {α : Type} {C : α → Prop} {F : α → AV} {E : α → Heap} {g : FuncId} {args : List AV} {t : Nat} (hc : AC P g args h fun c h' => ∃ a, C a ∧ c = F a ∧ h' = h ++ E a)
    (hq : ∀ a, C a → t < n ∧ run P n h0 (.ops dr l :: k) Q (upd s t (F a)) (h ++ E a)) : clR P n h0 dr (some t) (.fn (.func g) []) args L l k Q s h := by
  show AC P g (args ++ []) h _
  rw [List.append_nil]
  refine hc.mono fun c h' ⟨a, ha, hce, hh⟩ => ?_
  subst hce; subst hh
  exact ⟨fun _ => keepL_sub (Heap.sub_append _ _), hq a ha⟩
/-- a call whose outcome is one of many -/
theorem cl_anyK {C : AV → Heap → Prop} {g : FuncId} {args : List AV} {t : Nat} (hc : AC P g args h C)
    (hq : ∀ c h', C c h' → KeepL s L h h' ∧ t < n ∧ run P n h0 (.ops dr l :: k) Q (upd s t c) h') : clR P n h0 dr (some t) (.fn (.func g) []) args L l k Q s h := by
  show AC P g (args ++ []) h _
  rw [List.append_nil]
  exact hc.mono fun c h' hc => ⟨fun _ => (hq c h' hc).1, (hq c h' hc).2⟩
/-- a call whose outcome is one of many, in a region that is not drawn -/
theorem cl_any {C : AV → Heap → Prop} {g : FuncId} {args : List AV} {t : Nat} (hc : AC P g args h C)
    (hq : ∀ c h', C c h' → t < n ∧ run P n h0 (.ops false l :: k) Q (upd s t c) h') : clR P n h0 false (some t) (.fn (.func g) []) args L l k Q s h := by
  show AC P g (args ++ []) h _
  rw [List.append_nil]
  exact hc.mono fun c h' hc => ⟨fun hd => (by cases hd), hq c h' hc⟩
end
end Go.Ab
