/- Loops whose head is written out: slots with their values, a heap, an invariant; nil slices as rows of no cell. Plain library text, no statement. -/
import Derived.Test.YtbpcbemnbelajaaDoorAb21
namespace Go.Ab
open Go Go.RowKit

def Has : List (Nat × AV) → S → Prop
  | [], _ => True
  | p :: l, s => s p.1 = p.2 ∧ Has l s
def upds : List (Nat × AV) → S → S
  | [], s => s
  | p :: l, s => upd (upds l s) p.1 p.2
def kbase : List Nat → S → S
  | [], _ => fun _ => .dead
  | t :: l, s => upd (kbase l s) t (s t)
def KeptS : List Nat → S → S → Prop
  | [], _, _ => True
  | t :: l, s, s' => s' t = s t ∧ KeptS l s s'

theorem has_nil {s : S} : Has [] s = True := rfl
theorem has_cons {t : Nat} {v : AV} {l : List (Nat × AV)} {s : S} : Has ((t, v) :: l) s = (s t = v ∧ Has l s) := rfl
theorem upds_nil {s : S} : upds [] s = s := rfl
theorem upds_cons {t : Nat} {v : AV} {l : List (Nat × AV)} {s : S} : upds ((t, v) :: l) s = upd (upds l s) t v := rfl
theorem kbase_nil {s : S} {t : Nat} : kbase [] s t = .dead := rfl
theorem kbase_cons {t : Nat} {l : List Nat} {s : S} : kbase (t :: l) s = upd (kbase l s) t (s t) := rfl
theorem kept_nil {s s' : S} : KeptS [] s s' = True := rfl
theorem kept_cons {t : Nat} {l : List Nat} {s s' : S} : KeptS (t :: l) s s' = (s' t = s t ∧ KeptS l s s') := rfl

theorem Has.get {l : List (Nat × AV)} {s : S} (h : Has l s) : ∀ p ∈ l, s p.1 = p.2 := by
  induction l with
  | nil => intro p hp; cases hp
  | cons q l ih =>
    intro p hp
    rcases List.mem_cons.1 hp with rfl | hp
    · exact h.1
    · exact ih h.2 p hp
theorem KeptS.get {l : List Nat} {s s' : S} (h : KeptS l s s') : ∀ t ∈ l, s' t = s t := by
  induction l with
  | nil => intro p hp; cases hp
  | cons q l ih =>
    intro p hp
    rcases List.mem_cons.1 hp with rfl | hp
    · exact h.1
    · exact ih h.2 p hp
theorem Has.of {l : List (Nat × AV)} {s : S} (h : ∀ p ∈ l, s p.1 = p.2) : Has l s := by
  induction l with
  | nil => trivial
  | cons q l ih => exact ⟨h q List.mem_cons_self, ih fun p hp => h p (List.mem_cons_of_mem _ hp)⟩
theorem KeptS.of {l : List Nat} {s s' : S} (h : ∀ t ∈ l, s' t = s t) : KeptS l s s' := by
  induction l with
  | nil => trivial
  | cons q l ih => exact ⟨h q List.mem_cons_self, ih fun p hp => h p (List.mem_cons_of_mem _ hp)⟩

/-- what the first says, the second says -/
def Less (s1 s : S) : Prop := ∀ t, s1 t = .dead ∨ s1 t = s t

theorem less_kbase {s s' : S} : ∀ {kp : List Nat}, KeptS kp s s' → Less (kbase kp s) s'
  | [], _ => fun _ => .inl rfl
  | t :: l, hk => fun u => by
    unfold kbase upd
    by_cases hu : u = t
    · subst hu; right; rw [if_pos rfl]; exact hk.1.symm
    · rw [if_neg hu]; exact less_kbase hk.2 u
theorem less_upds {s s' : S} (hb : Less s s') : ∀ {V : List (Nat × AV)}, Has V s' → Less (upds V s) s'
  | [], _ => hb
  | p :: l, hv => fun u => by
    unfold upds upd
    by_cases hu : u = p.1
    · subst hu; right; rw [if_pos rfl]; exact hv.1.symm
    · rw [if_neg hu]; exact less_upds hb hv.2 u

section
variable {P : Program} {n : Nat} {h0 h : Heap} {s : S} {Q : Exit → S → Heap → Prop}

theorem LW.less {c : LC} {s1 : S} (hl : Less s1 s) (hc : LW P n h0 c Q s1 h) : LW P n h0 c Q s h :=
  fun C hC w0 μ0 μ a w r => hc C hC w0 μ0 μ a w ⟨r.size, r.defers, fun t => by
    rcases hl t with ht | ht
    · rw [ht]; exact ⟨rfl, .dead _⟩
    · rw [ht]; exact r.slots t, r.heap, r.ext, r.le⟩

/-- what every head of a loop owes: the heap it began with, the slots' values, the heap at the head -/
structure Side (h : Heap) (V : List (Nat × AV)) (H : Heap) : Prop where
  closed : closedH H
  le : h.le H
  vals : ∀ p ∈ V, p.2.ok H = true

theorem clean_eq {h : Heap} {s : S} {t : Nat} {v : AV} (h1 : s t = v) (h2 : v.ok h = true) : clean h s t = v := by
  unfold clean; rw [h1, if_pos h2]

theorem lw_known {c : LC} (hc : closedH h → h0.le h → (∀ t, (s t).ok h = true) → LW P n h0 c Q s h) : LW P n h0 c Q s h :=
  fun C hC w0 μ0 μ a w r => hc r.heap.closed r.le (fun t => (r.slots t).1) C hC w0 μ0 μ a w r

/-- **A loop**: at its head the slots and the heap are written out; what a round makes for itself may be forgotten. -/
theorem lw_loopS {c : LC} {α : Type} (kp : List Nat) (V : α → List (Nat × AV)) (H : α → Heap) (Inv : α → Prop) (m : α → Nat) (a0 : α)
    (hI : Inv a0) (hh : h = H a0) (hs : Has (V a0) s)
    (side : closedH h → ∀ a, Inv a → Side h (V a) (H a))
    (round : ∀ a, Inv a → closedH (H a) → LW P n h0 c (thenQ (fun s' h' => ∃ a' ext, m a' < m a ∧ Inv a' ∧ h' = H a' ++ ext ∧ Has (V a') s' ∧ KeptS kp s s') Q) (upds (V a) (kbase kp s)) (H a)) :
    LW P n h0 (.loop c) Q s h := by
  refine lw_known fun hc0 hl0 hok => ?_
  have sd := side hc0
  refine lw_loopD (fun k s' h' => ∃ a, k = m a ∧ Inv a ∧ h' = H a ∧ Has (V a) s' ∧ KeptS kp s s') (m a0) ⟨a0, rfl, hI, hh, hs, KeptS.of fun _ _ => rfl⟩ ?_
  rintro k s' h' ⟨a, rfl, ha, rfl, hv, hk⟩ hc hl
  refine LW.less (less_upds (less_kbase hk) hv) ((round a ha hc).mono fun e s'' h'' hq => ?_)
  cases e with
  | normal =>
    obtain ⟨a', ext, hm, ha', rfl, hv', hk'⟩ := hq
    have S := sd a' ha'
    exact ⟨m a', hm, H a', ext, rfl, S.closed, Heap.le_trans hl0 S.le, a', rfl, ha', rfl, Has.of fun p hp => clean_eq (hv'.get p hp) (S.vals p hp), KeptS.of fun t ht => clean_eq (hk'.get t ht) (AV.ok_mono S.le _ (hok t))⟩
  | _ => exact hq

/-- rows that have grown or stayed -/
def LeB : Heap → Heap → Prop
  | [], _ => True
  | _ :: _, [] => False
  | b :: l, c :: m => b.cells.length ≤ c.cells.length ∧ LeB l m
theorem leB_nil {m : Heap} : LeB [] m = True := by cases m <;> rfl
theorem leB_cons {b c : Blk} {l m : Heap} : LeB (b :: l) (c :: m) = (b.cells.length ≤ c.cells.length ∧ LeB l m) := rfl

theorem LeB.get : ∀ {l m : Heap}, LeB l m → ∀ (j : Nat) b, l[j]? = some b → ∃ c, m[j]? = some c ∧ b.cells.length ≤ c.cells.length
  | [], _, _, j, b, hj => by simp at hj
  | _ :: _, [], hl, _, _, _ => hl.elim
  | b :: l, c :: m, hl, 0, b', hj => by simp at hj; subst hj; exact ⟨c, rfl, hl.1⟩
  | b :: l, c :: m, hl, j + 1, b', hj => by simpa using LeB.get hl.2 j b' (by simpa using hj)

theorem LeB.le {hb l m : Heap} (hl : LeB l m) : (hb ++ l).le (hb ++ m) := by
  intro id k hk
  rcases Nat.lt_or_ge id hb.length with h1 | h1
  · refine ⟨k, ?_, Nat.le_refl _⟩
    unfold csz at *
    rw [List.getElem?_append_left h1] at *
    exact hk
  · unfold csz at *
    rw [List.getElem?_append_right h1] at hk
    rw [List.getElem?_append_right h1]
    cases hb' : l[id - hb.length]? with
    | none => rw [hb'] at hk; simp at hk
    | some b =>
      obtain ⟨c, hc, hlen⟩ := hl.get _ b hb'
      rw [hb'] at hk
      simp at hk
      exact ⟨c.cells.length, by rw [hc]; rfl, by omega⟩

theorem Side.same {V : List (Nat × AV)} (hc : closedH h) (hv : ∀ p ∈ V, p.2.ok h = true) : Side h V h := ⟨hc, Heap.le_refl _, hv⟩
theorem Side.app {hb l m : Heap} {V : List (Nat × AV)} (hcb : closedH hb) (hm : ∀ b ∈ m, okAll (hb ++ m) b.cells = true) (hl : LeB l m) (hv : ∀ p ∈ V, p.2.ok (hb ++ m) = true) : Side (hb ++ l) V (hb ++ m) :=
  ⟨closedH_append hcb hm, hl.le, hv⟩

/-- a reference to a row of the heap's end -/
def okB : Heap → Nat → Nat → Bool
  | [], _, _ => false
  | b :: _, 0, st => decide (st ≤ b.cells.length)
  | _ :: l, k + 1, st => okB l k st
theorem okB_zero {b : Blk} {l : Heap} {st : Nat} : okB (b :: l) 0 st = decide (st ≤ b.cells.length) := rfl
theorem okB_succ {b : Blk} {l : Heap} {k st : Nat} : okB (b :: l) (k + 1) st = okB l k st := rfl
theorem refOk_app {hb l : Heap} {k st : Nat} : refOk (hb ++ l) (hb.length + k) st = okB l k st := by
  have : ∀ (l : Heap) (k : Nat), (match l[k]?.map (·.cells.length) with | some n => decide (st ≤ n) | none => false) = okB l k st := by
    intro l
    induction l with
    | nil => intro k; rfl
    | cons b l ih =>
      intro k
      cases k with
      | zero => rfl
      | succ k => simpa [okB] using ih k
  unfold refOk csz
  rw [get_new]
  exact this l k
theorem refOk_app0 {hb l : Heap} {st : Nat} : refOk (hb ++ l) hb.length st = okB l 0 st := refOk_app (k := 0)
theorem ok_raw {h : Heap} {v : Value} : (AV.raw v).ok h = true := rfl
theorem ok_own {h : Heap} {id es len : Nat} : (AV.own id es len).ok h = refOk h id (len * es) := rfl
theorem ok_ptr {h : Heap} {id st off : Nat} : (AV.ptr id st off).ok h = refOk h id st := rfl
theorem ok_sub {h : Heap} {id st es lo len : Nat} : (AV.sub id st es lo len).ok h = refOk h id st := rfl
theorem okAll_nil {h : Heap} : okAll h [] = true := rfl
theorem okAll_cons {h : Heap} {c : AV} {cs : List AV} : okAll h (c :: cs) = (c.ok h && okAll h cs) := rfl
theorem refOk_ext {h l : Heap} {id st : Nat} (hr : refOk h id st = true) : refOk (h ++ l) id st = true := refOk_mono (Heap.le_append _ _) hr
theorem refOk_sz {h : Heap} {id st : Nat} (hs : sz h id = some st) : refOk h id st = true := refOk_of_sz hs
end

/-- short words for values -/
abbrev VI (n : Int) : AV := .raw (.int .i64 n)
abbrev VB (b : Bool) : AV := .raw (.bool b)
abbrev VS (b : ByteArray) : AV := .raw (.string b)

theorem AC.closed {P : Program} {g : FuncId} {args : List AV} {h : Heap} {Q : AV → Heap → Prop} (hc : closedH h → okAll h args = true → AC P g args h Q) : AC P g args h Q :=
  fun w0 μ w xs H hv hk => hc H.closed hk w0 μ w xs H hv hk

/-- a function's contract, its heap closed -/
theorem AC_go {P : Program} {h : Heap} (hm : P.follows .mixedOrders = true) {g : FuncId} {c : LC} {m : Nat} {rs : List ResultVar} (hok : FnOk P g c m rs) {args : List AV} {R : AV → Heap → Prop} (hlen : args.length ≤ m)
    (H : closedH h → okAll h args = true → run P m h [.code c] (retQ P rs R) (entry args) h) : AC P g args h R :=
  AC.closed fun hc ha => AC_run hm hok hlen (H hc ha)

/-! ### nil slices as rows of no cell -/

theorem HR.nilrow {w0 w : World} {μ : Mu} {h : Heap} (H : HR w0 μ h w) (e : TypeId) (es : Nat) :
    HR w0 (Mu.put μ h.length ⟨none, 0⟩) (h ++ [⟨.row e es, []⟩]) w :=
  H.add (v := .slice none 0 0) (xs := []) (n := 0) (World.ownsRow_nil _ _ _ _) (fun k hk => by simp [Value.ownBlock] at hk) rfl ⟨rfl, fun i c x hi => by simp at hi⟩

theorem vr_nilrow {μ : Mu} {h : Heap} (e : TypeId) (es : Nat) : VR (Mu.put μ h.length ⟨none, 0⟩) (h ++ [⟨.row e es, []⟩]) (.own h.length es 0) (.slice none 0 0) :=
  .own rfl fun _ => by simp [Mu.put, Loc.at]

theorem ok_nilrow {h : Heap} (e : TypeId) (es : Nat) : (AV.own h.length es 0).ok (h ++ [⟨.row e es, []⟩]) = true := by
  simp [AV.ok, refOk, csz]

section
variable {P : Program} {n : Nat} {h0 h : Heap} {s : S} {Q : Exit → S → Heap → Prop}

/-- a slot that holds nil -/
theorem lw_nilslot {c : LC} (t : Nat) (e : TypeId) (es : Nat) (ht : s t = .raw (.slice none 0 0)) (hc : LW P n h0 c Q (upd s t (.own h.length es 0)) (h ++ [⟨.row e es, []⟩])) : LW P n h0 c Q s h :=
  fun C hC w0 μ0 μ a w r => hc C hC w0 μ0 (Mu.put μ h.length ⟨none, 0⟩) a w ⟨r.size, r.defers, fun u => by
    have hE := Ext.grow (μ := μ) (h := h) ⟨.row e es, []⟩ ⟨none, 0⟩
    unfold upd
    by_cases hu : u = t
    · subst hu
      rw [if_pos rfl]
      have h1 := (r.slots u).2
      rw [ht] at h1
      rw [raw_val h1]
      exact ⟨ok_nilrow e es, vr_nilrow e es⟩
    · rw [if_neg hu]
      exact ⟨AV.ok_mono (Heap.le_append _ _) _ (r.slots u).1, hE _ _ (r.slots u).1 (r.slots u).2⟩,
    r.heap.nilrow e es, r.ext.trans r.le (Ext.grow _ _), Heap.le_trans r.le (Heap.le_append _ _)⟩

/-- the cells of a row, said anew -/
theorem HR.recell {w0 w : World} {μ : Mu} (H : HR w0 μ h w) {id : Nat} {e : TypeId} {es : Nat} {cells cells' : List AV} (hb : h[id]? = some ⟨.row e es, cells⟩) (hl : cells'.length = cells.length) (hok : okAll h cells' = true)
    (hc : ∀ xs, CRs μ h cells xs → CRs μ h cells' xs) : HR w0 μ (h.set id ⟨.row e es, cells'⟩) w := by
  have hE : Ext μ h μ (h.set id ⟨.row e es, cells'⟩) := Ext.set hb hl
  have hLe := Heap.le_set hb (k' := .row e es) (cells' := cells') (by omega)
  refine ⟨H.below, fun i b hi => ?_, fun i e' es' cs' hi => ?_, fun i cs' hi j d hd => ?_, fun i j e1 es1 cs1 e2 es2 cs2 hij hi hj => ?_⟩
  · refine okAll_mono hLe _ ?_
    rcases getElem?_set_cases hi with ⟨rfl, rfl⟩ | ⟨_, hi⟩
    · exact hok
    · exact H.closed i b hi
  · rcases getElem?_set_cases hi with ⟨rfl, he⟩ | ⟨_, hi⟩
    · obtain ⟨⟨rfl, rfl⟩, rfl⟩ : (e' = e ∧ es' = es) ∧ cs' = cells' := by
        injection he with h1 h2; injection h1 with h3 h4; exact ⟨⟨h3, h4⟩, h2⟩
      obtain ⟨m, xs, ho, hcr⟩ := H.row i e' es' cells hb
      exact ⟨m, xs, ho, hE.crs hok (hc xs hcr)⟩
    · obtain ⟨m, xs, ho, hcr⟩ := H.row i e' es' cs' hi
      exact ⟨m, xs, ho, hE.crs (H.closed i _ hi) hcr⟩
  · rcases getElem?_set_cases hi with ⟨rfl, he⟩ | ⟨_, hi⟩
    · cases he
    · obtain ⟨b, o, x, h1, h2, h3, h4⟩ := H.ro i cs' hi j d hd
      exact ⟨b, o, x, h1, h2, h3, hE d x (ok_of_mem (H.closed i _ hi) hd) h4.1, h4.2⟩
  · have old : ∀ {i : Nat} {e1 es1 cs1}, (h.set id ⟨.row e es, cells'⟩)[i]? = some ⟨.row e1 es1, cs1⟩ → ∃ e2 es2 cs2, h[i]? = some ⟨.row e2 es2, cs2⟩ := by
      intro i e1 es1 cs1 hi
      rcases getElem?_set_cases hi with ⟨rfl, _⟩ | ⟨_, hi⟩
      · exact ⟨_, _, _, hb⟩
      · exact ⟨_, _, _, hi⟩
    obtain ⟨_, _, _, hi'⟩ := old hi
    obtain ⟨_, _, _, hj'⟩ := old hj
    exact H.apart i j _ _ _ _ _ _ hij hi' hj'

/-- a cell that holds nil -/
theorem lw_nilcell {c : LC} (id k : Nat) (e : TypeId) (es : Nat) {e1 : TypeId} {es1 : Nat} {cells : List AV} (hb : h[id]? = some ⟨.row e1 es1, cells⟩) (hk : cells[k]? = some (.raw (.slice none 0 0)))
    (hc : LW P n h0 c Q s (List.set (h ++ [(⟨.row e es, []⟩ : Blk)]) id ⟨.row e1 es1, cells.set k (.own h.length es 0)⟩)) : LW P n h0 c Q s h :=
  fun C hC w0 μ0 μ a w r => by
    have hE := Ext.grow (μ := μ) (h := h) ⟨.row e es, []⟩ ⟨none, 0⟩
    have H' := r.heap.nilrow e es
    have hb' : (h ++ [(⟨.row e es, []⟩ : Blk)])[id]? = some ⟨.row e1 es1, cells⟩ := by rw [List.getElem?_append_left (lt_len hb)]; exact hb
    have hokc := H'.closed id _ hb'
    have hok : okAll (h ++ [⟨.row e es, []⟩]) (cells.set k (.own h.length es 0)) = true := by
      rw [okAll_iff]
      intro d hd
      rcases List.mem_or_eq_of_mem_set hd with hd | rfl
      · exact okAll_iff.1 hokc d hd
      · exact ok_nilrow e es
    have hcr : ∀ xs, CRs (Mu.put μ h.length ⟨none, 0⟩) (h ++ [⟨.row e es, []⟩]) cells xs → CRs (Mu.put μ h.length ⟨none, 0⟩) (h ++ [⟨.row e es, []⟩]) (cells.set k (.own h.length es 0)) xs := by
      intro xs hx
      refine ⟨by simpa using hx.1, fun i d x hd hxx => ?_⟩
      rcases getElem?_set_cases hd with ⟨rfl, rfl⟩ | ⟨_, hd⟩
      · have := hx.2 i _ x hk hxx
        rw [raw_val this.1]
        exact ⟨vr_nilrow e es, rfl⟩
      · exact hx.2 i d x hd hxx
    have H2 := H'.recell hb' (by simp) hok hcr
    have hE2 : Ext (Mu.put μ h.length ⟨none, 0⟩) (h ++ [⟨.row e es, []⟩]) _ (List.set (h ++ [(⟨.row e es, []⟩ : Blk)]) id ⟨.row e1 es1, cells.set k (.own h.length es 0)⟩) := Ext.set hb' (by simp)
    have hL2 := Heap.le_set hb' (k' := .row e1 es1) (cells' := cells.set k (.own h.length es 0)) (by simp)
    have hL := Heap.le_trans (Heap.le_append h [⟨.row e es, []⟩]) hL2
    have hE3 := hE.trans (Heap.le_append _ _) hE2
    exact hc C hC w0 μ0 _ a w ⟨r.size, r.defers, r.slots.ext hE3 hL, H2, r.ext.trans r.le hE3, Heap.le_trans r.le hL⟩
end

/-- a result that is nil -/
theorem AC.nilres {P : Program} {g : FuncId} {args : List AV} {h : Heap} {Q Q' : AV → Heap → Prop} (hc : AC P g args h Q)
    (hq : ∀ c h', Q c h' → Q' c h' ∨ (c = .raw (.slice none 0 0) ∧ ∃ e es, Q' (.own h'.length es 0) (h' ++ [⟨.row e es, []⟩]))) : AC P g args h Q' := by
  intro w0 μ w xs H hv hk
  refine (hc w0 μ w xs H hv hk).mono fun x w' ⟨μ', c, h', q, hvx, hck, H', hE, hL⟩ => ?_
  rcases hq c h' q with q' | ⟨rfl, e, es, q'⟩
  · exact ⟨μ', c, h', q', hvx, hck, H', hE, hL⟩
  · rw [raw_val hvx]
    exact ⟨_, _, _, q', vr_nilrow e es, ok_nilrow e es, H'.nilrow e es, hE.trans hL (Ext.grow _ _), Heap.le_trans hL (Heap.le_append _ _)⟩

/-- an argument that is nil -/
theorem AC.nilarg {P : Program} {g : FuncId} {l1 l2 : List AV} {h : Heap} {Q : AV → Heap → Prop} (e : TypeId) (es : Nat) (hc : AC P g (l1 ++ .own h.length es 0 :: l2) (h ++ [⟨.row e es, []⟩]) Q) : AC P g (l1 ++ .raw (.slice none 0 0) :: l2) h Q := by
  intro w0 μ w xs H hv hk
  have hE := Ext.grow (μ := μ) (h := h) ⟨.row e es, []⟩ ⟨none, 0⟩
  refine (hc w0 _ w xs (H.nilrow e es) ⟨?_, fun i c x hi hx => ?_⟩ ?_).mono fun x w' ⟨μ', c, h', q, hvx, hck, H', hE', hL⟩ =>
    ⟨μ', c, h', q, hvx, hck, H', hE.trans (Heap.le_append _ _) hE', Heap.le_trans (Heap.le_append _ _) hL⟩
  · have := hv.1; simpa using this
  · have old : ∀ d, (l1 ++ .raw (.slice none 0 0) :: l2)[i]? = some d → VR μ h d x ∧ d.ok h = true := fun d hd => ⟨hv.2 i d x hd hx, ok_of_mem hk hd⟩
    rw [List.getElem?_append] at hi
    split at hi
    · rename_i hlt
      obtain ⟨a, b⟩ := old c (by rw [List.getElem?_append, if_pos hlt]; exact hi)
      exact hE c x b a
    · rename_i hge
      cases hj : i - l1.length with
      | zero =>
        rw [hj] at hi
        simp at hi
        subst hi
        obtain ⟨a, b⟩ := old (.raw (.slice none 0 0)) (by rw [List.getElem?_append, if_neg hge, hj]; rfl)
        rw [raw_val a]
        exact vr_nilrow e es
      | succ j =>
        rw [hj] at hi
        simp at hi
        obtain ⟨a, b⟩ := old c (by rw [List.getElem?_append, if_neg hge, hj]; simpa using hi)
        exact hE c x b a
  · rw [okAll_iff] at hk ⊢
    intro c hc
    simp only [List.mem_append, List.mem_cons] at hc hk
    rcases hc with hc | rfl | hc
    · exact AV.ok_mono (Heap.le_append _ _) _ (hk c (.inl hc))
    · exact ok_nilrow e es
    · exact AV.ok_mono (Heap.le_append _ _) _ (hk c (.inr (.inr hc)))

/-- Of the rows that a call has made one is kept. -/
theorem AC.one {P : Program} {g : FuncId} {args : List AV} {h : Heap} {Q' : AV → Heap → Prop} (hc : AC P g args h fun c h' => ∃ junk p b es n, h' = h ++ junk ∧ junk[p]? = some b ∧ (∀ h, okAll h b.cells = true) ∧ n * es ≤ b.cells.length ∧ c = .own (h.length + p) es n ∧ Q' (.own h.length es n) (h ++ [b]))
    (hren : ∀ ρ c h', Q' c h' → ∀ b ∈ h'.drop h.length, renL ρ b.cells = b.cells) : AC P g args h Q' :=
  hc.keep fun hcl c h' ⟨junk, p, b, es, n, hh, hp, hok, hn, hce, hq⟩ => by
    subst hh; subst hce
    have hr : renL (plc h [p]) b.cells = b.cells := hren _ _ _ hq b (by simp)
    refine ⟨plc h [p], h ++ [b], .own h.length es n, keeps_list hcl (by simp) rfl (fun j b' p' hb hp' => ?_), closedH_append hcl (fun b' hb => ?_), Heap.le_append _ _, ?_, ?_, hq⟩
    · cases j with
      | zero => simp at hb hp'; subst hb; subst hp'; rw [hp, hr]
      | succ j => simp at hb
    · simp at hb; subst hb; exact hok _
    · simp [AV.ok, refOk, csz, hn]
    · simp [AV.ren, plc]

end Go.Ab
