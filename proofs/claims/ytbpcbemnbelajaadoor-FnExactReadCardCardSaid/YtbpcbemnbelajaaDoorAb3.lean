/- What one operation does on the abstract heap, and that the model does it so. Plain library text, no statement. -/
import Derived.Test.YtbpcbemnbelajaaDoorAb2
namespace Go.Ab
open Go Go.RowKit

structure Ty where
  size : Nat
  agg : Bool
  zero : List Value
  bytes : Nat

def aggB : TypeDesc → Bool
  | .struct _ | .array _ _ => true
  | _ => false

/-- What the machine asks of a type: its size in cells, whether it is a struct or an array, its zero value's cells. -/
def tyOf (P : Program) (t : TypeId) : Option Ty :=
  match P.info? t, P.underlying t with
  | some i, some d =>
    match i.zero with
    | some z =>
      if decide (0 < i.size) && decide (z.cells.size = i.size) && z.cells.toList.all Value.oneCell' && (aggB d || decide (i.size = 1)) then some ⟨i.size, aggB d, z.cells.toList, i.bytes⟩ else none
    | none => none
  | _, _ => none

def elemT (P : Program) (t : TypeId) : Option TypeId := match P.underlying t with | some (.slice e) => some e | _ => none
def isStr (P : Program) (t : TypeId) : Bool := match P.underlying t with | some .string => true | _ => false
def intK (P : Program) (t : TypeId) : Option IntKind := match P.underlying t with | some (.int k) => some k | _ => none
/-- a field's offset and size -/
def fldOf (P : Program) (t : TypeId) (f : Nat) : Option (Nat × Nat) :=
  match P.underlying t with
  | some (.struct fs) => match fs[f]? with
    | some x => match P.info? x.type with
      | some i => if i.size = 0 then none else some (x.offset, i.size)
      | none => none
    | none => none
  | _ => none

theorem tyOf_spec {P : Program} {t : TypeId} {y : Ty} (h : tyOf P t = some y) :
    ∃ i d z, P.info? t = some i ∧ P.underlying t = some d ∧ i.zero = some z ∧ i.size = y.size ∧ aggB d = y.agg ∧ z.cells.toList = y.zero ∧ i.bytes = y.bytes ∧
      0 < y.size ∧ y.zero.length = y.size ∧ (∀ v ∈ y.zero, v.oneCell' = true) ∧ (y.agg = true ∨ y.size = 1) := by
  unfold tyOf at h
  split at h
  · rename_i i d hi hd
    split at h
    · rename_i z hz
      split at h
      · rename_i hc
        simp only [Bool.and_eq_true, decide_eq_true_eq, Bool.or_eq_true, List.all_eq_true] at hc
        injection h with h
        subst h
        exact ⟨i, d, z, hi, hd, hz, rfl, rfl, rfl, rfl, hc.1.1.1, by simpa using hc.1.1.2, fun v hv => hc.1.2 v hv, hc.2⟩
      · cases h
    · cases h
  · cases h

theorem elemT_spec {P : Program} {t e : TypeId} (h : elemT P t = some e) : P.underlying t = some (.slice e) := by
  unfold elemT at h; split at h
  · rename_i d hd; injection h with h; subst h; exact hd
  · cases h
theorem isStr_spec {P : Program} {t : TypeId} (h : isStr P t = true) : P.underlying t = some .string := by
  unfold isStr at h; split at h
  · assumption
  · cases h
theorem intK_spec {P : Program} {t : TypeId} {k} (h : intK P t = some k) : P.underlying t = some (.int k) := by
  unfold intK at h; split at h
  · rename_i d hd; injection h with h; subst h; exact hd
  · cases h
theorem fldOf_spec {P : Program} {t : TypeId} {f off n : Nat} (h : fldOf P t f = some (off, n)) :
    ∃ fs x i, P.underlying t = some (.struct fs) ∧ fs[f]? = some x ∧ P.info? x.type = some i ∧ i.size = n ∧ x.offset = off ∧ 0 < n := by
  unfold fldOf at h
  split at h
  · rename_i fs hu
    split at h
    · rename_i x hx
      split at h
      · rename_i i hi
        split at h
        · cases h
        · rename_i h0
          injection h with h; injection h with h1 h2
          exact ⟨fs, x, i, hu, hx, hi, h2, h1, by omega⟩
      · cases h
    · cases h
  · cases h

/-- The frame's slots. -/
abbrev S := Nat → AV
def upd (s : S) (t : Nat) (c : AV) : S := fun i => if i = t then c else s i

def ev (s : S) : Operand → AV
  | .tmp t => s t
  | .const v => .raw v
  | .func f => .fn (.func f) []
  | .global _ => .dead

def AV.cells : AV → List AV
  | .agg cs => cs
  | c => [c]

/-- may lie in a cell -/
def AV.one : AV → Bool
  | .raw v => v.oneCell'
  | .ptr _ _ _ | .own _ _ _ | .sub _ _ _ _ _ | .fn _ _ => true
  | _ => false

/-- the cells of a row that may be read -/
def rd (h : Heap) (id st : Nat) : Option (List AV) := match h[id]? with
  | some ⟨.gone, _⟩ => none
  | some ⟨_, cells⟩ => if cells.length = st then some cells else none
  | none => none

/-- the row that may be written -/
def wr (h : Heap) (id st : Nat) : Option (TypeId × Nat × List AV) := match h[id]? with
  | some ⟨.row e es, cells⟩ => if cells.length = st then some (e, es, cells) else none
  | _ => none

theorem rd_spec {h : Heap} {id st cells} (hr : rd h id st = some cells) : cells.length = st ∧ ((h[id]? = some ⟨.ro, cells⟩) ∨ ∃ e es, h[id]? = some ⟨.row e es, cells⟩) ∧ sz h id = some st := by
  unfold rd at hr
  split at hr
  · cases hr
  · rename_i k cells' hb hk
    split at hr
    · rename_i hl
      injection hr with hr; subst hr
      cases k with
      | gone => exact absurd rfl hb
      | ro => exact ⟨hl, .inl hk, by simp [sz, hk, Blk.sz, hl]⟩
      | row e es => exact ⟨hl, .inr ⟨e, es, hk⟩, by simp [sz, hk, Blk.sz, hl]⟩
    · cases hr
  · cases hr

theorem wr_spec {h : Heap} {id st e es cells} (hr : wr h id st = some (e, es, cells)) : cells.length = st ∧ h[id]? = some ⟨.row e es, cells⟩ ∧ sz h id = some st := by
  unfold wr at hr
  split at hr
  · rename_i e' es' cells' hk
    split at hr
    · rename_i hl
      injection hr with hr; injection hr with h1 h2; injection h2 with h2 h3
      subst h1; subst h2; subst h3
      exact ⟨hl, hk, by simp [sz, hk, Blk.sz, hl]⟩
    · cases hr
  · cases hr

/-- What the world holds in a row that may be read. -/
theorem HR.read {w0 μ h w} (H : HR w0 μ h w) {id st cells} (hr : rd h id st = some cells) {j : Nat} {c : AV} (hj : cells[j]? = some c) :
    ∃ b o x, (μ id).base = some (b, o) ∧ w.cell? ⟨b, o + j, none⟩ = some x ∧ CR μ h c x := by
  obtain ⟨_, hb | ⟨e, es, hb⟩, _⟩ := rd_spec hr
  · obtain ⟨b, o, x, h1, _, h3, h4⟩ := H.ro id cells hb j c hj
    exact ⟨b, o, x, h1, h3, h4⟩
  · obtain ⟨g, n, cap, cur, hmu, hg, hh, hnc, hcm, hcs, hlen, hcc⟩ := H.row_at hb (by have := lt_len hj; omega)
    have hjl := lt_len hj
    have hx : j < (cur.toList.take (n * es)).length := by rw [← hcc.1]; exact hjl
    refine ⟨g, 0, (cur.toList.take (n * es))[j], by rw [hmu], ?_, hcc.2 j c _ hj (List.getElem?_eq_getElem hx)⟩
    have : (cur.toList.take (n * es))[j]? = some (cur.toList.take (n * es))[j] := List.getElem?_eq_getElem hx
    rw [List.getElem?_take] at this
    split at this
    · simp only [World.cell?, hh, Nat.zero_add]
      simp
    · cases this

/-- the slots' values -/
def SR (μ : Mu) (h : Heap) (s : S) (tmps : Array Value) : Prop := ∀ t, (s t).ok h = true ∧ VR μ h (s t) (tmps.getD t undef)

theorem SR.ext {μ h μ' h' s tmps} (hs : SR μ h s tmps) (he : Ext μ h μ' h') (hl : h.le h') : SR μ' h' s tmps :=
  fun t => ⟨AV.ok_mono hl _ (hs t).1, he _ _ (hs t).1 (hs t).2⟩

theorem SR.ev {μ h s} {a : Act} (hs : SR μ h s a.tmps) (x : Operand) : (ev s x).ok h = true ∧ VR μ h (ev s x) (a.eval x) := by
  cases x with
  | tmp t => exact hs t
  | const v => exact ⟨rfl, .raw v⟩
  | func f => exact ⟨rfl, .fn (cs := []) (xs := #[]) rfl (fun i c x hi => by simp at hi)⟩
  | global g => exact ⟨rfl, .dead _⟩

theorem SR.put {μ h s} {a : Act} (hs : SR μ h s a.tmps) {t : Nat} (ht : t < a.tmps.size) {c : AV} {x : Value} (hc : c.ok h = true) (hv : VR μ h c x) : SR μ h (upd s t c) (a.put (some t) x).tmps := by
  intro i
  unfold upd
  by_cases hi : i = t
  · subst hi
    simp only [if_true]
    refine ⟨hc, ?_⟩
    have : (a.put (some i) x).tmps.getD i undef = x := by simp [Act.put, Array.getD_eq_getD_getElem?, Array.getElem?_setIfInBounds, ht]
    rw [this]; exact hv
  · rw [if_neg hi]
    refine ⟨(hs i).1, ?_⟩
    have : (a.put (some t) x).tmps.getD i undef = a.tmps.getD i undef := by
      simp [Act.put, Array.getD_eq_getD_getElem?, Array.getElem?_setIfInBounds, Ne.symm hi]
    rw [this]; exact (hs i).2

/-- What an operation that is run leaves behind. -/
def Done (P : Program) (w0 : World) (μ : Mu) (h : Heap) (w : World) (run : Result Next) (K : AV → Heap → Prop) : Prop :=
  ∃ c h' μ' w' x, K c h' ∧ (run = .ok (.value x) w' ∨ (run = .ok .skip w' ∧ x = undef)) ∧ VR μ' h' c x ∧ c.ok h' = true ∧ HR w0 μ' h' w' ∧ Ext μ h μ' h' ∧ h.le h'

section
variable {P : Program} {w0 w : World} {μ : Mu} {h : Heap} {K : AV → Heap → Prop}

theorem Done.same (H : HR w0 μ h w) {c : AV} {x : Value} {run : Result Next} (hr : run = .ok (.value x) w) (hc : c.ok h = true) (hv : VR μ h c x) (hk : K c h) : Done P w0 μ h w run K :=
  ⟨c, h, μ, w, x, hk, .inl hr, hv, hc, H, Ext.refl _ _, Heap.le_refl _⟩

theorem VR.one {c : AV} {x : Value} (hv : VR μ h c x) (h1 : c.one = true) : x.oneCell' = true := by
  cases hv <;> first | (simp [AV.one] at h1; done) | (simpa [AV.one] using h1) | assumption | rfl

theorem VR.cr {c : AV} {x : Value} (hv : VR μ h c x) (h1 : c.one = true) : CR μ h c x := ⟨hv, hv.one h1⟩

theorem cells_one {x : Value} (h1 : x.oneCell' = true) : x.cells = #[x] := by
  cases x <;> first | rfl | (simp [Value.oneCell'] at h1)

theorem VR.cells {c : AV} {x : Value} (hv : VR μ h c x) (h1 : c.cells.all AV.one = true) : CRs μ h c.cells x.cells.toList := by
  have single : c.one = true → c.cells = [c] → CRs μ h c.cells x.cells.toList := fun h1 hc => by
    rw [hc, cells_one (hv.one h1)]
    exact ⟨rfl, fun i d y hd hy => by
      cases i with
      | zero => simp at hd hy; subst hd; subst hy; exact hv.cr h1
      | succ i => simp at hd⟩
  cases hv with
  | agg hl hr =>
    refine ⟨by simpa [AV.cells, Value.cells] using hl, fun i d y hd hy => ?_⟩
    have hd' := hd
    refine (hr i d y hd (by simpa [Value.cells] using hy)).cr ?_
    simp only [AV.cells, List.all_eq_true] at h1
    exact h1 d (List.mem_of_getElem? hd')
  | _ => exact single (by simpa [AV.cells] using h1) rfl

theorem okAll_cells {c : AV} (hc : c.ok h = true) : okAll h c.cells = true := by
  cases c <;> simp_all [AV.cells, okAll, AV.ok]

theorem crs_raw {vs : List Value} (h1 : ∀ v ∈ vs, v.oneCell' = true) : CRs μ h (vs.map .raw) vs :=
  ⟨by simp, fun i c x hc hx => by
    simp at hc
    obtain ⟨v, hv, rfl⟩ := hc
    rw [hx] at hv; injection hv with hv; subst hv
    exact ⟨.raw _, h1 _ (List.mem_of_getElem? hx)⟩⟩

theorem okAll_raw (vs : List Value) : okAll h (vs.map .raw) = true := by
  rw [okAll_iff]; intro c hc; simp at hc; obtain ⟨v, _, rfl⟩ := hc; rfl

/-- A new row of n elements, no spare room. -/
theorem Done.alloc (H : HR w0 μ h w) (e : TypeId) (es n : Nat) (cells : List AV) (cur : Array Value) {run : Result Next} (x : Value) (c : AV) (hn : n ≤ maxLen) (hes : 0 < es) (hlen : cells.length = n * es)
    (hok : okAll h cells = true) (hcr : CRs μ h cells cur.toList) (hr : run = .ok (.value x) (w.alloc (.cells cur e)))
    (hc : c.ok (h ++ [⟨.row e es, cells⟩]) = true)
    (hv : VR (Mu.put μ h.length ⟨some (w.heap.size, 0), n⟩) (h ++ [⟨.row e es, cells⟩]) c x) (hk : K c (h ++ [⟨.row e es, cells⟩])) : Done P w0 μ h w run K := by
  have hcl : cur.toList.length = n * es := by rw [← hcr.1, hlen]
  exact ⟨c, _, _, _, x, hk, .inl hr, hv, hc, H.alloc e es n n cells cur (by simpa using hcl) (Nat.le_refl _) hn hes hlen hok (by rw [List.take_of_length_le (by omega)]; exact hcr), Ext.grow _ _, Heap.le_append _ _⟩

theorem csz_new (b : Blk) : csz (h ++ [b]) h.length = some b.cells.length := by simp [csz]
theorem sz_new (e : TypeId) (es : Nat) (cells : List AV) : sz (h ++ [⟨.row e es, cells⟩]) h.length = some cells.length := by simp [sz, Blk.sz]

theorem vr_ptr_new (e : TypeId) (es : Nat) (cells : List AV) (off n : Nat) :
    VR (Mu.put μ h.length ⟨some (w.heap.size, 0), n⟩) (h ++ [⟨.row e es, cells⟩]) (.ptr h.length cells.length off) (.pointer (some ⟨w.heap.size, off, none⟩)) :=
  .ptr rfl fun _ => ⟨w.heap.size, 0, by simp [Mu.put], by simp⟩

theorem vr_own_new (e : TypeId) (es : Nat) (cells : List AV) (n : Nat) :
    VR (Mu.put μ h.length ⟨some (w.heap.size, 0), n⟩) (h ++ [⟨.row e es, cells⟩]) (.own h.length es n) (.slice (some ⟨w.heap.size, 0, none⟩) n n) :=
  .own rfl fun _ => by simp [Mu.put, Loc.at]

end
end Go.Ab
