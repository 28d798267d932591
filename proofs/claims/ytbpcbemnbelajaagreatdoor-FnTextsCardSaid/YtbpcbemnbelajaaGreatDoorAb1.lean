/- The abstract heap: values, rows, the relation to the model's world, and what keeps it. Plain library text, no statement. -/
import Derived.Test.YtbpcbemnbelajaaGreatDoorAb0
import Derived.Orders
import Derived.Below
import Derived.Laws.AppendOwn
import Derived.Laws.MakeOwn
import Derived.Laws.Cells
import Derived.Laws.Rows
namespace Go.Ab
open Go Go.RowKit

/-- A value as the abstract machine sees it: a plain value; a reference to a row of the abstract heap (with the row's size when it was made); a struct's cells. -/
inductive AV where
  | dead
  | raw (v : Value)
  | ptr (id st off : Nat)
  | own (id es len : Nat)
  | sub (id st es lo len : Nat)
  | agg (cs : List AV)
  | tup (cs : List AV)
  | fn (f : Fn) (cs : List AV)
  deriving Inhabited

/-- Where a row lies in the world: block and offset; and the capacity of the slice over the whole of it. -/
structure Loc where
  base : Option (Nat × Nat)
  cap : Nat

def Loc.at (l : Loc) (k : Nat) : Option Addr := l.base.map fun p => ⟨p.1, p.2 + k, none⟩

inductive Kind where
  | gone
  | ro
  | row (e : TypeId) (es : Nat)

structure Blk where
  kind : Kind
  cells : List AV

abbrev Heap := List Blk
abbrev Mu := Nat → Loc

def Blk.sz (b : Blk) : Option Nat := match b.kind with | .gone => none | _ => some b.cells.length
def sz (h : Heap) (id : Nat) : Option Nat := (h[id]?).bind Blk.sz

def csz (h : Heap) (id : Nat) : Option Nat := (h[id]?).map (·.cells.length)
/-- the reference is to a row, and the row has not been larger -/
def refOk (h : Heap) (id st : Nat) : Bool := match csz h id with | some n => decide (st ≤ n) | none => false

mutual
/-- every reference is to a row of the heap -/
def AV.ok (h : Heap) : AV → Bool
  | .dead | .raw _ => true
  | .ptr id st _ => refOk h id st
  | .own id es len => refOk h id (len * es)
  | .sub id st _ _ _ => refOk h id st
  | .agg cs => okAll h cs
  | .tup cs => okAll h cs
  | .fn _ cs => okAll h cs
def okAll (h : Heap) : List AV → Bool
  | [] => true
  | c :: cs => c.ok h && okAll h cs
end

theorem okAll_iff {h : Heap} {cs : List AV} : okAll h cs = true ↔ ∀ c ∈ cs, c.ok h = true := by
  induction cs with
  | nil => simp [okAll]
  | cons c cs ih => simp [okAll, ih]

/-- no row has gone, none has shrunk -/
def Heap.le (h h' : Heap) : Prop := ∀ id n, csz h id = some n → ∃ m, csz h' id = some m ∧ n ≤ m

theorem Heap.le_refl (h : Heap) : h.le h := fun _ n hn => ⟨n, hn, Nat.le_refl _⟩
theorem Heap.le_trans {a b c : Heap} (h : a.le b) (k : b.le c) : a.le c := fun id n hn =>
  let ⟨m, hm, h1⟩ := h id n hn
  let ⟨l, hl, h2⟩ := k id m hm
  ⟨l, hl, Nat.le_trans h1 h2⟩

theorem refOk_spec {h : Heap} {id st : Nat} (hr : refOk h id st = true) : ∃ n, csz h id = some n ∧ st ≤ n := by
  unfold refOk at hr
  split at hr
  · rename_i n hn; exact ⟨n, hn, by simpa using hr⟩
  · cases hr

theorem refOk_mono {h h' : Heap} (hl : h.le h') {id st : Nat} (hr : refOk h id st = true) : refOk h' id st = true := by
  obtain ⟨n, hn, h1⟩ := refOk_spec hr
  obtain ⟨m, hm, h2⟩ := hl id n hn
  simp [refOk, hm]; omega

mutual
theorem AV.ok_mono {h h' : Heap} (hl : h.le h') : (c : AV) → c.ok h = true → c.ok h' = true
  | .dead, _ | .raw _, _ => rfl
  | .ptr _ _ _, hc => by simp only [AV.ok] at *; exact refOk_mono hl hc
  | .own _ _ _, hc => by simp only [AV.ok] at *; exact refOk_mono hl hc
  | .sub _ _ _ _ _, hc => by simp only [AV.ok] at *; exact refOk_mono hl hc
  | .agg cs, hc => by simp only [AV.ok] at *; exact okAll_mono hl cs hc
  | .tup cs, hc => by simp only [AV.ok] at *; exact okAll_mono hl cs hc
  | .fn _ cs, hc => by simp only [AV.ok] at *; exact okAll_mono hl cs hc
theorem okAll_mono {h h' : Heap} (hl : h.le h') : (cs : List AV) → okAll h cs = true → okAll h' cs = true
  | [], _ => rfl
  | c :: cs, hc => by
    simp only [okAll, Bool.and_eq_true] at *
    exact ⟨AV.ok_mono hl c hc.1, okAll_mono hl cs hc.2⟩
end

theorem Heap.le_append (h ext : Heap) : h.le (h ++ ext) := by
  intro id n hn
  refine ⟨n, ?_, Nat.le_refl _⟩
  unfold csz at *
  cases hb : h[id]? with
  | none => simp [hb] at hn
  | some b =>
    have hlt : id < h.length := (List.getElem?_eq_some_iff.1 hb).1
    rw [List.getElem?_append_left hlt, hb]
    simpa [hb] using hn

/-- A value of the model as the abstract one says, in a heap. A reference whose row has another size now says nothing. -/
inductive VR (μ : Mu) (h : Heap) : AV → Value → Prop
  | dead (x) : VR μ h .dead x
  | raw (v) : VR μ h (.raw v) v
  | ptr {id st off x} : x.oneCell' = true → (sz h id = some st → ∃ b o, (μ id).base = some (b, o) ∧ x = .pointer (some ⟨b, o + off, none⟩)) → VR μ h (.ptr id st off) x
  | own {id es len x} : x.oneCell' = true → (sz h id = some (len * es) → x = .slice ((μ id).at 0) len (μ id).cap) → VR μ h (.own id es len) x
  | sub {id st es lo len x} : x.oneCell' = true → (sz h id = some st → ∃ a c, x = .slice a len c ∧ (len = 0 ∨ (∃ b o, (μ id).base = some (b, o) ∧ a = some ⟨b, o + lo * es, none⟩))) → VR μ h (.sub id st es lo len) x
  | agg {cs : List AV} {xs : Array Value} : cs.length = xs.size → (∀ (i : Nat) c x, cs[i]? = some c → xs[i]? = some x → VR μ h c x) → VR μ h (.agg cs) (.agg xs)
  | tup {cs : List AV} {xs : Array Value} : cs.length = xs.size → (∀ (i : Nat) c x, cs[i]? = some c → xs[i]? = some x → VR μ h c x) → VR μ h (.tup cs) (.tuple xs)
  | fn {f : Fn} {cs : List AV} {xs : Array Value} : cs.length = xs.size → (∀ (i : Nat) c x, cs[i]? = some c → xs[i]? = some x → VR μ h c x) → VR μ h (.fn f cs) (.func f #[] xs)

/-- a list of values -/
def VRs (μ : Mu) (h : Heap) (cs : List AV) (xs : List Value) : Prop :=
  cs.length = xs.length ∧ ∀ (i : Nat) c x, cs[i]? = some c → xs[i]? = some x → VR μ h c x

/-- what lies in one cell -/
def CR (μ : Mu) (h : Heap) (c : AV) (x : Value) : Prop := VR μ h c x ∧ x.oneCell' = true
def CRs (μ : Mu) (h : Heap) (cs : List AV) (xs : List Value) : Prop :=
  cs.length = xs.length ∧ ∀ (i : Nat) c x, cs[i]? = some c → xs[i]? = some x → CR μ h c x

/-- Of what lay in w0 nothing has turned; and w0 held what is asked of the package's variables. -/
structure BelowG (w0 w : World) : Prop extends Below w0.heap.size w0 w where
  glob : Glob w0
theorem BelowG.trans {w0 a b : World} (h : BelowG w0 a) (k : Below w0.heap.size a b) : BelowG w0 b := ⟨h.toBelow.trans k, h.glob⟩
theorem BelowG.setCell {w0 w : World} (h : BelowG w0 w) {p : Addr} (hp : w0.heap.size ≤ p.block) (u : Value) : BelowG w0 (w.setCell p u) := ⟨h.toBelow.setCell hp u, h.glob⟩
theorem BelowG.grown {w0 w w' : World} {row : Option Nat} (h : BelowG w0 w) (hg : w.grownBy w' row) (hB : w0.heap.size ≤ w.heap.size) (hr : ∀ k, row = some k → w0.heap.size ≤ k) : BelowG w0 w' := ⟨h.toBelow.grown hg hB hr, h.glob⟩

/-- The world holds what the abstract heap says; what lay in w0 is as it was. -/
structure HR (w0 : World) (μ : Mu) (h : Heap) (w : World) : Prop where
  below : BelowG w0 w
  closed : ∀ (id : Nat) (b : Blk), h[id]? = some b → okAll h b.cells = true
  row : ∀ (id : Nat) e es cells, h[id]? = some ⟨.row e es, cells⟩ → ∃ n xs, w.ownsRow w0.heap.size e es (.slice ((μ id).at 0) n (μ id).cap) n xs ∧ CRs μ h cells xs
  ro : ∀ (id : Nat) cells, h[id]? = some ⟨.ro, cells⟩ → ∀ (j : Nat) c, cells[j]? = some c → ∃ b o x, (μ id).base = some (b, o) ∧ b < w0.heap.size ∧ w.cell? ⟨b, o + j, none⟩ = some x ∧ CR μ h c x
  apart : ∀ (i j : Nat) e es cs e' es' cs', i ≠ j → h[i]? = some ⟨.row e es, cs⟩ → h[j]? = some ⟨.row e' es', cs'⟩ → ∀ b o b' o', (μ i).base = some (b, o) → (μ j).base = some (b', o') → b ≠ b'

/-- What read so reads so still. -/
def Ext (μ : Mu) (h : Heap) (μ' : Mu) (h' : Heap) : Prop := ∀ c x, c.ok h = true → VR μ h c x → VR μ' h' c x

theorem Ext.refl (μ : Mu) (h : Heap) : Ext μ h μ h := fun _ _ _ hv => hv
theorem Ext.trans {μ h μ' h' μ'' h''} (a : Ext μ h μ' h') (hl : h.le h') (b : Ext μ' h' μ'' h'') : Ext μ h μ'' h'' :=
  fun c x hc hv => b c x (AV.ok_mono hl c hc) (a c x hc hv)

theorem ok_of_mem {h : Heap} {cs : List AV} {i : Nat} {c : AV} (hc : okAll h cs = true) (hi : cs[i]? = some c) : c.ok h = true :=
  okAll_iff.1 hc c (List.mem_of_getElem? hi)

/-- Where old rows keep their size and their place, what read so reads so still. -/
theorem Ext.of_agree {μ h μ' h'} (ha : ∀ id n, csz h id = some n → ∀ st, st ≤ n → sz h' id = some st → sz h id = some st ∧ μ' id = μ id) : Ext μ h μ' h' := by
  intro c x hc hv
  induction hv with
  | dead => exact .dead _
  | raw => exact .raw _
  | ptr h1c hg =>
    refine .ptr h1c fun hs => ?_
    obtain ⟨n, hn, hst⟩ := refOk_spec (by simpa only [AV.ok] using hc)
    obtain ⟨h1, h2⟩ := ha _ n hn _ hst hs
    rw [h2]; exact hg h1
  | own h1c hg =>
    refine .own h1c fun hs => ?_
    obtain ⟨n, hn, hst⟩ := refOk_spec (by simpa only [AV.ok] using hc)
    obtain ⟨h1, h2⟩ := ha _ n hn _ hst hs
    rw [h2]; exact hg h1
  | sub h1c hg =>
    refine .sub h1c fun hs => ?_
    obtain ⟨n, hn, hst⟩ := refOk_spec (by simpa only [AV.ok] using hc)
    obtain ⟨h1, h2⟩ := ha _ n hn _ hst hs
    rw [h2]; exact hg h1
  | agg hl _ ih => exact .agg hl fun i c x hi hx => ih i c x hi hx (ok_of_mem (by simpa only [AV.ok] using hc) hi)
  | tup hl _ ih => exact .tup hl fun i c x hi hx => ih i c x hi hx (ok_of_mem (by simpa only [AV.ok] using hc) hi)
  | fn hl _ ih => exact .fn hl fun i c x hi hx => ih i c x hi hx (ok_of_mem (by simpa only [AV.ok] using hc) hi)

theorem Ext.crs {μ h μ' h'} (he : Ext μ h μ' h') {cs xs} (hc : okAll h cs = true) (hr : CRs μ h cs xs) : CRs μ' h' cs xs :=
  ⟨hr.1, fun i c x hi hx => ⟨he c x (ok_of_mem hc hi) (hr.2 i c x hi hx).1, (hr.2 i c x hi hx).2⟩⟩

theorem Ext.vrs {μ h μ' h'} (he : Ext μ h μ' h') {cs xs} (hc : okAll h cs = true) (hr : VRs μ h cs xs) : VRs μ' h' cs xs :=
  ⟨hr.1, fun i c x hi hx => he c x (ok_of_mem hc hi) (hr.2 i c x hi hx)⟩

theorem sz_append_lt {h ext : Heap} {id : Nat} (hid : id < h.length) : sz (h ++ ext) id = sz h id := by
  simp [sz, List.getElem?_append_left hid]

theorem csz_lt {h : Heap} {id n : Nat} (hn : csz h id = some n) : id < h.length := by
  rcases Nat.lt_or_ge id h.length with h' | h'
  · exact h'
  · simp [csz, List.getElem?_eq_none h'] at hn

/-- the place of a new row -/
def Mu.put (μ : Mu) (k : Nat) (l : Loc) : Mu := fun i => if i = k then l else μ i

theorem Ext.grow {μ h} (b : Blk) (l : Loc) : Ext μ h (Mu.put μ h.length l) (h ++ [b]) :=
  Ext.of_agree fun id n hn st _ hs => by
    have hid : id < h.length := csz_lt hn
    rw [sz_append_lt hid] at hs
    exact ⟨hs, by simp [Mu.put, Nat.ne_of_lt hid]⟩

/-! ### the world turns and the heap stays -/

/-- Blocks that the heap does not name may come; the old ones are as they were. -/
theorem HR.world {w0 μ h w w'} (H : HR w0 μ h w) (hb : Below w.heap.size w w') : HR w0 μ h w' := by
  have hs := H.below.size
  refine ⟨H.below.trans (hb.mono hs), H.closed, fun id e es cells hi => ?_, fun id cells hi j c hj => ?_, H.apart⟩
  · obtain ⟨n, xs, ho, hc⟩ := H.row id e es cells hi
    exact ⟨n, xs, ho.kept (row := none) ⟨hb.os, hb.tape, hb.output, hb.size, fun k hk _ => hb.block k hk⟩ (by cases Value.ownBlock _ <;> simp), hc⟩
  · obtain ⟨b, o, x, h1, h2, h3, h4⟩ := H.ro id cells hi j c hj
    refine ⟨b, o, x, h1, h2, ?_, h4⟩
    rw [hb.cell (p := ⟨b, o + j, none⟩) (Nat.lt_of_lt_of_le h2 hs)]; exact h3

theorem HR.drew {w0 μ h w} (H : HR w0 μ h w) : HR w0 μ h w.drew := H.world (Below.refl _ _).drew

theorem lt_len {α : Type} {l : List α} {i : Nat} {a : α} (h : l[i]? = some a) : i < l.length := by
  rcases Nat.lt_or_ge i l.length with h' | h'
  · exact h'
  · simp [List.getElem?_eq_none h'] at h

/-- A new row, in a new block. -/
theorem HR.alloc {w0 μ h w} (H : HR w0 μ h w) (e : TypeId) (es n cap : Nat) (cells : List AV) (cur : Array Value) (hcur : cur.size = cap * es) (hn : n ≤ cap) (hcap : cap ≤ maxLen) (hes : 0 < es)
    (hlen : cells.length = n * es) (hlt : okAll h cells = true) (hcr : CRs μ h cells (cur.toList.take (n * es))) :
    HR w0 (Mu.put μ h.length ⟨some (w.heap.size, 0), cap⟩) (h ++ [⟨.row e es, cells⟩]) (w.alloc (.cells cur e)) := by
  have hE := Ext.grow (μ := μ) (h := h) ⟨.row e es, cells⟩ ⟨some (w.heap.size, 0), cap⟩
  have hs := H.below.size
  have H' := H.world (w' := w.alloc (.cells cur e)) ((Below.refl _ _).alloc (Nat.le_refl _) _)
  have hold : ∀ {id : Nat} {b : Blk}, (h ++ [(⟨.row e es, cells⟩ : Blk)])[id]? = some b → (id < h.length ∧ h[id]? = some b) ∨ (id = h.length ∧ b = ⟨.row e es, cells⟩) := by
    intro id b hb
    rcases Nat.lt_trichotomy id h.length with hlt | rfl | hgt
    · rw [List.getElem?_append_left hlt] at hb; exact .inl ⟨hlt, hb⟩
    · simp at hb; exact .inr ⟨rfl, hb.symm⟩
    · rw [List.getElem?_eq_none (by simp; omega)] at hb; cases hb
  refine ⟨H'.below, fun id b hb => ?_, fun id e' es' cells' hb => ?_, fun id cells' hb j c hj => ?_, ?_⟩
  · rcases hold hb with ⟨_, hb⟩ | ⟨rfl, rfl⟩
    · exact okAll_mono (Heap.le_append _ _) _ (H.closed id b hb)
    · exact okAll_mono (Heap.le_append _ _) _ hlt
  · rcases hold hb with ⟨hid, hb⟩ | ⟨rfl, he⟩
    · obtain ⟨m, xs, ho, hc⟩ := H'.row id e' es' cells' hb
      refine ⟨m, xs, ?_, hE.crs (H.closed id _ hb) hc⟩
      have : Mu.put μ h.length ⟨some (w.heap.size, 0), cap⟩ id = μ id := by simp [Mu.put, Nat.ne_of_lt hid]
      rw [this]; exact ho
    · obtain ⟨⟨rfl, rfl⟩, rfl⟩ : (e' = e ∧ es' = es) ∧ cells' = cells := by
        injection he with h1 h2; injection h1 with h3 h4; exact ⟨⟨h3, h4⟩, h2⟩
      refine ⟨n, _, ⟨?_, .inr ⟨w.heap.size, cap, cur, ?_, hs, Go.heap_alloc_new w _, hn, hcap, hcur, rfl⟩⟩, hE.crs hlt hcr⟩
      · exact hcr.1.symm.trans hlen
      · simp [Mu.put, Loc.at]
  · rcases hold hb with ⟨hid, hb⟩ | ⟨rfl, he⟩
    · obtain ⟨b, o, x, h1, h2, h3, h4⟩ := H'.ro id cells' hb j c hj
      refine ⟨b, o, x, ?_, h2, h3, hE c x (ok_of_mem (H.closed id _ hb) hj) h4.1, h4.2⟩
      simp [Mu.put, Nat.ne_of_lt hid, h1]
    · cases he
  · intro i j e1 es1 cs1 e2 es2 cs2 hij hi hj b o b' o' hb hb'
    have own_lt : ∀ {i : Nat} {e1 es1 cs1 b o}, h[i]? = some ⟨.row e1 es1, cs1⟩ → (μ i).base = some (b, o) → b < w.heap.size := by
      intro i e1 es1 cs1 b o hi hb
      obtain ⟨m, xs, ho, _⟩ := H.row i e1 es1 cs1 hi
      exact (ho.lt b (by simp [Loc.at, hb, Value.ownBlock])).2
    rcases hold hi with ⟨hi1, hi⟩ | ⟨rfl, hi⟩ <;> rcases hold hj with ⟨hj1, hj⟩ | ⟨rfl, hj⟩
    · simp [Mu.put, Nat.ne_of_lt hi1] at hb
      simp [Mu.put, Nat.ne_of_lt hj1] at hb'
      exact H.apart i j e1 es1 cs1 e2 es2 cs2 hij hi hj b o b' o' hb hb'
    · simp [Mu.put, Nat.ne_of_lt hi1] at hb
      simp [Mu.put] at hb'
      have := own_lt hi hb
      omega
    · simp [Mu.put] at hb
      simp [Mu.put, Nat.ne_of_lt hj1] at hb'
      have := own_lt hj hb'
      omega
    · exact absurd rfl hij

end Go.Ab
