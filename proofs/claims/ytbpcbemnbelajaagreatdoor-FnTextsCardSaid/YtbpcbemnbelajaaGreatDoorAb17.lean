/- Rows at the heap's end, rows of plain values, and results that keep some of what the call has made. Plain library text, no statement. -/
import Derived.Test.YtbpcbemnbelajaaGreatDoorAb16
namespace Go.Ab
open Go Go.RowKit

section
variable {h l : Heap} {b : Blk} {id st k : Nat} {cells : List AV}

theorem app_assoc (h l m : Heap) : (h ++ l) ++ m = h ++ (l ++ m) := List.append_assoc h l m
theorem len_app (h l : Heap) : (h ++ l).length = h.length + l.length := List.length_append
theorem get_new : (h ++ l)[h.length + k]? = l[k]? := by
  rw [List.getElem?_append_right (by omega)]; congr 1; omega
theorem get_new0 : (h ++ l)[h.length]? = l[0]? := get_new (k := 0)
theorem sz_newk : sz (h ++ l) (h.length + k) = sz l k := by unfold sz; rw [get_new]
theorem sz_new0 : sz (h ++ l) h.length = sz l 0 := sz_newk (k := 0)
theorem rd_newk : rd (h ++ l) (h.length + k) st = rd l k st := by unfold rd; rw [get_new]
theorem rd_new0 : rd (h ++ l) h.length st = rd l 0 st := rd_newk (k := 0)
theorem wr_newk : wr (h ++ l) (h.length + k) st = wr l k st := by unfold wr; rw [get_new]
theorem wr_new0 : wr (h ++ l) h.length st = wr l 0 st := wr_newk (k := 0)
theorem set_newk : List.set (h ++ l) (h.length + k) b = h ++ List.set l k b := by
  rw [List.set_append_right _ _ (by omega)]; congr 2; omega
theorem set_new0 : List.set (h ++ l) h.length b = h ++ List.set l 0 b := set_newk (k := 0)
theorem sz_cons : sz (b :: l) (k + 1) = sz l k := rfl
theorem sz_row0 {e es} : sz (⟨.row e es, cells⟩ :: l) 0 = some cells.length := rfl
theorem sz_ro0 : sz (⟨.ro, cells⟩ :: l) 0 = some cells.length := rfl
theorem rd_cons : rd (b :: l) (k + 1) st = rd l k st := rfl
theorem rd_row {e es} : rd (⟨.row e es, cells⟩ :: l) 0 st = if cells.length = st then some cells else none := rfl
theorem rd_ro0 : rd (⟨.ro, cells⟩ :: l) 0 st = if cells.length = st then some cells else none := rfl
theorem wr_cons : wr (b :: l) (k + 1) st = wr l k st := rfl
theorem wr_row {e es} : wr (⟨.row e es, cells⟩ :: l) 0 st = if cells.length = st then some (e, es, cells) else none := rfl
theorem set_cons_zero {c : Blk} : List.set (b :: l) 0 c = c :: l := rfl
theorem set_cons_succ {c : Blk} : List.set (b :: l) (k + 1) c = b :: List.set l k c := rfl

theorem rd_old (hr : rd h id st = some cells) (l : Heap) : rd (h ++ l) id st = some cells := rd_sub (Heap.sub_append _ _) hr
theorem sz_old (hr : rd h id st = some cells) (l : Heap) : sz (h ++ l) id = some st := sz_sub (Heap.sub_append _ _) (rd_spec hr).2.2
theorem sz_of (hr : rd h id st = some cells) : sz h id = some st := (rd_spec hr).2.2
theorem wr_rd {e es} (hw : wr h id st = some (e, es, cells)) : rd h id st = some cells := by
  obtain ⟨hl, hb, _⟩ := wr_spec hw
  simp [rd, hb, hl]
theorem wr_old {e es} (hw : wr h id st = some (e, es, cells)) (l : Heap) : wr (h ++ l) id st = some (e, es, cells) := by
  obtain ⟨hl, hb, _⟩ := wr_spec hw
  simp [wr, Heap.sub_append _ _ _ _ hb, hl]
end

/-! ### rows of integers, of strings, of bools -/

def rowI (xs : List Int) : List AV := xs.map fun n => .raw (.int .i64 n)
def rowB (xs : List Bool) : List AV := xs.map fun b => .raw (.bool b)
def rowS (xs : List ByteArray) : List AV := xs.map fun b => .raw (.string b)
def rowU (xs : List UInt8) : List AV := xs.map fun b => .raw (.int .u8 b.toNat)

theorem rowI_len (xs : List Int) : (rowI xs).length = xs.length := by simp [rowI]
theorem rowB_len (xs : List Bool) : (rowB xs).length = xs.length := by simp [rowB]
theorem rowS_len (xs : List ByteArray) : (rowS xs).length = xs.length := by simp [rowS]
theorem rowU_len (xs : List UInt8) : (rowU xs).length = xs.length := by simp [rowU]
theorem rowI_get {xs : List Int} {k : Nat} (hk : k < xs.length) : (rowI xs)[k]? = some (.raw (.int .i64 (xs.getD k 0))) := by simp [rowI, hk, List.getD]
theorem rowB_get {xs : List Bool} {k : Nat} (hk : k < xs.length) : (rowB xs)[k]? = some (.raw (.bool (xs.getD k false))) := by simp [rowB, hk, List.getD]
theorem rowS_get {xs : List ByteArray} {k : Nat} (hk : k < xs.length) : (rowS xs)[k]? = some (.raw (.string (xs.getD k ByteArray.empty))) := by simp [rowS, hk, List.getD]
theorem rowU_get {xs : List UInt8} {k : Nat} (hk : k < xs.length) : (rowU xs)[k]? = some (.raw (.int .u8 (xs.getD k 0).toNat)) := by simp [rowU, hk, List.getD]
theorem rowI_app (xs ys : List Int) : rowI xs ++ rowI ys = rowI (xs ++ ys) := by simp [rowI]
theorem rowI_one (n : Int) : [(.raw (.int .i64 n) : AV)] = rowI [n] := rfl
theorem rowI_snoc (xs : List Int) (n : Int) : rowI xs ++ [.raw (.int .i64 n)] = rowI (xs ++ [n]) := by simp [rowI]
theorem rowS_snoc (xs : List ByteArray) (n : ByteArray) : rowS xs ++ [.raw (.string n)] = rowS (xs ++ [n]) := by simp [rowS]
theorem rowU_snoc (xs : List UInt8) (n : UInt8) : rowU xs ++ [.raw (.int .u8 n.toNat)] = rowU (xs ++ [n]) := by simp [rowU]
theorem rowI_nil : rowI [] = [] := rfl
theorem rowS_nil : rowS [] = [] := rfl
theorem rowI_ok (h : Heap) (xs : List Int) : okAll h (rowI xs) = true := by
  rw [okAll_iff]; intro c hc; simp [rowI] at hc; obtain ⟨n, _, rfl⟩ := hc; rfl
theorem rowB_ok (h : Heap) (xs : List Bool) : okAll h (rowB xs) = true := by
  rw [okAll_iff]; intro c hc; simp only [rowB, List.mem_map] at hc; obtain ⟨n, _, rfl⟩ := hc; rfl
theorem rowS_ok (h : Heap) (xs : List ByteArray) : okAll h (rowS xs) = true := by
  rw [okAll_iff]; intro c hc; simp [rowS] at hc; obtain ⟨n, _, rfl⟩ := hc; rfl
theorem rowU_ok (h : Heap) (xs : List UInt8) : okAll h (rowU xs) = true := by
  rw [okAll_iff]; intro c hc; simp [rowU] at hc; obtain ⟨n, _, rfl⟩ := hc; rfl
theorem set_splice {α : Type} (l : List α) (k : Nat) (c : α) (hk : k < l.length) : l.take k ++ [c] ++ l.drop (k + 1) = l.set k c := by
  rw [List.set_eq_take_append_cons_drop, if_pos hk]; simp
theorem rowI_set (xs : List Int) (k : Nat) (v : Int) (hk : k < xs.length) : (rowI xs).take k ++ [.raw (.int .i64 v)] ++ (rowI xs).drop (k + 1) = rowI (xs.set k v) := by
  rw [set_splice _ _ _ (by simpa [rowI] using hk)]; simp [rowI, List.map_set]
theorem rowB_set (xs : List Bool) (k : Nat) (v : Bool) (hk : k < xs.length) : (rowB xs).take k ++ [.raw (.bool v)] ++ (rowB xs).drop (k + 1) = rowB (xs.set k v) := by
  rw [set_splice _ _ _ (by simpa [rowB] using hk)]; simp [rowB, List.map_set]
theorem rowS_set (xs : List ByteArray) (k : Nat) (v : ByteArray) (hk : k < xs.length) : (rowS xs).take k ++ [.raw (.string v)] ++ (rowS xs).drop (k + 1) = rowS (xs.set k v) := by
  rw [set_splice _ _ _ (by simpa [rowS] using hk)]; simp [rowS, List.map_set]
theorem rowI_zeros (n : Nat) : (List.replicate n [(.raw (.int .i64 0) : AV)]).flatten = rowI (List.replicate n 0) := by
  induction n with
  | zero => rfl
  | succ n ih => rw [List.replicate_succ, List.flatten_cons, ih]; rfl
theorem rowB_zeros (n : Nat) : (List.replicate n [(.raw (.bool false) : AV)]).flatten = rowB (List.replicate n false) := by
  induction n with
  | zero => rfl
  | succ n ih => rw [List.replicate_succ, List.flatten_cons, ih]; rfl
theorem rowS_zeros (n : Nat) : (List.replicate n [(.raw (.string ⟨#[]⟩) : AV)]).flatten = rowS (List.replicate n ⟨#[]⟩) := by
  induction n with
  | zero => rfl
  | succ n ih => rw [List.replicate_succ, List.flatten_cons, ih]; rfl

theorem closedH_append {h : Heap} (hc : closedH h) {l : Heap} (hl : ∀ b ∈ l, okAll (h ++ l) b.cells = true) : closedH (h ++ l) := by
  intro id b hb
  rcases Nat.lt_or_ge id h.length with h' | h'
  · rw [List.getElem?_append_left h'] at hb
    exact okAll_mono (Heap.le_append _ _) _ (hc id b hb)
  · rw [List.getElem?_append_right h'] at hb
    exact hl b (List.mem_of_getElem? hb)

theorem closedH_front {h l : Heap} (hc : closedH (h ++ l)) (hh : closedH h) {l1 : Heap} (hl : ∀ b ∈ l1, okAll (h ++ l1) b.cells = true) : closedH (h ++ l1) := closedH_append hh hl

theorem Heap.le_app (h l : Heap) : h.le (h ++ l) := Heap.le_append h l

theorem wrap_i64 {n : Int} (h1 : -9223372036854775808 ≤ n) (h2 : n ≤ 9223372036854775807) : IntKind.i64.wrap n = n := by
  rw [IntKind.wrap_i64]; omega

/-! ### results that keep rows: a new numbering -/

mutual
def AV.ren (ρ : Nat → Nat) : AV → AV
  | .dead => .dead
  | .raw v => .raw v
  | .ptr id st off => .ptr (ρ id) st off
  | .own id es len => .own (ρ id) es len
  | .sub id st es lo len => .sub (ρ id) st es lo len
  | .agg cs => .agg (renL ρ cs)
  | .tup cs => .tup (renL ρ cs)
  | .fn f cs => .fn f (renL ρ cs)
def renL (ρ : Nat → Nat) : List AV → List AV
  | [] => []
  | c :: cs => c.ren ρ :: renL ρ cs
end

theorem renL_map (ρ : Nat → Nat) (cs : List AV) : renL ρ cs = cs.map (AV.ren ρ) := by
  induction cs with
  | nil => rfl
  | cons c cs ih => simp [renL, ih]

mutual
theorem ren_same {ρ : Nat → Nat} {h : Heap} (hρ : ∀ i, i < h.length → ρ i = i) : (c : AV) → c.ok h = true → c.ren ρ = c
  | .dead, _ | .raw _, _ => rfl
  | .ptr id st off, hc => by
    obtain ⟨n, hn, _⟩ := refOk_spec (by simpa only [AV.ok] using hc)
    simp [AV.ren, hρ id (csz_lt hn)]
  | .own id es len, hc => by
    obtain ⟨n, hn, _⟩ := refOk_spec (by simpa only [AV.ok] using hc)
    simp [AV.ren, hρ id (csz_lt hn)]
  | .sub id st es lo len, hc => by
    obtain ⟨n, hn, _⟩ := refOk_spec (by simpa only [AV.ok] using hc)
    simp [AV.ren, hρ id (csz_lt hn)]
  | .agg cs, hc => by simp only [AV.ren, AV.ok] at *; rw [renL_same hρ cs hc]
  | .tup cs, hc => by simp only [AV.ren, AV.ok] at *; rw [renL_same hρ cs hc]
  | .fn f cs, hc => by simp only [AV.ren, AV.ok] at *; rw [renL_same hρ cs hc]
theorem renL_same {ρ : Nat → Nat} {h : Heap} (hρ : ∀ i, i < h.length → ρ i = i) : (cs : List AV) → okAll h cs = true → renL ρ cs = cs
  | [], _ => rfl
  | c :: cs, hc => by
    simp only [okAll, Bool.and_eq_true] at hc
    simp [renL, ren_same hρ c hc.1, renL_same hρ cs hc.2]
end

/-- h1 is what of h' is kept, in a new numbering. -/
structure Keeps (h h' h1 : Heap) (ρ : Nat → Nat) : Prop where
  old : ∀ i, i < h.length → ρ i = i
  inj : ∀ i j, i < h1.length → j < h1.length → ρ i = ρ j → i = j
  get : ∀ (i : Nat) b, h1[i]? = some b → h'[ρ i]? = some ⟨b.kind, renL ρ b.cells⟩

theorem VR.ren {μ : Mu} {h h' h1 : Heap} {ρ : Nat → Nat} (hk : Keeps h h' h1 ρ) {c : AV} {x : Value} (hc : c.ok h1 = true) (hv : VR μ h' (c.ren ρ) x) : VR (fun i => μ (ρ i)) h1 c x := by
  have hsz : ∀ {id st : Nat}, sz h1 id = some st → sz h' (ρ id) = some st := by
    intro id st hs
    obtain ⟨b, hb, hl, hz⟩ := sz_some hs
    have := hk.get id b hb
    unfold Blk.sz at hz
    simp only [sz, this, Option.bind_some, Blk.sz, renL_map, List.length_map]
    split at hz
    · cases hz
    · exact hz
  have key : ∀ (c' : AV) (x : Value), VR μ h' c' x → ∀ c : AV, c.ok h1 = true → c' = c.ren ρ → VR (fun i => μ (ρ i)) h1 c x := by
    intro c' x hv
    induction hv with
    | dead x => intro c hc he; cases c <;> simp [AV.ren] at he; exact .dead _
    | raw v => intro c hc he; cases c <;> simp [AV.ren] at he; subst he; exact .raw _
    | ptr h1c hg =>
      intro c hc he
      cases c <;> simp [AV.ren] at he
      obtain ⟨rfl, rfl, rfl⟩ := he
      exact .ptr h1c fun hs => hg (hsz hs)
    | own h1c hg =>
      intro c hc he
      cases c <;> simp [AV.ren] at he
      obtain ⟨rfl, rfl, rfl⟩ := he
      exact .own h1c fun hs => hg (hsz hs)
    | sub h1c hg =>
      intro c hc he
      cases c <;> simp [AV.ren] at he
      obtain ⟨rfl, rfl, rfl, rfl, rfl⟩ := he
      exact .sub h1c fun hs => hg (hsz hs)
    | agg hl _ ih =>
      intro c hc he
      cases c <;> simp [AV.ren] at he
      rename_i cs
      subst he
      refine .agg (by simpa [renL_map] using hl) fun i d y hd hy => ?_
      exact ih i (d.ren ρ) y (by simp [renL_map, hd]) hy d (ok_of_mem (by simpa only [AV.ok] using hc) hd) rfl
    | tup hl _ ih =>
      intro c hc he
      cases c <;> simp [AV.ren] at he
      rename_i cs
      subst he
      refine .tup (by simpa [renL_map] using hl) fun i d y hd hy => ?_
      exact ih i (d.ren ρ) y (by simp [renL_map, hd]) hy d (ok_of_mem (by simpa only [AV.ok] using hc) hd) rfl
    | fn hl _ ih =>
      intro c hc he
      cases c <;> simp [AV.ren] at he
      rename_i f cs
      obtain ⟨rfl, rfl⟩ := he
      refine .fn (by simpa [renL_map] using hl) fun i d y hd hy => ?_
      exact ih i (d.ren ρ) y (by simp [renL_map, hd]) hy d (ok_of_mem (by simpa only [AV.ok] using hc) hd) rfl
  exact key _ _ hv c hc rfl

theorem CRs.ren {μ : Mu} {h h' h1 : Heap} {ρ : Nat → Nat} (hk : Keeps h h' h1 ρ) {cs : List AV} {xs : List Value} (hc : okAll h1 cs = true) (hv : CRs μ h' (renL ρ cs) xs) : CRs (fun i => μ (ρ i)) h1 cs xs :=
  ⟨by simpa [renL_map] using hv.1, fun i c x hi hx => by
    obtain ⟨a, b⟩ := hv.2 i (c.ren ρ) x (by simp [renL_map, hi]) hx
    exact ⟨a.ren hk (ok_of_mem hc hi), b⟩⟩

theorem HR.ren {w0 w : World} {μ : Mu} {h h' h1 : Heap} {ρ : Nat → Nat} (hk : Keeps h h' h1 ρ) (hcl : closedH h1) (H : HR w0 μ h' w) : HR w0 (fun i => μ (ρ i)) h1 w := by
  refine ⟨H.below, hcl, fun id e es cells hb => ?_, fun id cells hb j c hj => ?_, fun i j e es cs e' es' cs' hij hi hj => ?_⟩
  · obtain ⟨m, xs, ho, hc⟩ := H.row (ρ id) e es _ (hk.get id _ hb)
    exact ⟨m, xs, ho, hc.ren hk (hcl id _ hb)⟩
  · obtain ⟨b, o, x, h1', h2, h3, h4⟩ := H.ro (ρ id) _ (hk.get id _ hb) j (c.ren ρ) (by simp [renL_map, hj])
    exact ⟨b, o, x, h1', h2, h3, h4.1.ren hk (ok_of_mem (hcl id _ hb) hj), h4.2⟩
  · exact H.apart (ρ i) (ρ j) e es _ e' es' _ (fun he => hij (hk.inj i j (lt_len hi) (lt_len hj) he)) (hk.get i _ hi) (hk.get j _ hj)

/-- Of what the call has made some rows are kept, in a new numbering. -/
theorem AC.keep {P : Program} {g : FuncId} {args : List AV} {h : Heap} {Q Q' : AV → Heap → Prop} (hc : AC P g args h Q)
    (hq : closedH h → ∀ c h', Q c h' → ∃ ρ h1 c1, Keeps h h' h1 ρ ∧ closedH h1 ∧ h.le h1 ∧ c1.ok h1 = true ∧ c = c1.ren ρ ∧ Q' c1 h1) : AC P g args h Q' := by
  intro w0 μ w xs H hv hk
  refine (hc w0 μ w xs H hv hk).mono fun x w' ⟨μ', c, h', q, hvx, hck, H', hE, hL⟩ => ?_
  obtain ⟨ρ, h1, c1, hkp, hcl, hl, hok, hce, q'⟩ := hq H.closed c h' q
  subst hce
  refine ⟨fun i => μ' (ρ i), c1, h1, q', hvx.ren hkp hok, hok, H'.ren hkp hcl, fun d y hd hy => ?_, hl⟩
  refine VR.ren hkp (AV.ok_mono hl d hd) ?_
  rw [ren_same hkp.old d hd]
  exact hE d y hd hy

def plc (h : Heap) (ps : List Nat) (i : Nat) : Nat := if i < h.length then i else h.length + ps.getD (i - h.length) 0

/-- Some rows are kept: the places where they stood behind the old heap. -/
theorem keeps_list {h junk bs : Heap} {ps : List Nat} (hcl : closedH h) (hnd : ps.Nodup) (hl : ps.length = bs.length)
    (hg : ∀ (j : Nat) b p, bs[j]? = some b → ps[j]? = some p → junk[p]? = some ⟨b.kind, renL (plc h ps) b.cells⟩) : Keeps h (h ++ junk) (h ++ bs) (plc h ps) := by
  have hold : ∀ i, i < h.length → plc h ps i = i := fun i hi => by simp [plc, hi]
  refine ⟨hold, fun i j hi hj he => ?_, fun i c hc => ?_⟩
  · simp at hi hj
    unfold plc at he
    by_cases h1 : i < h.length <;> by_cases h2 : j < h.length <;> simp only [h1, h2, if_true, if_false] at he
    · exact he
    · omega
    · omega
    · have hi' : i - h.length < ps.length := by omega
      have hj' : j - h.length < ps.length := by omega
      simp only [List.getD, List.getElem?_eq_getElem hi', List.getElem?_eq_getElem hj', Option.getD_some] at he
      have hpw := List.pairwise_iff_getElem.1 hnd
      rcases Nat.lt_trichotomy (i - h.length) (j - h.length) with hlt | heq | hgt
      · exact absurd (by omega) (hpw _ _ hi' hj' hlt)
      · omega
      · exact absurd (by omega) (hpw _ _ hj' hi' hgt)
  · rcases Nat.lt_or_ge i h.length with h' | h'
    · rw [List.getElem?_append_left h'] at hc
      rw [hold i h', Heap.sub_append _ _ _ _ hc, renL_same hold _ (hcl i c hc)]
    · rw [List.getElem?_append_right h'] at hc
      have hi' : i - h.length < ps.length := by have := lt_len hc; omega
      have hp : plc h ps i = h.length + ps[i - h.length] := by
        unfold plc
        rw [if_neg (by omega)]
        simp [List.getD, List.getElem?_eq_getElem hi']
      rw [hp, get_new]
      exact hg _ c _ hc (List.getElem?_eq_getElem hi')

theorem ren_rowI (ρ : Nat → Nat) (xs : List Int) : renL ρ (rowI xs) = rowI xs := by simp [renL_map, rowI, AV.ren]
theorem ren_rowB (ρ : Nat → Nat) (xs : List Bool) : renL ρ (rowB xs) = rowB xs := by simp [renL_map, rowB, AV.ren]
theorem ren_rowS (ρ : Nat → Nat) (xs : List ByteArray) : renL ρ (rowS xs) = rowS xs := by simp [renL_map, rowS, AV.ren]
theorem ren_rowU (ρ : Nat → Nat) (xs : List UInt8) : renL ρ (rowU xs) = rowU xs := by simp [renL_map, rowU, AV.ren]

end Go.Ab
