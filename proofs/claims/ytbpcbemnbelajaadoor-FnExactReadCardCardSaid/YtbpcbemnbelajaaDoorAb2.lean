/- Stores and appends, on the abstract heap. Plain library text, no statement. -/
import Derived.Test.YtbpcbemnbelajaaDoorAb1
namespace Go.Ab
open Go Go.RowKit

theorem sz_some {h : Heap} {id st : Nat} (hs : sz h id = some st) : ∃ b, h[id]? = some b ∧ b.cells.length = st ∧ b.sz = some st := by
  unfold sz at hs
  cases hb : h[id]? with
  | none => simp [hb] at hs
  | some b =>
    simp [hb] at hs
    refine ⟨b, rfl, ?_, hs⟩
    unfold Blk.sz at hs
    split at hs
    · cases hs
    · simpa using hs

theorem sz_row {h : Heap} {id : Nat} {e es cells} (hb : h[id]? = some ⟨.row e es, cells⟩) : sz h id = some cells.length := by simp [sz, hb, Blk.sz]
theorem sz_ro {h : Heap} {id : Nat} {cells} (hb : h[id]? = some ⟨.ro, cells⟩) : sz h id = some cells.length := by simp [sz, hb, Blk.sz]

theorem getElem?_set_cases {α : Type} {l : List α} {i j : Nat} {a b : α} (h : (l.set i a)[j]? = some b) : (j = i ∧ b = a) ∨ (j ≠ i ∧ l[j]? = some b) := by
  by_cases hij : i = j
  · subst hij
    rw [List.getElem?_set_self'] at h
    cases hl : l[i]? with
    | none => simp [hl] at h
    | some x => simp [hl] at h; exact .inl ⟨rfl, h.symm⟩
  · rw [List.getElem?_set_ne hij] at h
    exact .inr ⟨fun e => hij e.symm, h⟩

theorem Heap.le_set {h : Heap} {id : Nat} {k k' : Kind} {cells cells' : List AV} (hb : h[id]? = some ⟨k, cells⟩) (hl : cells.length ≤ cells'.length) : h.le (h.set id ⟨k', cells'⟩) := by
  intro i n hn
  unfold csz at *
  by_cases hii : id = i
  · subst hii
    rw [hb] at hn
    rw [List.getElem?_set_self (lt_len hb)]
    simp at hn
    exact ⟨_, rfl, by simpa [← hn] using hl⟩
  · rw [List.getElem?_set_ne hii]
    exact ⟨n, hn, Nat.le_refl _⟩

/-- One row's cells turn; their number stays. -/
theorem Ext.set {μ : Mu} {h : Heap} {id : Nat} {k : Kind} {cells cells' : List AV} (hb : h[id]? = some ⟨k, cells⟩) (hl : cells'.length = cells.length) : Ext μ h μ (h.set id ⟨k, cells'⟩) :=
  Ext.of_agree fun i n hn st _ hs => by
    have hi := csz_lt hn
    refine ⟨?_, rfl⟩
    unfold sz at *
    by_cases hii : id = i
    · subst hii
      rw [List.getElem?_set_self hi] at hs
      rw [hb]
      simp only [Option.bind_some, Blk.sz] at hs ⊢
      cases k <;> simp_all
    · rw [List.getElem?_set_ne hii] at hs; exact hs

theorem at_some {l : Loc} {k : Nat} {a : Addr} (h : l.at k = some a) : ∃ b o, l.base = some (b, o) ∧ a = ⟨b, o + k, none⟩ := by
  unfold Loc.at at h
  cases hb : l.base with
  | none => simp [hb] at h
  | some p => simp [hb] at h; exact ⟨p.1, p.2, rfl, h.symm⟩

/-- A row that holds a cell lies at the head of a block of its own. -/
theorem HR.row_at {w0 μ h w} (H : HR w0 μ h w) {id : Nat} {e es cells} (hb : h[id]? = some ⟨.row e es, cells⟩) (hpos : 0 < cells.length) :
    ∃ g n cap cur, (μ id) = ⟨some (g, 0), cap⟩ ∧ w0.heap.size ≤ g ∧ w.heap[g]? = some (.cells cur e (0, 0)) ∧ n ≤ cap ∧ cap ≤ maxLen ∧ cur.size = cap * es ∧ cells.length = n * es ∧ CRs μ h cells (cur.toList.take (n * es)) := by
  obtain ⟨n, xs, ⟨hx, ho⟩, hc⟩ := H.row id e es cells hb
  rcases ho with ⟨hv, hn⟩ | ⟨g, cap, cur, hv, hg, hh, hnc, hcm, hcs, ht⟩
  · subst hn
    have := hc.1
    simp at hx
    simp [hx] at this
    simp [this] at hpos
  · have hv1 : (μ id).at 0 = some ⟨g, 0, none⟩ ∧ (μ id).cap = cap := by injection hv with h1 h2 h3; exact ⟨h1, h3⟩
    obtain ⟨b, o, hbo, hab⟩ := at_some hv1.1
    have : b = g ∧ o = 0 := by injection hab with h1 h2 h3; exact ⟨h1.symm, by simpa using h2.symm⟩
    refine ⟨g, n, cap, cur, ?_, hg, hh, hnc, hcm, hcs, hc.1.trans hx, ht ▸ hc⟩
    rw [← hv1.2, ← this.1, ← this.2, ← hbo]

theorem setCell_heap (w : World) (g o : Nat) (v : Value) (cur : Array Value) (e : TypeId) (f : Nat × Nat) (hg : w.heap[g]? = some (.cells cur e f)) :
    (w.setCell ⟨g, o, none⟩ v).heap[g]? = some (.cells (cur.setIfInBounds o v) e f) := by
  simp [World.setCell, Array.getElem?_modify, hg]

/-- A store into one cell of a row. -/
theorem HR.set {w0 μ h w} (H : HR w0 μ h w) {id : Nat} {e es cells} (hb : h[id]? = some ⟨.row e es, cells⟩) {off : Nat} (hoff : off < cells.length) {c : AV} {x : Value} (hlt : c.ok h = true) (hcr : CR μ h c x) :
    ∃ b, (μ id).base = some (b, 0) ∧ (∃ y, w.cell? ⟨b, off, none⟩ = some y) ∧ w.frozen? ⟨b, off, none⟩ = false ∧
      HR w0 μ (h.set id ⟨.row e es, cells.set off c⟩) (w.setCell ⟨b, off, none⟩ x) := by
  obtain ⟨g, n, cap, cur, hmu, hg, hh, hnc, hcm, hcs, hlen, hcc⟩ := H.row_at hb (by omega)
  have hcur : off < cur.size := by
    rw [hcs]; exact Nat.lt_of_lt_of_le (hlen ▸ hoff) (Nat.mul_le_mul_right _ hnc)
  have hE : Ext μ h μ (h.set id ⟨.row e es, cells.set off c⟩) := Ext.set hb (by simp)
  have hid := lt_len hb
  have hLe := Heap.le_set hb (k' := .row e es) (cells' := cells.set off c) (by simp)
  have hbel := H.below.setCell (p := ⟨g, off, none⟩) hg x
  have hbase : (μ id).base = some (g, 0) := by rw [hmu]
  refine ⟨g, hbase, ⟨cur[off], by simp [World.cell?, hh, Array.getElem?_eq_getElem hcur]⟩, by simp [World.frozen?, hh], hbel, ?_, ?_, ?_, ?_⟩
  · intro i b hi
    refine okAll_mono hLe _ ?_
    rcases getElem?_set_cases hi with ⟨rfl, rfl⟩ | ⟨_, hi⟩
    · rw [okAll_iff]
      intro d hd
      rcases List.mem_or_eq_of_mem_set hd with hd | rfl
      · exact okAll_iff.1 (H.closed _ _ hb) d hd
      · exact hlt
    · exact H.closed i b hi
  · intro i e' es' cells' hi
    rcases getElem?_set_cases hi with ⟨rfl, he⟩ | ⟨hne, hi⟩
    · obtain ⟨⟨rfl, rfl⟩, rfl⟩ : (e' = e ∧ es' = es) ∧ cells' = cells.set off c := by
        injection he with h1 h2; injection h1 with h3 h4; exact ⟨⟨h3, h4⟩, h2⟩
      refine ⟨n, (cur.toList.take (n * es')).set off x, ⟨?_, .inr ⟨g, cap, cur.setIfInBounds off x, ?_, hg, setCell_heap w g off x cur e' _ hh, hnc, hcm, by simpa using hcs, ?_⟩⟩, ?_⟩
      · rw [List.length_set]; exact hcc.1.symm.trans hlen
      · rw [hmu]; simp [Loc.at]
      · simp [Array.toList_setIfInBounds, List.take_set]
      · have hcc' := hE.crs (H.closed _ _ hb) hcc
        refine ⟨by simp [hcc.1], fun j d y hd hy => ?_⟩
        rcases getElem?_set_cases hd with ⟨rfl, rfl⟩ | ⟨hj, hd⟩
        · rcases getElem?_set_cases hy with ⟨_, rfl⟩ | ⟨hj, _⟩
          · exact ⟨hE d y hlt hcr.1, hcr.2⟩
          · exact absurd rfl hj
        · rcases getElem?_set_cases hy with ⟨hj', _⟩ | ⟨_, hy⟩
          · exact absurd hj' hj
          · exact hcc'.2 j d y hd hy
    · obtain ⟨m, ys, ho, hc⟩ := H.row i e' es' cells' hi
      refine ⟨m, ys, ?_, hE.crs (H.closed i _ hi) hc⟩
      have hgb : w.grownBy (w.setCell ⟨g, off, none⟩ x) (some g) :=
        ⟨rfl, rfl, rfl, by simp, fun k _ hk => Below.heap_setCell _ _ _ _ (fun e => hk (by simp [e]))⟩
      refine ho.kept hgb ?_
      cases hmi : (μ i).base with
      | none => left; simp [Loc.at, hmi, Value.ownBlock]
      | some p =>
        right
        have := H.apart i id e' es' cells' e es cells hne hi hb p.1 p.2 g 0 (by simp [hmi]) hbase
        simpa [Loc.at, hmi, Value.ownBlock] using this
  · intro i cells' hi j d hd
    rcases getElem?_set_cases hi with ⟨rfl, he⟩ | ⟨hne, hi⟩
    · cases he
    · obtain ⟨b, o, y, h1, h2, h3, h4⟩ := H.ro i cells' hi j d hd
      refine ⟨b, o, y, h1, h2, ?_, hE d y (ok_of_mem (H.closed i _ hi) hd) h4.1, h4.2⟩
      rw [World.cell?_setCell_other]
      · exact h3
      · intro e; have := congrArg Addr.block e; simp at this; omega
  · intro i j e1 es1 cs1 e2 es2 cs2 hij hi hj
    have old : ∀ {i : Nat} {e1 es1 cs1}, (h.set id ⟨.row e es, cells.set off c⟩)[i]? = some ⟨.row e1 es1, cs1⟩ → ∃ e2 es2 cs2, h[i]? = some ⟨.row e2 es2, cs2⟩ := by
      intro i e1 es1 cs1 hi
      rcases getElem?_set_cases hi with ⟨rfl, _⟩ | ⟨_, hi⟩
      · exact ⟨_, _, _, hb⟩
      · exact ⟨_, _, _, hi⟩
    obtain ⟨_, _, _, hi'⟩ := old hi
    obtain ⟨_, _, _, hj'⟩ := old hj
    exact H.apart i j _ _ _ _ _ _ hij hi' hj'

section
variable {P : Program}

/-- append, whatever the source: where the result lies is known. -/
theorem run_append_abs (w : World) (base : Nat) (t ty e : TypeId) (i : TypeInfo) (z : Value) (ht : P.underlying t = some (.slice e)) (hi : P.info? e = some i) (hz : i.zero = some z)
    (hzs : z.cells.size = i.size) (v : Value) (n : Nat) (xs : List Value) (hown : w.ownsRow base e i.size v n xs)
    (src : Option Addr) (m c : Nat) (news : List Value) (hl : news.length = m * i.size)
    (hsrc : m = 0 ∨ ∃ ad, src = some ad ∧ ∀ (j : Nat) u, news[j]? = some u → w.cell? (ad.add j) = some u) (h1 : ∀ u ∈ news, u.oneCell' = true)
    (h63 : n + m ≤ maxLen) (hbytes : (n + m) * i.bytes ≤ 140737488355328) (hbase : base ≤ w.heap.size) :
    ∃ v' w', (Builtin.append_ #[t, t] ty #[v, .slice src m c]).run P w = .ok v' w' ∧ w'.ownsRow base e i.size v' (n + m) (xs ++ news) ∧ w.grownBy w' v.ownBlock ∧
      (v'.ownBlock = v.ownBlock ∨ ∀ k, v'.ownBlock = some k → w.heap.size ≤ k) ∧ (m = 0 → v' = v ∧ w' = w) := by
  by_cases hm : m = 0
  · subst hm
    have hn : news = [] := List.eq_nil_of_length_eq_zero (by simpa using hl)
    subst hn
    refine ⟨v, w, ?_, by simpa using hown, ⟨rfl, rfl, rfl, Nat.le_refl _, fun _ _ _ => rfl⟩, .inl rfl, fun _ => ⟨rfl, rfl⟩⟩
    rcases hown.2 with ⟨rfl, rfl⟩ | ⟨g, cap, cur, rfl, hbg, hg, hnc, hcm, hcs, htake⟩
    · cases src <;> simp [Builtin.append_, run_underlying ht, sizeOf, typeInfo, hi, Builtin.lenOf, Builtin.firstCells, loadCells, loadCellsFrom]
    · cases src <;> simp [Builtin.append_, run_underlying ht, sizeOf, typeInfo, hi, Builtin.lenOf, Builtin.firstCells, loadCells, loadCellsFrom, hnc, storeCells]
  · obtain ⟨a, rfl, hnews⟩ := hsrc.resolve_left hm
    have hsmall : n + m ≤ 9223372036854775807 := by simp only [maxLen] at h63; omega
    have hlen : (xs ++ news).length = (n + m) * i.size := by rw [List.length_append, hown.1, hl, Nat.add_mul]
    have grown : ∀ (old : Nat), old < n + m → ∀ (row : Option Nat),
        (w.drew.alloc (.cells (xs.toArray ++ news.toArray ++ Builtin.zeroCells z.cells (grownCap w (n + m) old e - (n + m))) e)).ownsRow base e i.size
          (.slice (some ⟨w.heap.size, 0, none⟩) (n + m) (grownCap w (n + m) old e)) (n + m) (xs ++ news) ∧
        w.grownBy (w.drew.alloc (.cells (xs.toArray ++ news.toArray ++ Builtin.zeroCells z.cells (grownCap w (n + m) old e - (n + m))) e)) row := by
      intro old ho row
      have hge := grownCap_ge w (n + m) old e
      have hcm : grownCap w (n + m) old e ≤ maxLen := grownCap_le_maxLen w (n + m) old e h63
      refine ⟨⟨hlen, .inr ⟨w.heap.size, _, _, rfl, hbase, Go.heap_alloc_new w.drew _, hge, hcm, ?_, ?_⟩⟩, ⟨rfl, rfl, rfl, by simp, fun k hk _ => Go.heap_alloc_old w.drew _ k hk⟩⟩
      · simp only [Array.size_append, List.size_toArray, size_zeroCells, hzs, hown.1, hl, ← Nat.add_mul]
        congr 1
        omega
      · simp only [Array.toList_append, List.append_assoc]
        rw [← List.append_assoc, ← hlen]
        exact List.take_left
    rcases hown.2 with ⟨rfl, rfl⟩ | ⟨g, cap, cur, rfl, hbg, hg, hnc, hcm, hcs, htake⟩
    · have hx : xs = [] := List.eq_nil_of_length_eq_zero (by simpa using hown.1)
      subst hx
      have hr := run_append_nil (P := P) w t ty e i z ht hi hz a m c news hl hnews (by omega) (by omega) (by have hb := hbytes; simp only [Nat.zero_add] at hb; omega)
      have hgr := grown 0 (by omega) (Value.ownBlock (.slice none 0 0))
      simp only [Nat.zero_add, List.nil_append, Array.empty_append] at hgr ⊢
      exact ⟨_, _, hr, hgr.1, hgr.2, .inr fun k hk => by simp [Value.ownBlock] at hk; omega, fun h => absurd h hm⟩
    · by_cases hroom : n + m ≤ cap
      · have hfit : n * i.size + news.length ≤ cur.size := by rw [hl, hcs, ← Nat.add_mul]; exact Nat.mul_le_mul_right _ hroom
        have hr := run_append_room (P := P) w t ty e i ht hi g n cap cur hg a m c news hl hnews h1 hroom hfit
        refine ⟨_, _, hr, ⟨hlen, .inr ⟨g, cap, _, rfl, hbg, setRow_heap w g cur _ e _ hg, hroom, hcm, ?_, ?_⟩⟩, ⟨rfl, rfl, rfl, by simp, fun k _ hk => setRow_other w g k _ (fun e => hk (by simp [Value.ownBlock, e]))⟩, .inl (by simp [Value.ownBlock]), fun h => absurd h hm⟩
        · simp only [List.size_toArray, List.length_append, List.length_take, List.length_drop, Array.length_toList]
          omega
        · rw [htake, ← hlen]
          exact List.take_left
      · have holds : ∀ j u, xs[j]? = some u → w.cell? ((⟨g, 0, none⟩ : Addr).add j) = some u := hown.cells (g := g) rfl
        have hr := run_append_grow (P := P) w t ty e i z ht hi hz ⟨g, 0, none⟩ n cap xs hown.1 holds a m c news hl hnews (by omega) (by omega) (growslice_fits (by omega) hbytes)
        have hgr := grown cap (by omega) (Value.ownBlock (.slice (some ⟨g, 0, none⟩) n cap))
        exact ⟨_, _, hr, hgr.1, hgr.2, .inr fun k hk => by simp [Value.ownBlock] at hk; omega, fun h => absurd h hm⟩
end

/-- the place of a row that this slice is the whole of -/
def locOf : Value → Loc
  | .slice (some a) _ cap => ⟨some (a.block, a.off), cap⟩
  | .slice none _ cap => ⟨none, cap⟩
  | _ => ⟨none, 0⟩

theorem ownBlock_len (a : Option Addr) (n m c d : Nat) : (Value.slice a n c).ownBlock = (Value.slice a m d).ownBlock := by cases a <;> rfl

theorem locOf_owned {w : World} {base e es v n xs} (h : w.ownsRow base e es v n xs) : v = .slice ((locOf v).at 0) n (locOf v).cap := by
  rcases h.2 with ⟨rfl, rfl⟩ | ⟨g, cap, cur, rfl, _⟩ <;> simp [locOf, Loc.at]

/-- Behind an append by the laws: one row has a new content and place, all else is as it was. -/
theorem HR.grown {w0 μ h w w'} (H : HR w0 μ h w) {id : Nat} {e es cells} (hb : h[id]? = some ⟨.row e es, cells⟩) {v v' : Value} {n n' : Nat} {xs' : List Value} {cells' : List AV}
    (hv : v = .slice ((μ id).at 0) n (μ id).cap)
    (ho : w'.ownsRow w0.heap.size e es v' n' xs') (hg : w.grownBy w' v.ownBlock) (hnew : v'.ownBlock = v.ownBlock ∨ ∀ k, v'.ownBlock = some k → w.heap.size ≤ k)
    (hlt : okAll h cells' = true) (hcr : CRs μ h cells' xs') (hmore : cells.length < cells'.length) :
    HR w0 (Mu.put μ id (locOf v')) (h.set id ⟨.row e es, cells'⟩) w' ∧ Ext μ h (Mu.put μ id (locOf v')) (h.set id ⟨.row e es, cells'⟩) := by
  have hid := lt_len hb
  have hs := H.below.size
  have hLe := Heap.le_set hb (k' := .row e es) (cells' := cells') (by omega)
  have hE : Ext μ h (Mu.put μ id (locOf v')) (h.set id ⟨.row e es, cells'⟩) := Ext.of_agree fun i n hn st hle hst => by
    have hi := csz_lt hn
    unfold sz at *
    by_cases hii : id = i
    · subst hii
      rw [List.getElem?_set_self hi] at hst
      simp only [Option.bind_some, Blk.sz, Option.some.injEq] at hst
      simp [csz, hb] at hn
      omega
    · rw [List.getElem?_set_ne hii] at hst
      exact ⟨hst, by simp only [Mu.put]; rw [if_neg (fun e => hii e.symm)]⟩
  have hother : ∀ {i : Nat}, i ≠ id → Mu.put μ id (locOf v') i = μ i := fun hne => by simp [Mu.put, hne]
  have hblk : ∀ {i : Nat} {e1 es1 cs1}, i ≠ id → h[i]? = some ⟨.row e1 es1, cs1⟩ → ∀ b o, (μ i).base = some (b, o) → b < w.heap.size ∧ w0.heap.size ≤ b ∧ some b ≠ v.ownBlock ∧ some b ≠ v'.ownBlock := by
    intro i e1 es1 cs1 hne hi b o hbo
    obtain ⟨m, xs, hoi, _⟩ := H.row i e1 es1 cs1 hi
    have hl := hoi.lt b (by simp [Loc.at, hbo, Value.ownBlock])
    have hvb : some b ≠ v.ownBlock := by
      intro hc
      rw [hv] at hc
      cases hmi : (μ id).base with
      | none => simp [Loc.at, hmi, Value.ownBlock] at hc
      | some p =>
        simp [Loc.at, hmi, Value.ownBlock] at hc
        exact H.apart i id e1 es1 cs1 e es cells hne hi hb b o p.1 p.2 hbo (by simp [hmi]) hc
    refine ⟨hl.2, hl.1, hvb, fun hc => ?_⟩
    rcases hnew with hn | hn
    · exact hvb (hc.trans hn)
    · have := hn b hc.symm; omega
  refine ⟨⟨H.below.grown hg hs (fun k hk => ?_), ?_, ?_, ?_, ?_⟩, hE⟩
  · obtain ⟨m, xs, hoi, _⟩ := H.row id e es cells hb
    refine (hoi.lt k ?_).1
    rw [hv] at hk
    exact (ownBlock_len _ _ _ _ _).trans hk
  · intro i b hi
    refine okAll_mono hLe _ ?_
    rcases getElem?_set_cases hi with ⟨rfl, rfl⟩ | ⟨_, hi⟩
    · exact hlt
    · exact H.closed i b hi
  · intro i e' es' cs' hi
    rcases getElem?_set_cases hi with ⟨rfl, he⟩ | ⟨hne, hi⟩
    · obtain ⟨⟨rfl, rfl⟩, rfl⟩ : (e' = e ∧ es' = es) ∧ cs' = cells' := by
        injection he with h1 h2; injection h1 with h3 h4; exact ⟨⟨h3, h4⟩, h2⟩
      refine ⟨n', xs', ?_, hE.crs hlt hcr⟩
      have : Mu.put μ i (locOf v') i = locOf v' := by simp [Mu.put]
      rw [this, ← locOf_owned ho]; exact ho
    · obtain ⟨m, xs, hoi, hc⟩ := H.row i e' es' cs' hi
      refine ⟨m, xs, ?_, hE.crs (H.closed i _ hi) hc⟩
      rw [hother hne]
      refine hoi.kept hg ?_
      cases hmi : (μ i).base with
      | none => left; simp [Loc.at, hmi, Value.ownBlock]
      | some p =>
        right
        have := (hblk hne hi p.1 p.2 (by simp [hmi])).2.2.1
        simpa [Loc.at, hmi, Value.ownBlock] using this
  · intro i cs' hi j d hd
    rcases getElem?_set_cases hi with ⟨rfl, he⟩ | ⟨hne, hi⟩
    · cases he
    · obtain ⟨b, o, y, h1, h2, h3, h4⟩ := H.ro i cs' hi j d hd
      refine ⟨b, o, y, by rw [hother hne]; exact h1, h2, hg.cell h3 ?_, hE d y (ok_of_mem (H.closed i _ hi) hd) h4.1, h4.2⟩
      intro hc
      obtain ⟨m, xs, hoi, _⟩ := H.row id e es cells hb
      have := (hoi.lt b (by rw [hv] at hc; exact (ownBlock_len _ _ _ _ _).trans hc.symm)).1
      omega
  · intro i j e1 es1 cs1 e2 es2 cs2 hij hi hj b o b' o' hbo hbo'
    have hv' : ∀ b o, (locOf v').base = some (b, o) → v'.ownBlock = some b := by
      intro b o hb
      rw [locOf_owned ho]
      simp [Value.ownBlock, Loc.at, hb]
    rcases getElem?_set_cases hi with ⟨rfl, _⟩ | ⟨hni, hi'⟩ <;> rcases getElem?_set_cases hj with ⟨rfl, _⟩ | ⟨hnj, hj'⟩
    · exact absurd rfl hij
    · rw [hother hnj] at hbo'
      have h1 := (hblk hnj hj' b' o' hbo').2.2.2
      have h2 := hv' b o (by simpa [Mu.put] using hbo)
      intro hc; subst hc; exact h1 h2.symm
    · rw [hother hni] at hbo
      have h1 := (hblk hni hi' b o hbo).2.2.2
      have h2 := hv' b' o' (by simpa [Mu.put] using hbo')
      intro hc; subst hc; exact h1 h2.symm
    · rw [hother hni] at hbo
      rw [hother hnj] at hbo'
      exact H.apart i j e1 es1 cs1 e2 es2 cs2 hij hi' hj' b o b' o' hbo hbo'

end Go.Ab
