/- A row of integers that a call has turned in place; a row that is cut to its first part. Plain library text, no statement. -/
import Derived.Test.YtdpopimpdhgfaaaAb32
import Derived.Test.YtdpopimpdhgfaaaAb24
import Derived.Sort.OwnSortedInts
namespace Go.Ab
open Go Go.RowKit Go.Sort Go.Proofs

/-- one row has a new content, of the same length, at its place -/
theorem HR.turned {w0 μ h w w'} (H : HR w0 μ h w) {id : Nat} {e es cells} (hb : h[id]? = some ⟨.row e es, cells⟩) {n : Nat} {xs' : List Value} {cells' : List AV}
    (ho : w'.ownsRow w0.heap.size e es (.slice ((μ id).at 0) n (μ id).cap) n xs') (hg : w.grownBy w' (Value.slice ((μ id).at 0) n (μ id).cap).ownBlock)
    (hlt : okAll h cells' = true) (hcr : CRs μ h cells' xs') (hl : cells'.length = cells.length) :
    HR w0 μ (h.set id ⟨.row e es, cells'⟩) w' := by
  have hid := lt_len hb
  have hs := H.below.size
  have hLe := Heap.le_set hb (k' := .row e es) (cells' := cells') (Nat.le_of_eq hl.symm)
  have hE : Ext μ h μ (h.set id ⟨.row e es, cells'⟩) := Ext.set hb hl
  have hvb : ∀ {i : Nat} {e1 es1 cs1}, i ≠ id → h[i]? = some ⟨.row e1 es1, cs1⟩ → ∀ b o, (μ i).base = some (b, o) → some b ≠ (Value.slice ((μ id).at 0) n (μ id).cap).ownBlock := by
    intro i e1 es1 cs1 hne hi b o hbo hc
    cases hmi : (μ id).base with
    | none => simp [Loc.at, hmi, Value.ownBlock] at hc
    | some p =>
      simp [Loc.at, hmi, Value.ownBlock] at hc
      exact H.apart i id e1 es1 cs1 e es cells hne hi hb b o p.1 p.2 hbo (by simp [hmi]) hc
  have old : ∀ k, (Value.slice ((μ id).at 0) n (μ id).cap).ownBlock = some k → w0.heap.size ≤ k := fun k hk => by
    obtain ⟨m, xs, hoi, _⟩ := H.row id e es cells hb
    exact (hoi.lt k ((ownBlock_len _ _ _ _ _).trans hk)).1
  refine ⟨H.below.grown hg hs old, ?_, ?_, ?_, ?_⟩
  · intro i b hi
    refine okAll_mono hLe _ ?_
    rcases getElem?_set_cases hi with ⟨rfl, rfl⟩ | ⟨_, hi⟩
    · exact hlt
    · exact H.closed i b hi
  · intro i e' es' cs' hi
    rcases getElem?_set_cases hi with ⟨rfl, he⟩ | ⟨hne, hi⟩
    · obtain ⟨⟨rfl, rfl⟩, rfl⟩ : (e' = e ∧ es' = es) ∧ cs' = cells' := by
        injection he with h1 h2; injection h1 with h3 h4; exact ⟨⟨h3, h4⟩, h2⟩
      exact ⟨n, xs', ho, hE.crs hlt hcr⟩
    · obtain ⟨m, xs, hoi, hc⟩ := H.row i e' es' cs' hi
      refine ⟨m, xs, ?_, hE.crs (H.closed i _ hi) hc⟩
      refine hoi.kept hg ?_
      cases hmi : (μ i).base with
      | none => left; simp [Loc.at, hmi, Value.ownBlock]
      | some p =>
        right
        have := hvb hne hi p.1 p.2 (by simp [hmi])
        simpa [Loc.at, hmi, Value.ownBlock] using this
  · intro i cs' hi j d hd
    rcases getElem?_set_cases hi with ⟨rfl, he⟩ | ⟨hne, hi⟩
    · cases he
    · obtain ⟨b, o, y, h1, h2, h3, h4⟩ := H.ro i cs' hi j d hd
      refine ⟨b, o, y, h1, h2, hg.cell h3 ?_, hE d y (ok_of_mem (H.closed i _ hi) hd) h4.1, h4.2⟩
      intro hc
      have := old b hc.symm
      omega
  · intro i j e1 es1 cs1 e2 es2 cs2 hij hi hj
    have was : ∀ {i : Nat} {e1 es1 cs1}, (h.set id ⟨.row e es, cells'⟩)[i]? = some ⟨.row e1 es1, cs1⟩ → ∃ e2 es2 cs2, h[i]? = some ⟨.row e2 es2, cs2⟩ := by
      intro i e1 es1 cs1 hi
      rcases getElem?_set_cases hi with ⟨rfl, _⟩ | ⟨_, hi⟩
      · exact ⟨_, _, _, hb⟩
      · exact ⟨_, _, _, hi⟩
    obtain ⟨_, _, _, hi'⟩ := was hi
    obtain ⟨_, _, _, hj'⟩ := was hj
    exact H.apart i j _ _ _ _ _ _ hij hi' hj'

/-- a row that is looked at no more -/
theorem HR.gone {w0 μ h w} (H : HR w0 μ h w) {id : Nat} {k cells} (hb : h[id]? = some ⟨k, cells⟩) :
    HR w0 μ (h.set id ⟨.gone, cells⟩) w ∧ Ext μ h μ (h.set id ⟨.gone, cells⟩) ∧ h.le (h.set id ⟨.gone, cells⟩) := by
  have hLe := Heap.le_set hb (k' := .gone) (cells' := cells) (Nat.le_refl _)
  have hE : Ext μ h μ (h.set id ⟨.gone, cells⟩) := Ext.of_agree fun i n hn st hle hst => by
    have hi := csz_lt hn
    unfold sz at *
    by_cases hii : id = i
    · subst hii
      rw [List.getElem?_set_self hi] at hst
      simp [Blk.sz] at hst
    · rw [List.getElem?_set_ne hii] at hst
      exact ⟨hst, rfl⟩
  refine ⟨⟨H.below, ?_, ?_, ?_, ?_⟩, hE, hLe⟩
  · intro i b hi
    refine okAll_mono hLe _ ?_
    rcases getElem?_set_cases hi with ⟨rfl, rfl⟩ | ⟨_, hi⟩
    · exact H.closed _ ⟨k, cells⟩ hb
    · exact H.closed i b hi
  · intro i e es cs hi
    rcases getElem?_set_cases hi with ⟨rfl, he⟩ | ⟨hne, hi⟩
    · cases he
    · obtain ⟨n, xs, ho, hc⟩ := H.row i e es cs hi
      exact ⟨n, xs, ho, hE.crs (H.closed i _ hi) hc⟩
  · intro i cs hi j d hd
    rcases getElem?_set_cases hi with ⟨rfl, he⟩ | ⟨hne, hi⟩
    · cases he
    · obtain ⟨b, o, y, h1, h2, h3, h4⟩ := H.ro i cs hi j d hd
      exact ⟨b, o, y, h1, h2, h3, hE d y (ok_of_mem (H.closed i _ hi) hd) h4.1, h4.2⟩
  · intro i j e1 es1 cs1 e2 es2 cs2 hij hi hj
    rcases getElem?_set_cases hi with ⟨rfl, he⟩ | ⟨_, hi⟩
    · cases he
    rcases getElem?_set_cases hj with ⟨rfl, he⟩ | ⟨_, hj⟩
    · cases he
    exact H.apart i j _ _ _ _ _ _ hij hi hj

/-- a row is cut to its first elements: the old row is looked at no more, the first part of it is a row at the same place -/
theorem HR.cut {w0 μ h w} (H : HR w0 μ h w) {id : Nat} {e es cells} (hb : h[id]? = some ⟨.row e es, cells⟩) (hes : 0 < es) {m : Nat} (hm : m * es ≤ cells.length) :
    ∃ μ', HR w0 μ' (h.set id ⟨.gone, cells⟩ ++ [⟨.row e es, cells.take (m * es)⟩]) w ∧ Ext μ h μ' (h.set id ⟨.gone, cells⟩ ++ [⟨.row e es, cells.take (m * es)⟩]) ∧ h.le (h.set id ⟨.gone, cells⟩ ++ [⟨.row e es, cells.take (m * es)⟩]) ∧
      VR μ' (h.set id ⟨.gone, cells⟩ ++ [⟨.row e es, cells.take (m * es)⟩]) (.own h.length es m) (.slice ((μ id).at 0) m (μ id).cap) := by
  obtain ⟨n, xs, ho, hc⟩ := H.row id e es cells hb
  obtain ⟨H1, E1, L1⟩ := H.gone hb
  have hid := lt_len hb
  have hx1 := ho.1
  have hx2 := hc.1
  have ho' : w.ownsRow w0.heap.size e es (.slice ((μ id).at 0) m (μ id).cap) m (xs.take (m * es)) := by
    refine ⟨by rw [List.length_take]; omega, ?_⟩
    rcases ho.2 with ⟨hv, rfl⟩ | ⟨g, cap, cur, hv, hg, hh, hnc, hcm, hcs, hx⟩
    · have h0 : m * es = 0 := by simp at hx1; simp [hx1] at hx2; simp [hx2] at hm; simpa using hm
      have hm0 : m = 0 := by rcases Nat.mul_eq_zero.1 h0 with h1 | h1 <;> omega
      subst hm0
      exact .inl ⟨hv, rfl⟩
    · have hmn : m ≤ n := Nat.le_of_mul_le_mul_right (by omega : m * es ≤ n * es) hes
      injection hv with ha _ hcap
      refine .inr ⟨g, cap, cur, by rw [ha, hcap], hg, hh, by omega, hcm, hcs, ?_⟩
      rw [← hx, List.take_take, Nat.min_eq_left (Nat.mul_le_mul_right _ hmn)]
  have hlo := locOf_owned ho'
  have hlen : (h.set id ⟨.gone, cells⟩).length = h.length := by simp
  have hcr : CRs μ h (cells.take (m * es)) (xs.take (m * es)) := by
    refine ⟨by simp [hx2], fun i c x hi hx => ?_⟩
    have h1 : i < m * es := by have := lt_len hi; simp at this; omega
    rw [List.getElem?_take_of_lt h1] at hi hx
    exact hc.2 i c x hi hx
  have hok : okAll h (cells.take (m * es)) = true := okAll_iff.2 fun c hcm => okAll_iff.1 (H.closed id _ hb) c (List.mem_of_mem_take hcm)
  have A := H1.add ho' (fun k hk i e1 es1 cs1 b o hi hbo => by
    rcases getElem?_set_cases hi with ⟨rfl, he⟩ | ⟨hne, hi⟩
    · cases he
    · cases hmi : (μ id).base with
      | none => simp [Loc.at, hmi, Value.ownBlock] at hk
      | some p =>
        simp [Loc.at, hmi, Value.ownBlock] at hk
        rw [← hk]
        exact H.apart i id e1 es1 cs1 e es cells hne hi hb b o p.1 p.2 hbo (by simp [hmi])) (okAll_mono L1 _ hok) (E1.crs hok hcr)
  refine ⟨_, A, ?_, Heap.le_trans L1 (Heap.le_append _ _), ?_⟩
  · exact E1.trans L1 (Ext.grow _ _)
  · refine .own rfl fun _ => ?_
    rw [hlen]
    have : Mu.put μ h.length (locOf (.slice ((μ id).at 0) m (μ id).cap)) h.length = locOf (.slice ((μ id).at 0) m (μ id).cap) := by simp [Mu.put]
    rw [this]; exact hlo

theorem vals_ints {μ : Mu} {h : Heap} {xs : List Int} {vals : List Value} (hc : CRs μ h (rowI xs) vals) : vals = xs.map (Value.int .i64) := by
  apply List.ext_getElem?
  intro i
  have hl := hc.1
  simp [rowI] at hl
  cases hx : vals[i]? with
  | none =>
    have : xs.length ≤ i := by rw [hl]; exact List.getElem?_eq_none_iff.1 hx
    simp [List.getElem?_eq_none this]
  | some x =>
    have hi : i < xs.length := by rw [hl]; exact lt_len hx
    have := (hc.2 i (.raw (.int .i64 xs[i])) x (by simp [rowI, hi]) hx).1
    rw [raw_val this]
    simp [hi]

theorem crs_ints {μ : Mu} {h : Heap} (xs : List Int) : CRs μ h (rowI xs) (xs.map (Value.int .i64)) := by
  refine ⟨by simp [rowI], fun i c x hi hx => ?_⟩
  simp only [rowI, List.getElem?_map] at hi hx
  cases hu : xs[i]? with
  | none => rw [hu] at hi; cases hi
  | some u =>
    rw [hu] at hi hx
    cases hi; cases hx
    exact ⟨.raw _, rfl⟩

/-- A row of integers as the guide's contracts want it, and behind a call that has put other integers there. -/
theorem HR.ints {w0 μ h w} (H : HR w0 μ h w) {id : Nat} {e} {xs : List Int} (hb : h[id]? = some ⟨.row e 1, rowI xs⟩) (hpos : 0 < xs.length) :
    ∃ g cap, (μ id) = ⟨some (g, 0), cap⟩ ∧ Holds (Value.int .i64) w g 0 xs.toArray ∧ g < w.heap.size ∧ xs.length ≤ cap ∧ cap ≤ maxLen ∧
      ∀ (ys : List Int) (q : Nat) (os : Array Obj), ys.length = xs.length → HR w0 μ (h.set id ⟨.row e 1, rowI ys⟩) (grow (putRow (Value.int .i64) (Sort.ahead w q) g 0 ys.toArray) os) := by
  obtain ⟨g, n, cap, cur, hmu, hg, hh, hnc, hcm, hcs, hlen, hcc⟩ := H.row_at hb (by simp [rowI]; exact hpos)
  have hn : n = xs.length := by simp [rowI] at hlen; exact hlen.symm
  subst hn
  have ht := vals_ints hcc
  rw [Nat.mul_one] at ht
  refine ⟨g, cap, hmu, holds_of_blockI hh ht, (Array.getElem?_eq_some_iff.1 hh).1, hnc, hcm, fun ys q os hl => ?_⟩
  have how := ownsRow_sortedI (n := q) (os := os) hl hg hh hnc hcm hcs
  refine H.turned hb (n := xs.length) (xs' := ys.map (Value.int .i64)) ?_ ?_ (rowI_ok h ys) (crs_ints ys) (by simp [rowI, hl])
  · rw [hmu]; exact how
  · rw [hmu]; exact grownBy_sortedI _

theorem KeepR.app {c : AV} {h h' ext : Heap} (hk : KeepR c h h') : KeepR c h (h' ++ ext) := by
  cases c <;> simp only [KeepR] at * <;> intro b hb <;> (have := hk b hb; rw [List.getElem?_append_left (lt_len this)]; exact this)

section
variable {P : Program} {n : Nat} {h0 h : Heap} {s : S} {Q : Exit → S → Heap → Prop} {k : List It} {dr : Bool} {l : List LO} {L : List Operand}
/-- a call that sets a row and makes rows -/
theorem cl_cut {g : FuncId} {args : List AV} {v : AV} {t id : Nat} {b : Blk} {ext : Heap} (hc : AC P g args h fun c h' => c = v ∧ h' = List.set h id b ++ ext) (ha : dr = true → ApartL id (L.map (ev s)))
    (hq : t < n ∧ run P n h0 (.ops dr l :: k) Q (upd s t v) (List.set h id b ++ ext)) : clR P n h0 dr (some t) (.fn (.func g) []) args L l k Q s h :=
  cl_useK (by rw [List.append_nil]; exact hc) (fun hd x hx => KeepR.app (keepL_set (ha hd) x hx)) hq
end
end Go.Ab
