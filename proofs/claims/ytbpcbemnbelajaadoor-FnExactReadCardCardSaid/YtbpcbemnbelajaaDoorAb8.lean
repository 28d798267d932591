/- Appends; all operations together. Plain library text, no statement. -/
import Derived.Test.YtbpcbemnbelajaaDoorAb7
namespace Go.Ab
open Go Go.RowKit

section
variable {P : Program} {w0 w : World} {μ : Mu} {h : Heap} {K : AV → Heap → Prop} {s : S} {a : Act}

theorem addr_add (b o j : Nat) : (⟨b, o, none⟩ : Addr).add j = ⟨b, o + j, none⟩ := by unfold Addr.add; split <;> simp_all

theorem HR.closed_rd (H : HR w0 μ h w) {id st cells} (hr : rd h id st = some cells) : okAll h cells = true := by
  obtain ⟨_, hb | ⟨e, es, hb⟩, _⟩ := rd_spec hr
  · exact H.closed _ _ hb
  · exact H.closed _ _ hb

/-- the values in a row that may be read -/
theorem HR.row_read (H : HR w0 μ h w) {id st cells} (hr : rd h id st = some cells) :
    ∃ xs, CRs μ h cells xs ∧ (cells = [] ∨ ∃ b o, (μ id).base = some (b, o) ∧ ∀ (j : Nat) u, xs[j]? = some u → w.cell? ⟨b, o + j, none⟩ = some u) := by
  by_cases hc : cells = []
  · subst hc
    exact ⟨[], ⟨rfl, fun i c x hi => by simp at hi⟩, .inl rfl⟩
  · have hpos : 0 < cells.length := List.length_pos_iff.2 hc
    obtain ⟨b, o, x0, hb, _, _⟩ := H.read hr (List.getElem?_eq_getElem hpos)
    have hcell : ∀ (j : Nat) c, cells[j]? = some c → ∃ x, w.cell? ⟨b, o + j, none⟩ = some x ∧ CR μ h c x := by
      intro j c hj
      obtain ⟨b', o', x, hb', hx, hc⟩ := H.read hr hj
      rw [hb] at hb'
      injection hb' with hb'; injection hb' with h1 h2
      subst h1; subst h2
      exact ⟨x, hx, hc⟩
    refine ⟨(List.range cells.length).map fun j => (w.cell? ⟨b, o + j, none⟩).getD undef, ⟨by simp, fun j c x hc hx => ?_⟩, .inr ⟨b, o, hb, fun j u hu => ?_⟩⟩
    · obtain ⟨x', hx', hcr⟩ := hcell j c hc
      simp [hx', lt_len hc] at hx
      subst hx
      exact hcr
    · have hk1 : j < cells.length := by simpa using lt_len hu
      obtain ⟨x', hx', _⟩ := hcell j _ (List.getElem?_eq_getElem hk1)
      rw [List.getElem?_map, List.getElem?_range hk1] at hu
      rw [hx']
      simpa [hx'] using hu

theorem crs_drop {cs xs} (hc : CRs μ h cs xs) (k n : Nat) : CRs μ h ((cs.drop k).take n) ((xs.drop k).take n) :=
  ⟨by simp [hc.1], fun i c x hi hx => by
    rw [List.getElem?_take] at hi hx
    split at hi
    · rename_i hlt
      rw [if_pos hlt] at hx
      rw [List.getElem?_drop] at hi hx
      exact hc.2 _ c x hi hx
    · cases hi⟩

theorem okAll_drop {cs : List AV} (hc : okAll h cs = true) (k n : Nat) : okAll h ((cs.drop k).take n) = true :=
  okAll_iff.2 fun c hm => okAll_iff.1 hc c (List.mem_of_mem_drop (List.mem_of_mem_take hm))

theorem src_spec (H : HR w0 μ h w) {size m : Nat} {c : AV} {x : Value} {news : List AV} (hv : VR μ h c x) (hs : srcOf h size c = some (m, news)) (hl : news.length = m * size) (hsz : 0 < size) :
    ∃ src cap xs, x = .slice src m cap ∧ CRs μ h news xs ∧ okAll h news = true ∧ (m = 0 ∨ ∃ ad, src = some ad ∧ ∀ (j : Nat) u, xs[j]? = some u → w.cell? (ad.add j) = some u) := by
  unfold srcOf at hs
  split at hs
  · rename_i id es m'
    split at hs
    · rename_i he
      split at hs
      · rename_i cells hr
        injection hs with hs; injection hs with h1 h2
        subst h1; subst h2; subst he
        have hx := hv.own_get (rd_spec hr).2.2
        obtain ⟨xs, hcr, hor⟩ := H.row_read hr
        refine ⟨_, _, xs, hx, hcr, H.closed_rd hr, ?_⟩
        rcases hor with rfl | ⟨b, o, hb, hcell⟩
        · left
          have h0 : m' * es = 0 := by simpa using hl.symm
          rcases Nat.mul_eq_zero.1 h0 with h1 | h1 <;> omega
        · right
          refine ⟨⟨b, o, none⟩, by simp [Loc.at, hb], fun j u hu => ?_⟩
          rw [addr_add]; exact hcell j u hu
      · cases hs
    · cases hs
  · rename_i id st es lo m'
    split at hs
    · rename_i he
      split at hs
      · rename_i cells hr
        injection hs with hs; injection hs with h1 h2
        subst h1; subst h2
        obtain ⟨rfl, hle⟩ := he
        obtain ⟨ad, cp, hx, hor'⟩ := hv.sub_get (rd_spec hr).2.2
        obtain ⟨xs, hcr, hor⟩ := H.row_read hr
        refine ⟨_, _, _, hx, crs_drop hcr _ _, okAll_drop (H.closed_rd hr) _ _, ?_⟩
        by_cases hm : m' = 0
        · exact .inl hm
        · right
          obtain ⟨b, o, hb, rfl⟩ := hor'.resolve_left hm
          refine ⟨_, rfl, fun j u hu => ?_⟩
          rw [addr_add]
          rcases hor with rfl | ⟨b', o', hb', hcell⟩
          · have hx0 : xs = [] := List.eq_nil_of_length_eq_zero hcr.1.symm
            subst hx0
            simp at hu
          · rw [hb] at hb'
            injection hb' with hb'; injection hb' with h1 h2
            subst h1; subst h2
            rw [List.getElem?_take] at hu
            split at hu
            · rw [List.getElem?_drop] at hu
              rw [Nat.add_assoc]
              exact hcell _ u hu
            · cases hu
      · cases hs
    · cases hs
  · injection hs with hs; injection hs with h1 h2
    subst h1; subst h2
    cases hv
    exact ⟨_, _, [], rfl, ⟨rfl, fun i c x hi => by simp at hi⟩, rfl, .inl rfl⟩
  · cases hs

theorem crs_append {cs ds xs ys} (hc : CRs μ h cs xs) (hd : CRs μ h ds ys) : CRs μ h (cs ++ ds) (xs ++ ys) :=
  ⟨by simp [hc.1, hd.1], fun i c x hi hx => by
    rw [List.getElem?_append] at hi hx
    rw [hc.1] at hi
    split at hi
    · rename_i hlt; rw [if_pos hlt] at hx; exact hc.2 i c x hi hx
    · rename_i hge; rw [if_neg hge] at hx; exact hd.2 _ c x hi hx⟩

theorem okAll_append {cs ds : List AV} (hc : okAll h cs = true) (hd : okAll h ds = true) : okAll h (cs ++ ds) = true :=
  okAll_iff.2 fun c hm => by
    simp at hm
    rcases hm with hm | hm
    · exact okAll_iff.1 hc c hm
    · exact okAll_iff.1 hd c hm

/-- one row more, that the world holds already -/
theorem HR.add (H : HR w0 μ h w) {e es n : Nat} {v : Value} {xs : List Value} {cells : List AV} (ho : w.ownsRow w0.heap.size e es v n xs)
    (hnew : ∀ k, v.ownBlock = some k → ∀ (i : Nat) e1 es1 cs1 b o, h[i]? = some ⟨.row e1 es1, cs1⟩ → (μ i).base = some (b, o) → b ≠ k) (hok : okAll h cells = true) (hcr : CRs μ h cells xs) :
    HR w0 (Mu.put μ h.length (locOf v)) (h ++ [⟨.row e es, cells⟩]) w := by
  have hE := Ext.grow (μ := μ) (h := h) ⟨.row e es, cells⟩ (locOf v)
  have hold : ∀ {id : Nat} {b : Blk}, (h ++ [(⟨.row e es, cells⟩ : Blk)])[id]? = some b → (id < h.length ∧ h[id]? = some b) ∨ (id = h.length ∧ b = ⟨.row e es, cells⟩) := by
    intro id b hb
    rcases Nat.lt_trichotomy id h.length with hlt | rfl | hgt
    · rw [List.getElem?_append_left hlt] at hb; exact .inl ⟨hlt, hb⟩
    · simp at hb; exact .inr ⟨rfl, hb.symm⟩
    · rw [List.getElem?_eq_none (by simp; omega)] at hb; cases hb
  have hvb : ∀ b o, (locOf v).base = some (b, o) → v.ownBlock = some b := by
    intro b o hb
    rw [locOf_owned ho]
    simp [Value.ownBlock, Loc.at, hb]
  refine ⟨H.below, fun id b hb => ?_, fun id e' es' cells' hb => ?_, fun id cells' hb j c hj => ?_, ?_⟩
  · rcases hold hb with ⟨_, hb⟩ | ⟨rfl, rfl⟩
    · exact okAll_mono (Heap.le_append _ _) _ (H.closed id b hb)
    · exact okAll_mono (Heap.le_append _ _) _ hok
  · rcases hold hb with ⟨hid, hb⟩ | ⟨rfl, he⟩
    · obtain ⟨m, ys, hoi, hc⟩ := H.row id e' es' cells' hb
      refine ⟨m, ys, ?_, hE.crs (H.closed id _ hb) hc⟩
      have : Mu.put μ h.length (locOf v) id = μ id := by simp [Mu.put, Nat.ne_of_lt hid]
      rw [this]; exact hoi
    · obtain ⟨⟨rfl, rfl⟩, rfl⟩ : (e' = e ∧ es' = es) ∧ cells' = cells := by
        injection he with h1 h2; injection h1 with h3 h4; exact ⟨⟨h3, h4⟩, h2⟩
      refine ⟨n, xs, ?_, hE.crs hok hcr⟩
      have : Mu.put μ h.length (locOf v) h.length = locOf v := by simp [Mu.put]
      rw [this, ← locOf_owned ho]; exact ho
  · rcases hold hb with ⟨hid, hb⟩ | ⟨rfl, he⟩
    · obtain ⟨b, o, x, h1, h2, h3, h4⟩ := H.ro id cells' hb j c hj
      refine ⟨b, o, x, ?_, h2, h3, hE c x (ok_of_mem (H.closed id _ hb) hj) h4.1, h4.2⟩
      simp [Mu.put, Nat.ne_of_lt hid, h1]
    · cases he
  · intro i j e1 es1 cs1 e2 es2 cs2 hij hi hj b o b' o' hb hb'
    rcases hold hi with ⟨hi1, hi⟩ | ⟨rfl, hi⟩ <;> rcases hold hj with ⟨hj1, hj⟩ | ⟨rfl, hj⟩
    · simp [Mu.put, Nat.ne_of_lt hi1] at hb
      simp [Mu.put, Nat.ne_of_lt hj1] at hb'
      exact H.apart i j e1 es1 cs1 e2 es2 cs2 hij hi hj b o b' o' hb hb'
    · simp [Mu.put, Nat.ne_of_lt hi1] at hb
      simp [Mu.put] at hb'
      exact hnew b' (hvb b' o' hb') i _ _ _ b o hi hb
    · simp [Mu.put] at hb
      simp [Mu.put, Nat.ne_of_lt hj1] at hb'
      exact fun hc => hnew b (hvb b o hb) j _ _ _ b' o' hj hb' hc.symm
    · exact absurd rfl hij

theorem below_of_grown {w w' : World} {row : Option Nat} (hg : w.grownBy w' row) (hr : ∀ k, row ≠ some k ∨ w.heap.size ≤ k) : Below w.heap.size w w' :=
  ⟨hg.os, hg.tape, hg.output, hg.size, fun k hk => hg.block k hk (fun hc => by rcases hr k with h | h; exact h hc.symm; omega)⟩

theorem done_append {t e : TypeId} {y : Ty} (H : HR w0 μ h w) (he : elemT P t = some e) (hy : tyOf P e = some y) {c d : AV} {x z : Value} (hcv : VR μ h c x) (hcok : c.ok h = true) (hdv : VR μ h d z) {m : Nat} {news : List AV}
    (hsrc : srcOf h y.size d = some (m, news)) (hl : news.length = m * y.size) (hp : appP h e y c m news K) {ty : TypeId} {run : Result Next}
    (hrun : run = ((Builtin.append_ #[t, t] ty #[x, z]).run P w).andThen fun v w => .ok (.value v) w) : Done P w0 μ h w run K := by
  obtain ⟨i, dd, zz, hi, hd, hz, e1, e2, e3, e4, e5, e6, e7, e8⟩ := tyOf_spec hy
  obtain ⟨src, cap, xs, rfl, hcr, hok, hor⟩ := src_spec H hdv hsrc hl e5
  have hzs : zz.cells.size = i.size := by rw [toArray_eq e3]; simp [e6, e1]
  have hxl : xs.length = m * i.size := by rw [← hcr.1, hl, e1]
  have hx1 : ∀ u ∈ xs, u.oneCell' = true := by
    intro u hu
    obtain ⟨j, hj⟩ := List.getElem?_of_mem hu
    have hjl : j < news.length := by rw [hcr.1]; exact lt_len hj
    exact (hcr.2 j _ u (List.getElem?_eq_getElem hjl) hj).2
  unfold appP at hp
  split at hp
  · rename_i id es n
    obtain ⟨rfl, hb1, hb2, hp⟩ := hp
    split at hp
    · rename_i e' es' cells hw
      obtain ⟨rfl, rfl, hk⟩ := hp
      obtain ⟨hcl, hb, hsz⟩ := wr_spec hw
      have hx := hcv.own_get hsz
      subst hx
      obtain ⟨n', ys, hown, hcys⟩ := H.row id e' y.size cells hb
      have hn : n' = n := by
        have h1 := hown.1
        rw [← hcys.1, hcl] at h1
        exact (Nat.eq_of_mul_eq_mul_right e5 h1).symm
      subst hn
      obtain ⟨v', w', hr, ho', hg, hnew, hzero⟩ := run_append_abs (P := P) w w0.heap.size t ty e' i zz (elemT_spec he) hi hz hzs _ n' ys (by rw [e1]; exact hown) src m cap xs hxl hor hx1
        (by simp only [maxLen]; omega) (by rw [e4]; exact hb1) H.below.size
      rw [e1] at ho'
      by_cases hm : m = 0
      · obtain ⟨rfl, rfl⟩ := hzero hm
        subst hm
        have hnn : news = [] := List.eq_nil_of_length_eq_zero (by simpa using hl)
        subst hnn
        have hself : h.set id ⟨.row e' y.size, cells ++ []⟩ = h := by
          rw [List.append_nil]
          apply List.ext_getElem?
          intro j
          by_cases hj : id = j
          · subst hj; rw [List.getElem?_set_self (lt_len hb), hb]
          · rw [List.getElem?_set_ne hj]
        rw [hself] at hk
        exact Done.same H (by rw [hrun, hr]; rfl) (by simpa using hcok) (by simpa using hcv) hk
      · have hmp : 0 < m * y.size := Nat.mul_pos (by omega) e5
        obtain ⟨HN, hE⟩ := H.grown hb (n := n') rfl ho' hg hnew (cells' := cells ++ news) (okAll_append (H.closed _ _ hb) hok) (crs_append hcys hcr) (by simp; omega)
        have hlen : (cells ++ news).length = (n' + m) * y.size := by rw [List.length_append, hcl, hl, Nat.add_mul]
        have hLe := Heap.le_set hb (k' := .row e' y.size) (cells' := cells ++ news) (by simp)
        refine ⟨_, _, _, w', v', hk, .inl (by rw [hrun, hr]; rfl), ?_, ?_, HN, hE, hLe⟩
        · have hlo := locOf_owned ho'
          refine .own ?_ fun _ => ?_
          · rw [hlo]; rfl
          · have : Mu.put μ id (locOf v') id = locOf v' := by simp [Mu.put]
            rw [this]; exact hlo
        · simp only [AV.ok, refOk, csz, List.getElem?_set_self (lt_len hb), Option.map_some, hlen, Nat.le_refl, decide_true]
    · exact hp.elim
  · obtain ⟨hb1, hb2, hk⟩ := hp
    cases hcv
    obtain ⟨v', w', hr, ho', hg, hnew, hzero⟩ := run_append_abs (P := P) w w0.heap.size t ty e i zz (elemT_spec he) hi hz hzs (.slice none 0 0) 0 [] (World.ownsRow_nil _ _ _ _) src m cap xs hxl hor hx1
      (by simp only [maxLen]; omega) (by rw [e4, Nat.zero_add]; exact hb1) H.below.size
    simp only [Nat.zero_add, List.nil_append] at ho'
    rw [e1] at ho'
    have H' := H.world (below_of_grown hg (fun k => .inl (by simp [Value.ownBlock])))
    have HN := H'.add (cells := news) ho' (fun k hk i e1 es1 cs1 b o hi hb => by
      obtain ⟨m', ys, hoi, _⟩ := H.row i e1 es1 cs1 hi
      have hlt := (hoi.lt b (by simp [Loc.at, hb, Value.ownBlock])).2
      rcases hnew with hn | hn
      · rw [hk] at hn; simp [Value.ownBlock] at hn
      · have := hn k hk; omega) hok hcr
    refine ⟨_, _, _, w', v', hk, .inl (by rw [hrun, hr]; rfl), ?_, ?_, HN, Ext.grow _ _, Heap.le_append _ _⟩
    · have hlo := locOf_owned ho'
      refine .own ?_ fun _ => ?_
      · rw [hlo]; rfl
      · have : Mu.put μ h.length (locOf v') h.length = locOf v' := by simp [Mu.put]
        rw [this]; exact hlo
    · simp [AV.ok, refOk, csz_new, hl]
  · exact hp.elim

end
end Go.Ab
