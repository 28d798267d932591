/- From what lies in the caller's world to rows of the abstract heap; from a contract to a call's end. Plain library text, no statement. -/
import Derived.Test.YtbpcbemnbelajaaGreatDoorAb17
import Derived.WideShapes
import Derived.ChangeShapes
import Derived.ChangeArms
import Derived.DataReads
namespace Go.Ab
open Go Go.RowKit

/-! ### rows that came in -/

theorem HR.nil (W : World) (μ : Mu) (hG : Glob W) : HR W μ [] W :=
  ⟨⟨Below.refl _ _, hG⟩, fun id b hb => by simp at hb, fun id e es cells hb => by simp at hb, fun id cells hb => by simp at hb, fun i j e es cs e' es' cs' _ hi => by simp at hi⟩

theorem HR.addRo {w0 w : World} {μ : Mu} {h : Heap} (H : HR w0 μ h w) {cells : List AV} {l : Loc} (hk : okAll h cells = true)
    (hro : ∀ (j : Nat) c, cells[j]? = some c → ∃ b o x, l.base = some (b, o) ∧ b < w0.heap.size ∧ w.cell? ⟨b, o + j, none⟩ = some x ∧ CR μ h c x) :
    HR w0 (Mu.put μ h.length l) (h ++ [⟨.ro, cells⟩]) w ∧ Ext μ h (Mu.put μ h.length l) (h ++ [⟨.ro, cells⟩]) := by
  have hE := Ext.grow (μ := μ) (h := h) ⟨.ro, cells⟩ l
  have hold : ∀ {id : Nat} {b : Blk}, (h ++ [(⟨.ro, cells⟩ : Blk)])[id]? = some b → (id < h.length ∧ h[id]? = some b) ∨ (id = h.length ∧ b = ⟨.ro, cells⟩) := by
    intro id b hb
    rcases Nat.lt_trichotomy id h.length with hlt | rfl | hgt
    · rw [List.getElem?_append_left hlt] at hb; exact .inl ⟨hlt, hb⟩
    · simp at hb; exact .inr ⟨rfl, hb.symm⟩
    · rw [List.getElem?_eq_none (by simp; omega)] at hb; cases hb
  refine ⟨⟨H.below, fun id b hb => ?_, fun id e es cells' hb => ?_, fun id cells' hb j c hj => ?_, ?_⟩, hE⟩
  · rcases hold hb with ⟨_, hb⟩ | ⟨rfl, rfl⟩
    · exact okAll_mono (Heap.le_append _ _) _ (H.closed id b hb)
    · exact okAll_mono (Heap.le_append _ _) _ hk
  · rcases hold hb with ⟨hid, hb⟩ | ⟨rfl, he⟩
    · obtain ⟨m, xs, ho, hc⟩ := H.row id e es cells' hb
      refine ⟨m, xs, ?_, hE.crs (H.closed id _ hb) hc⟩
      have : Mu.put μ h.length l id = μ id := by simp [Mu.put, Nat.ne_of_lt hid]
      rw [this]; exact ho
    · cases he
  · rcases hold hb with ⟨hid, hb⟩ | ⟨rfl, he⟩
    · obtain ⟨b, o, x, h1, h2, h3, h4⟩ := H.ro id cells' hb j c hj
      refine ⟨b, o, x, ?_, h2, h3, hE c x (ok_of_mem (H.closed id _ hb) hj) h4.1, h4.2⟩
      simp [Mu.put, Nat.ne_of_lt hid, h1]
    · obtain rfl : cells' = cells := by injection he
      obtain ⟨b, o, x, h1, h2, h3, h4⟩ := hro j c hj
      refine ⟨b, o, x, ?_, h2, h3, hE c x (ok_of_mem hk hj) h4.1, h4.2⟩
      simp [Mu.put, h1]
  · intro i j e1 es1 cs1 e2 es2 cs2 hij hi hj b o b' o' hb hb'
    rcases hold hi with ⟨hi1, hi⟩ | ⟨_, hi⟩
    · rcases hold hj with ⟨hj1, hj⟩ | ⟨_, hj⟩
      · simp [Mu.put, Nat.ne_of_lt hi1] at hb
        simp [Mu.put, Nat.ne_of_lt hj1] at hb'
        exact H.apart i j e1 es1 cs1 e2 es2 cs2 hij hi hj b o b' o' hb hb'
      · cases hj
    · cases hi

/-- What a piece of the abstract heap says of cells. -/
abbrev Say := Heap → List AV → Prop
def Say.Mono (R : Say) : Prop := ∀ h ext as, R h as → R (h ++ ext) as

/-- These cells of a world can be had as abstract ones, of which R holds. -/
def Opn (W : World) (cs : List Value) (R : Say) : Prop :=
  ∀ μ h, HR W μ h W → ∃ μ' ext as, HR W μ' (h ++ ext) W ∧ Ext μ h μ' (h ++ ext) ∧ CRs μ' (h ++ ext) as cs ∧ okAll (h ++ ext) as = true ∧ R (h ++ ext) as

theorem Opn.weaken {W : World} {cs : List Value} {R R' : Say} (o : Opn W cs R) (hr : ∀ h as, as.length = cs.length → R h as → R' h as) : Opn W cs R' :=
  fun μ h H => let ⟨μ', ext, as, H', hE, hc, hk, hR⟩ := o μ h H
  ⟨μ', ext, as, H', hE, hc, hk, hr _ _ hc.1 hR⟩

theorem Opn.raw {W : World} {v : Value} {R : Say} (h1 : v.oneCell' = true) (hr : ∀ h, R h [.raw v]) : Opn W [v] R :=
  fun μ h H => ⟨μ, [], [.raw v], by rw [List.append_nil]; exact ⟨H, Ext.refl _ _, ⟨rfl, fun i c x hi hx => by
    cases i with
    | zero => simp at hi hx; subst hi; subst hx; exact ⟨.raw _, h1⟩
    | succ i => simp at hi⟩, rfl, hr _⟩⟩

theorem Opn.nil {W : World} : Opn W [] fun _ as => as = [] :=
  fun μ h H => ⟨μ, [], [], by rw [List.append_nil]; exact ⟨H, Ext.refl _ _, ⟨rfl, fun i c x hi hx => by simp at hi⟩, rfl, rfl⟩⟩

theorem Opn.append {W : World} {cs ds : List Value} {R R' : Say} (o : Opn W cs R) (m : R.Mono) (o' : Opn W ds R') :
    Opn W (cs ++ ds) fun h as => ∃ a b, as = a ++ b ∧ a.length = cs.length ∧ b.length = ds.length ∧ R h a ∧ R' h b := by
  intro μ h H
  obtain ⟨μ1, e1, as, H1, hE1, hc1, hk1, hR1⟩ := o μ h H
  obtain ⟨μ2, e2, bs, H2, hE2, hc2, hk2, hR2⟩ := o' μ1 (h ++ e1) H1
  refine ⟨μ2, e1 ++ e2, as ++ bs, ?_⟩
  rw [← List.append_assoc]
  have hk1' := okAll_mono (Heap.le_append _ e2) _ hk1
  exact ⟨H2, hE1.trans (Heap.le_append _ _) hE2, crs_append (hE2.crs hk1 hc1) hc2, okAll_append hk1' hk2, as, bs, rfl, hc1.1, hc2.1, m _ _ _ hR1, hR2⟩

/-- the cells of n elements, each of es cells -/
def Each (es n : Nat) (R : Nat → Say) : Say := fun h as => ∀ i, i < n → R i h ((as.drop (i * es)).take es)

theorem Each.mono {es n : Nat} {R : Nat → Say} (m : ∀ i, (R i).Mono) : (Each es n R).Mono := fun h ext as ha i hi => m i _ _ _ (ha i hi)

theorem Opn.each {W : World} {es : Nat} {R : Nat → Say} (m : ∀ i, (R i).Mono) {els : Nat → List Value} : ∀ n, (∀ i, i < n → (els i).length = es ∧ Opn W (els i) (R i)) → Opn W ((List.range n).flatMap els) (Each es n R)
  | 0, _ => Opn.nil.weaken fun h as _ _ i hi => absurd hi (Nat.not_lt_zero _)
  | n + 1, ho => by
    have ih := Opn.each m n fun i hi => ho i (by omega)
    rw [List.range_succ, List.flatMap_append]
    refine (ih.append (Each.mono m) (ds := [n].flatMap els) (R' := R n) (by simpa using (ho n (by omega)).2)).weaken fun h as _ ⟨a, b, hab, hla, hlb, ha, hb⟩ i hi => ?_
    have hlen : ∀ k, k ≤ n → ((List.range k).flatMap els).length = k * es := by
      intro k
      induction k with
      | zero => intro _; simp
      | succ k ihk =>
        intro hk
        rw [List.range_succ, List.flatMap_append, List.length_append, ihk (by omega)]
        simp [(ho k (by omega)).1, Nat.add_mul]
    rw [hlen n (Nat.le_refl _)] at hla
    have hlb' : b.length = es := by rw [hlb]; simpa using (ho n (by omega)).1
    subst hab
    rcases Nat.lt_or_ge i n with h' | h'
    · have h1 : (i + 1) * es ≤ n * es := Nat.mul_le_mul_right _ h'
      rw [Nat.add_mul, Nat.one_mul] at h1
      rw [List.drop_append_of_le_length (by omega), List.take_append_of_le_length (by simp; omega)]
      exact ha i h'
    · obtain rfl : i = n := by omega
      rw [List.drop_append, List.drop_of_length_le (by omega), hla, Nat.sub_self]
      simp only [List.drop_zero, List.nil_append]
      rw [List.take_of_length_le (by omega)]
      exact hb

/-- a slice whose elements say R -/
def SaySl (es : Nat) (R : Nat → Say) : Say := fun h as => ∃ id cells len, as = [.sub id (len * es) es 0 len] ∧ rd h id (len * es) = some cells ∧ len ≤ maxLen ∧ Each es len R h cells

theorem SaySl.mono {es : Nat} {R : Nat → Say} (m : ∀ i, (R i).Mono) : (SaySl es R).Mono := by
  intro h ext as ⟨id, cells, len, h1, h2, h3, h4⟩
  exact ⟨id, cells, len, h1, rd_old h2 ext, h3, Each.mono m _ _ _ h4⟩

theorem rd_last {h : Heap} {cells : List AV} : rd (h ++ [⟨.ro, cells⟩]) h.length cells.length = some cells := by
  rw [rd_new0, rd_ro0, if_pos rfl]

theorem Opn.slice {W : World} {es : Nat} {R : Nat → Say} (m : ∀ i, (R i).Mono) {els : Nat → List Value} {a : Option Addr} {len cap : Nat} (hlen : len ≤ maxLen) (ho : ∀ i, i < len → (els i).length = es ∧ Opn W (els i) (R i))
    (hcell : len = 0 ∨ ∃ b o, a = some ⟨b, o, none⟩ ∧ b < W.heap.size ∧ ∀ (j : Nat) x, ((List.range len).flatMap els)[j]? = some x → W.cell? ⟨b, o + j, none⟩ = some x) :
    Opn W [.slice a len cap] (SaySl es R) := by
  intro μ h H
  obtain ⟨μ1, e1, as, H1, hE1, hc1, hk1, hR1⟩ := Opn.each m len ho μ h H
  have hl : as.length = len * es := by
    rw [hc1.1]
    have : ∀ k, k ≤ len → ((List.range k).flatMap els).length = k * es := by
      intro k
      induction k with
      | zero => intro _; simp
      | succ k ihk =>
        intro hk
        rw [List.range_succ, List.flatMap_append, List.length_append, ihk (by omega)]
        simp [(ho k (by omega)).1, Nat.add_mul]
    exact this len (Nat.le_refl _)
  have key : ∃ l : Loc, (∀ (j : Nat) c, as[j]? = some c → ∃ b o x, l.base = some (b, o) ∧ b < W.heap.size ∧ W.cell? ⟨b, o + j, none⟩ = some x ∧ CR μ1 (h ++ e1) c x) ∧
      (len = 0 ∨ ∃ b o, l.base = some (b, o) ∧ a = some ⟨b, o, none⟩) := by
    rcases hcell with h0 | ⟨b, o, ha, hb, hce⟩
    · refine ⟨⟨none, 0⟩, fun j c hj => ?_, .inl h0⟩
      have := lt_len hj
      rw [hl, h0] at this
      omega
    · refine ⟨⟨some (b, o), cap⟩, fun j c hj => ?_, .inr ⟨b, o, rfl, ha⟩⟩
      have hj' : j < ((List.range len).flatMap els).length := hc1.1 ▸ lt_len hj
      exact ⟨b, o, _, rfl, hb, hce j _ (List.getElem?_eq_getElem hj'), hc1.2 j c _ hj (List.getElem?_eq_getElem hj')⟩
  obtain ⟨l, hro, hbase⟩ := key
  obtain ⟨H2, hE2⟩ := H1.addRo hk1 hro
  refine ⟨Mu.put μ1 (h ++ e1).length l, e1 ++ [⟨.ro, as⟩], [.sub (h ++ e1).length (len * es) es 0 len], ?_⟩
  rw [← List.append_assoc]
  have hrd : rd ((h ++ e1) ++ [⟨.ro, as⟩]) (h ++ e1).length (len * es) = some as := by rw [← hl]; exact rd_last
  refine ⟨H2, hE1.trans (Heap.le_append _ _) hE2, ⟨rfl, fun i c x hi hx => ?_⟩, ?_, (h ++ e1).length, as, len, rfl, hrd, hlen, Each.mono m _ _ _ hR1⟩
  · cases i with
    | succ i => simp at hi
    | zero =>
      simp at hi hx
      subst hi; subst hx
      refine ⟨.sub rfl fun _ => ⟨a, cap, rfl, ?_⟩, rfl⟩
      rcases hbase with h0 | ⟨b, o, hb, ha⟩
      · exact .inl h0
      · exact .inr ⟨b, o, by simpa [Mu.put] using hb, by simpa using ha⟩
  · have : refOk ((h ++ e1) ++ [⟨.ro, as⟩]) (h ++ e1).length (len * es) = true := by
      unfold refOk csz
      rw [get_new0]
      simp [hl]
    simp only [okAll, AV.ok, Bool.and_true]
    exact this

end Go.Ab
