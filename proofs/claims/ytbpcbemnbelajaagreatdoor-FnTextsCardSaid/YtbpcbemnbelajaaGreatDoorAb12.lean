/- What an operation's outcome hangs on. Plain library text, no statement. -/
import Derived.Test.YtbpcbemnbelajaaGreatDoorAb11
namespace Go.Ab
open Go Go.RowKit

section
variable {P : Program} {h h' : Heap} {n : Nat} {s s' : S}

def Agree (s s' : S) (o : Op) : Prop := ∀ x ∈ o.operands, ev s' x = ev s x

/-- the rows that the operation looks at are as they were -/
def KeepO (s : S) (o : Op) (h h' : Heap) : Prop := still o = true ∨ ∀ x ∈ o.operands, KeepR (ev s x) h h'

theorem KeepR.of_sub {c : AV} (hs : ∀ (id : Nat) b, h[id]? = some b → h'[id]? = some b) : KeepR c h h' := by
  cases c <;> simp only [KeepR] <;> exact hs _
theorem rd_keep {id st cells} (hk : ∀ b, h[id]? = some b → h'[id]? = some b) (hr : rd h id st = some cells) : rd h' id st = some cells := by
  obtain ⟨hl, hb | ⟨e, es, hb⟩, _⟩ := rd_spec hr
  · simp [rd, hk _ hb, hl]
  · simp [rd, hk _ hb, hl]
theorem sz_keep {id st} (hk : ∀ b, h[id]? = some b → h'[id]? = some b) (hr : sz h id = some st) : sz h' id = some st := by
  obtain ⟨b, hb, hl, hz⟩ := sz_some hr
  simp [sz, hk _ hb, hz]
theorem KeepO.at {s : S} {o : Op} (hk : KeepO s o h h') (hn : still o = false) {x : Operand} (hx : x ∈ o.operands) {c : AV} (he : ev s x = c) : KeepR c h h' := by
  rcases hk with hk | hk
  · rw [hn] at hk; cases hk
  · rw [← he]; exact hk x hx

theorem rd_sub (hs : h.sub h') {id st cells} (hr : rd h id st = some cells) : rd h' id st = some cells := by
  obtain ⟨hl, hb | ⟨e, es, hb⟩, _⟩ := rd_spec hr
  · simp [rd, hs _ _ hb, hl]
  · simp [rd, hs _ _ hb, hl]
theorem sz_sub (hs : h.sub h') {id st} (hr : sz h id = some st) : sz h' id = some st := by
  obtain ⟨b, hb, hl, hz⟩ := sz_some hr
  simp [sz, hs _ _ hb, hz]

theorem binI_out {op k a b} {K : AV → Prop} (hb : binI op k a b K) : ∃ c, K c ∧ ∀ K' : AV → Prop, K' c → binI op k a b K' := by
  cases op <;> simp only [binI] at hb ⊢ <;> first
    | exact hb.elim
    | exact ⟨_, hb, fun _ h => h⟩
    | exact ⟨_, hb.2, fun _ h => ⟨hb.1, h⟩⟩
theorem binS_out {op a b} {K : AV → Prop} (hb : binS op a b K) : ∃ c, K c ∧ ∀ K' : AV → Prop, K' c → binS op a b K' := by
  cases op <;> simp only [binS] at hb ⊢ <;> first
    | exact hb.elim
    | exact ⟨_, hb, fun _ h => h⟩
    | exact ⟨_, hb.2, fun _ h => ⟨hb.1, h⟩⟩
theorem binP_out {t op x y} {K : AV → Prop} (hb : binP P t op x y K) : ∃ c, K c ∧ ∀ K' : AV → Prop, K' c → binP P t op x y K' := by
  unfold binP at hb
  split at hb
  · obtain ⟨c, h1, h2⟩ := binI_out hb.2
    exact ⟨c, h1, fun K' hk => ⟨hb.1, h2 K' hk⟩⟩
  · exact binS_out hb
  · split at hb
    · exact ⟨_, hb.2, fun K' hk => ⟨hb.1, hk⟩⟩
    · exact ⟨_, hb.2, fun K' hk => ⟨hb.1, hk⟩⟩
    · exact hb.elim
  · exact hb.elim
theorem idxP_out {es x i} {K : AV → Prop} (hb : idxP es x i K) : ∃ c, K c ∧ ∀ K' : AV → Prop, K' c → idxP es x i K' := by
  unfold idxP at hb
  split at hb
  · exact ⟨_, hb.2.2.2, fun K' hk => ⟨hb.1, hb.2.1, hb.2.2.1, hk⟩⟩
  · exact ⟨_, hb.2.2.2, fun K' hk => ⟨hb.1, hb.2.1, hb.2.2.1, hk⟩⟩
  · exact hb.elim

theorem wr_keep {id st} {r : TypeId × Nat × List AV} (hk : ∀ b, h[id]? = some b → h'[id]? = some b) (hr : wr h id st = some r) : wr h' id st = some r := by
  obtain ⟨e, es, cells⟩ := r
  obtain ⟨hl, hb, _⟩ := wr_spec hr
  simp [wr, hk _ hb, hl]
theorem src_keep {size : Nat} {c : AV} {r : Nat × List AV} (hk : KeepR c h h') (hs : srcOf h size c = some r) : srcOf h' size c = some r := by
  unfold srcOf at hs
  split at hs
  · rename_i id es m
    split at hs
    · rename_i he
      split at hs
      · rename_i cells hr
        rw [srcOf, if_pos he, rd_keep hk hr]; exact hs
      · cases hs
    · cases hs
  · rename_i id st es lo m
    split at hs
    · rename_i he
      split at hs
      · rename_i cells hr
        rw [srcOf, if_pos he, rd_keep hk hr]; exact hs
      · cases hs
    · cases hs
  · exact hs
  · cases hs
theorem strP_out {src dst : TypeId} {c : AV} {K : AV → Heap → Prop} (hp : strP P src dst h K (srcOf h 1 c)) : ∃ d, K d h ∧ ∀ h', KeepR c h h' → ∀ K' : AV → Heap → Prop, K' d h' → strP P src dst h' K' (srcOf h' 1 c) := by
  unfold strP at hp
  split at hp
  · rename_i m news hsrc
    split at hp
    · rename_i bs hbs
      refine ⟨_, hp.2.2, fun h' hk K' hd => ?_⟩
      rw [src_keep hk hsrc]
      simp only [strP, hbs]
      exact ⟨hp.1, hp.2.1, hd⟩
    · exact hp.elim
  · exact hp.elim
theorem bndP_out {m : Nat} {x y : Option AV} {R : Nat → Nat → Prop} (hp : bndP m x y R) : ∃ l u, R l u ∧ ∀ R' : Nat → Nat → Prop, R' l u → bndP m x y R' := by
  unfold bndP at hp
  split at hp
  · exact ⟨_, _, hp, fun R' hr => hr⟩
  · exact ⟨_, _, hp.2.2, fun R' hr => ⟨hp.1, hp.2.1, hr⟩⟩
  · exact ⟨_, _, hp.2.2, fun R' hr => ⟨hp.1, hp.2.1, hr⟩⟩
  · exact ⟨_, _, hp.2.2.2, fun R' hr => ⟨hp.1, hp.2.1, hp.2.2.1, hr⟩⟩
  · exact hp.elim

/-- A calm operation: one value, whatever else has come. -/
theorem calm_out {o : Op} {K : AV → Heap → Prop} (hc : calm o = true) (hp : opP P s h o K) :
    ∃ c, K c h ∧ ∀ s' h', Agree s s' o → KeepO s o h h' → ∀ K' : AV → Heap → Prop, K' c h' → opP P s' h' o K' := by
  cases o <;> simp only [calm, Bool.false_eq_true] at hc <;> simp only [opP] at hp
  case move x =>
    exact ⟨_, hp, fun s' h' ha hs K' hk => by simp only [opP]; rw [ha x (by simp [Op.operands])]; exact hk⟩
  case pick c x y =>
    split at hp
    · rename_i t ht
      refine ⟨_, hp, fun s' h' ha hs K' hk => ?_⟩
      simp only [opP]
      rw [ha c (by simp [Op.operands]), ha x (by simp [Op.operands]), ha y (by simp [Op.operands]), ht]
      exact hk
    · exact hp.elim
  case load T x =>
    split at hp
    · rename_i id st off y hx hy
      split at hp
      · rename_i cells hr
        cases hagg : y.agg with
        | true =>
          simp only [hagg, if_true] at hp
          refine ⟨_, hp.2, fun s' h' ha hs K' hk => ?_⟩
          simp only [opP]
          rw [ha x (by simp [Op.operands]), hx, hy]
          simp only [rd_keep (hs.at rfl (by simp [Op.operands]) hx) hr, hagg, if_true]
          exact ⟨hp.1, hk⟩
        | false =>
          simp only [hagg, Bool.false_eq_true, if_false] at hp
          split at hp
          · rename_i c hc'
            refine ⟨_, hp, fun s' h' ha hs K' hk => ?_⟩
            simp only [opP]
            rw [ha x (by simp [Op.operands]), hx, hy]
            simp only [rd_keep (hs.at rfl (by simp [Op.operands]) hx) hr, hagg, Bool.false_eq_true, if_false, hc']
            exact hk
          · exact hp.elim
      · exact hp.elim
    · exact hp.elim
  case nilCheck x =>
    split at hp
    · rename_i id st off hx
      refine ⟨_, hp.2.2, fun s' h' ha hs K' hk => ?_⟩
      simp only [opP]
      rw [ha x (by simp [Op.operands]), hx]
      have := sz_keep (hs.at rfl (by simp [Op.operands]) hx) hp.2.1
      exact ⟨by simp [this], this, hk⟩
    · rename_i f cs hx
      refine ⟨_, hp, fun s' h' ha hs K' hk => ?_⟩
      simp only [opP]
      rw [ha x (by simp [Op.operands]), hx]
      exact hk
    · exact hp.elim
  case binOp op t x y ty =>
    obtain ⟨c, h1, h2⟩ := binP_out hp
    refine ⟨c, h1, fun s' h' ha hs K' hk => ?_⟩
    simp only [opP]
    rw [ha x (by simp [Op.operands]), ha y (by simp [Op.operands])]
    exact h2 _ hk
  case unOp op t x =>
    split at hp
    · rename_i b hx
      refine ⟨_, hp, fun s' h' ha hs K' hk => ?_⟩
      simp only [opP]
      rw [ha x (by simp [Op.operands]), hx]
      exact hk
    · rename_i k m hx
      refine ⟨_, hp, fun s' h' ha hs K' hk => ?_⟩
      simp only [opP]
      rw [ha x (by simp [Op.operands]), hx]
      exact hk
    · exact hp.elim
  case convert src dst x =>
    split at hp
    · rename_i k m hx
      split at hp
      · rename_i k1 k2 h1 h2
        refine ⟨_, hp, fun s' h' ha hs K' hk => ?_⟩
        simp only [opP]
        rw [ha x (by simp [Op.operands]), hx]
        simp only [h1, h2]
        exact hk
      · exact hp.elim
    · rename_i hx
      obtain ⟨d, hd, hout⟩ := strP_out hp
      refine ⟨d, hd, fun s' h' ha hs K' hk => ?_⟩
      simp only [opP]
      rw [ha x (by simp [Op.operands]), hx]
      exact hout h' (hs.at rfl (by simp [Op.operands]) hx) K' hk
    · rename_i hx
      obtain ⟨d, hd, hout⟩ := strP_out hp
      refine ⟨d, hd, fun s' h' ha hs K' hk => ?_⟩
      simp only [opP]
      rw [ha x (by simp [Op.operands]), hx]
      exact hout h' (hs.at rfl (by simp [Op.operands]) hx) K' hk
    · exact hp.elim
  case slice t x lo hi mx =>
    obtain ⟨rfl, hp⟩ := hp
    have hag : ∀ s', Agree s s' (.slice t x lo hi none) → ev s' x = ev s x ∧ lo.map (ev s') = lo.map (ev s) ∧ hi.map (ev s') = hi.map (ev s) := by
      intro s' ha
      refine ⟨ha x (by simp [Op.operands]), ?_, ?_⟩
      · cases lo with
        | none => rfl
        | some y => simp [ha y (by simp [Op.operands])]
      · cases hi with
        | none => rfl
        | some y => simp [ha y (by simp [Op.operands])]
    split at hp
    · rename_i b hx
      obtain ⟨hstr, hp⟩ := hp
      split at hp
      · rename_i h1 h2
        refine ⟨_, hp, fun s' h' ha hs K' hk => ?_⟩
        obtain ⟨e1, e2, e3⟩ := hag s' ha
        simp only [opP, e1, hx, e2, e3, h1, h2, true_and]
        exact ⟨hstr, hk⟩
      · rename_i h1 h2
        refine ⟨_, hp.2.2, fun s' h' ha hs K' hk => ?_⟩
        obtain ⟨e1, e2, e3⟩ := hag s' ha
        simp only [opP, e1, hx, e2, e3, h1, h2, true_and]
        exact ⟨hstr, hp.1, hp.2.1, hk⟩
      · rename_i h1 h2
        refine ⟨_, hp.2.2, fun s' h' ha hs K' hk => ?_⟩
        obtain ⟨e1, e2, e3⟩ := hag s' ha
        simp only [opP, e1, hx, e2, e3, h1, h2, true_and]
        exact ⟨hstr, hp.1, hp.2.1, hk⟩
      · rename_i h1 h2
        refine ⟨_, hp.2.2.2, fun s' h' ha hs K' hk => ?_⟩
        obtain ⟨e1, e2, e3⟩ := hag s' ha
        simp only [opP, e1, hx, e2, e3, h1, h2, true_and]
        exact ⟨hstr, hp.1, hp.2.1, hp.2.2.1, hk⟩
      · exact hp.elim
    · rename_i id es len hx
      split at hp <;> try exact hp.elim
      rename_i e he
      split at hp <;> try exact hp.elim
      rename_i y hy
      obtain ⟨h1, hw, hp⟩ := hp
      obtain ⟨r, hw, hes⟩ := Option.map_eq_some_iff.1 hw
      obtain ⟨l, u, hr, hout⟩ := bndP_out hp
      refine ⟨_, hr, fun s' h' ha hs K' hk => ?_⟩
      obtain ⟨e1, e2, e3⟩ := hag s' ha
      simp only [opP, e1, hx, e2, e3, he, hy, true_and]
      refine ⟨h1, ?_, hout _ hk⟩
      rw [wr_keep (hs.at rfl (by simp [Op.operands]) hx) hw]
      simpa using hes
    · exact hp.elim
  case fieldAddr t x f =>
    split at hp
    · rename_i id st off o m hx hf
      refine ⟨_, hp.2, fun s' h' ha hs K' hk => ?_⟩
      simp only [opP]
      rw [ha x (by simp [Op.operands]), hx, hf]
      exact ⟨sz_keep (hs.at rfl (by simp [Op.operands]) hx) hp.1, hk⟩
    · exact hp.elim
  case indexAddr t x i =>
    split at hp
    · rename_i e he
      split at hp
      · rename_i y k m hy hi
        unfold idxP at hp
        split at hp
        · rename_i id es len hxx
          obtain ⟨h1, h2, h3, h4, hk⟩ := hp
          refine ⟨_, hk, fun s' h' ha hs K' hk => ?_⟩
          simp only [opP, he, hy]
          rw [ha x (by simp [Op.operands]), ha i (by simp [Op.operands]), hi, hxx]
          exact ⟨h1, h2, h3, sz_keep (hs.at rfl (by simp [Op.operands]) hxx) h4, hk⟩
        · rename_i id st es lo len hxx
          obtain ⟨h1, h2, h3, h4, hk⟩ := hp
          refine ⟨_, hk, fun s' h' ha hs K' hk => ?_⟩
          simp only [opP, he, hy]
          rw [ha x (by simp [Op.operands]), ha i (by simp [Op.operands]), hi, hxx]
          exact ⟨h1, h2, h3, sz_keep (hs.at rfl (by simp [Op.operands]) hxx) h4, hk⟩
        · exact hp.elim
      · exact hp.elim
    · exact hp.elim
  case index t x i =>
    split at hp
    · rename_i b k m hx hi
      refine ⟨_, hp.2.2.2, fun s' h' ha hs K' hk => ?_⟩
      simp only [opP]
      rw [ha x (by simp [Op.operands]), ha i (by simp [Op.operands]), hx, hi]
      exact ⟨hp.1, hp.2.1, hp.2.2.1, hk⟩
    · exact hp.elim
  case extract x i =>
    split at hp
    · rename_i cs hx
      split at hp
      · rename_i c hcc
        refine ⟨_, hp, fun s' h' ha hs K' hk => ?_⟩
        simp only [opP]
        rw [ha x (by simp [Op.operands]), hx]
        simp only [hcc]
        exact hk
      · exact hp.elim
    · exact hp.elim
  case call c =>
    obtain ⟨callee, args, argTypes⟩ := c
    simp only at hp hc
    have hmem : ∀ s', Agree s s' (.call ⟨callee, args, argTypes⟩) → ∀ x ∈ args.toList, ev s' x = ev s x := fun s' ha x hx => ha x (by simp [Op.operands, Call.operands]; right; simpa using hx)
    split at hp <;> try exact hp.elim
    · split at hp <;> try exact hp.elim
      rename_i x t hx ht
      have hxs : ∀ s', Agree s s' (.call ⟨.builtin .len, args, argTypes⟩) → ev s' x = ev s x := fun s' ha => hmem s' ha x (by simp [hx])
      have hmx : x ∈ (Op.call ⟨.builtin .len, args, argTypes⟩).operands := by
        have : x ∈ args.toList := by simp [hx]
        simpa [Op.operands, Call.operands] using this
      split at hp <;> try exact hp.elim
      · rename_i b hxb
        refine ⟨_, hp.2, fun s' h' ha hs K' hk => ?_⟩
        simp only [opP, hx, ht, hxs s' ha, hxb]
        exact ⟨hp.1, hk⟩
      · rename_i id es len hxb
        refine ⟨_, hp.2.2, fun s' h' ha hs K' hk => ?_⟩
        simp only [opP, hx, ht, hxs s' ha, hxb]
        exact ⟨hp.1, sz_keep (hs.at rfl hmx hxb) hp.2.1, hk⟩
      · rename_i id st es lo len hxb
        refine ⟨_, hp.2.2, fun s' h' ha hs K' hk => ?_⟩
        simp only [opP, hx, ht, hxs s' ha, hxb]
        exact ⟨hp.1, sz_keep (hs.at rfl hmx hxb) hp.2.1, hk⟩
      · rename_i hxb
        refine ⟨_, hp.2, fun s' h' ha hs K' hk => ?_⟩
        simp only [opP, hx, ht, hxs s' ha, hxb]
        exact ⟨hp.1, hk⟩
    · simp at hc
    · split at hp <;> try exact hp.elim
      rename_i x y hx
      split at hp <;> try exact hp.elim
      rename_i k p k' q hxe hye
      refine ⟨_, hp, fun s' h' ha hs K' hk => ?_⟩
      simp only [opP, hx, hmem s' ha x (by simp [hx]), hmem s' ha y (by simp [hx]), hxe, hye]
      exact hk
    · split at hp <;> try exact hp.elim
      rename_i x y hx
      split at hp <;> try exact hp.elim
      rename_i k p k' q hxe hye
      refine ⟨_, hp, fun s' h' ha hs K' hk => ?_⟩
      simp only [opP, hx, hmem s' ha x (by simp [hx]), hmem s' ha y (by simp [hx]), hxe, hye]
      exact hk

theorem appP_out {e ty x m news} {K : AV → Heap → Prop} (hb : appP h e ty x m news K) : ∃ c h', K c h' ∧ ∀ K' : AV → Heap → Prop, K' c h' → appP h e ty x m news K' := by
  unfold appP at hb
  split at hb
  · obtain ⟨h1, h2, h3, hb⟩ := hb
    split at hb
    · rename_i e' es' cells hw
      refine ⟨_, _, hb.2.2, fun K' hk => ?_⟩
      simp only [appP, hw]
      exact ⟨h1, h2, h3, hb.1, hb.2.1, hk⟩
    · exact hb.elim
  · exact ⟨_, _, hb.2.2, fun K' hk => ⟨hb.1, hb.2.1, hk⟩⟩
  · exact hb.elim

theorem parts_agree {ps : List (Nat × Operand)} (ha : ∀ p ∈ ps, ev s' p.2 = ev s p.2) : parts s' ps = parts s ps ∧ (ps.all fun p => ((ev s' p.2).cells.all AV.one)) = (ps.all fun p => ((ev s p.2).cells.all AV.one)) := by
  induction ps with
  | nil => exact ⟨rfl, rfl⟩
  | cons p ps ih =>
    obtain ⟨h1, h2⟩ := ih fun q hq => ha q (List.mem_cons_of_mem _ hq)
    have h0 := ha p List.mem_cons_self
    refine ⟨?_, by simp only [List.all_cons, h0, h2]⟩
    simp only [parts, List.map_cons, h0]
    congr 1

/-- Any operation: its outcome hangs on its operands alone. -/
theorem op_out {o : Op} {K : AV → Heap → Prop} (hp : opP P s h o K) :
    ∃ c h', K c h' ∧ (mild o = true → h.sub h') ∧ ∀ s', Agree s s' o → ∀ K' : AV → Heap → Prop, K' c h' → opP P s' h o K' := by
  by_cases hc : calm o = true
  · obtain ⟨c, h1, h2⟩ := calm_out hc hp
    exact ⟨c, h, h1, fun _ => Heap.sub_refl h, fun s' ha K' hk => h2 s' h ha (.inr fun x _ => KeepR.of_sub fun _ _ hb => hb) K' hk⟩
  · cases o <;> simp only [calm, not_true_eq_false] at hc <;> simp only [opP] at hp <;> try exact hp.elim
    case assign x =>
      exact ⟨_, _, hp, fun _ => Heap.sub_refl h, fun s' ha K' hk => by simp only [opP]; rw [ha x (by simp [Op.operands])]; exact hk⟩
    case alloc T =>
      split at hp
      · rename_i y hy
        exact ⟨_, _, hp, fun _ => Heap.sub_append _ _, fun s' ha K' hk => by simp only [opP, hy]; exact hk⟩
      · exact hp.elim
    case box T x =>
      split at hp
      · rename_i y hy
        refine ⟨_, _, hp.2.2, fun _ => Heap.sub_append _ _, fun s' ha K' hk => ?_⟩
        simp only [opP, hy]
        rw [ha x (by simp [Op.operands])]
        exact ⟨hp.1, hp.2.1, hk⟩
      · exact hp.elim
    case build t ps =>
      obtain ⟨hfl, hp⟩ := hp
      split at hp
      · rename_i y hy
        obtain ⟨hone, hp⟩ := hp
        split at hp
        · rename_i cells hf
          refine ⟨_, _, hp, fun _ => Heap.sub_refl h, fun s' ha K' hk => ?_⟩
          obtain ⟨e1, e2⟩ := parts_agree (s := s) (s' := s') (ps := ps.toList) fun p hm => ha p.2 (by simp [Op.operands]; exact ⟨p.1, by simpa using hm⟩)
          simp only [opP, hy, e1, e2, hf]
          exact ⟨hfl, hone, hk⟩
        · exact hp.elim
      · exact hp.elim
    case buildSlice t len ps =>
      split at hp
      · rename_i e he
        split at hp
        · rename_i y hy
          obtain ⟨hl, hone, hp⟩ := hp
          split at hp
          · rename_i cells hf
            refine ⟨_, _, hp, fun _ => Heap.sub_append _ _, fun s' ha K' hk => ?_⟩
            obtain ⟨e1, e2⟩ := parts_agree (s := s) (s' := s') (ps := ps.toList) fun p hm => ha p.2 (by simp [Op.operands]; exact ⟨p.1, by simpa using hm⟩)
            simp only [opP, he, hy, e1, e2, hf]
            exact ⟨hl, hone, hk⟩
          · exact hp.elim
        · exact hp.elim
      · exact hp.elim
    case store T x v =>
      split at hp
      · rename_i id st off y hx hy
        split at hp
        · rename_i e es cells hr
          refine ⟨_, _, hp.2.2.2, fun hm => by simp [mild] at hm, fun s' ha K' hk => ?_⟩
          simp only [opP]
          rw [ha x (by simp [Op.operands]), ha v (by simp [Op.operands]), hx, hy]
          simp only [hr]
          exact ⟨hp.1, hp.2.1, hp.2.2.1, hk⟩
        · exact hp.elim
      · exact hp.elim
    case makeFunc fn first captured =>
      obtain ⟨rfl, hk⟩ := hp
      refine ⟨_, _, hk, fun _ => Heap.sub_refl h, fun s' ha K' hk => ?_⟩
      simp only [opP]
      have : captured.toList.map (ev s') = captured.toList.map (ev s) := List.map_congr_left fun x hx => ha x (by simp [Op.operands]; simpa using hx)
      rw [this]
      exact ⟨trivial, hk⟩
    case makeSlice t l c =>
      split at hp
      · rename_i k m k' m' e hel hec he
        split at hp
        · rename_i y hy
          obtain ⟨h1, h2, h3, h4, hk⟩ := hp
          refine ⟨_, _, hk, fun _ => Heap.sub_append _ _, fun s' ha K' hk => ?_⟩
          simp only [opP]
          rw [ha l (by simp [Op.operands]), ha c (by simp [Op.operands]), hel, hec, he]
          simp only [hy]
          exact ⟨h1, h2, h3, h4, hk⟩
        · exact hp.elim
      · exact hp.elim
    case call c =>
      obtain ⟨callee, args, argTypes⟩ := c
      simp only at hp hc
      split at hp <;> try exact hp.elim
      · simp at hc
      · have hmem : ∀ s', Agree s s' (.call ⟨.builtin .append, args, argTypes⟩) → ∀ x ∈ args.toList, ev s' x = ev s x := fun s' ha x hx => ha x (by simp [Op.operands, Call.operands]; simpa using hx)
        split at hp <;> try exact hp.elim
        rename_i x y t t' hx ht
        obtain ⟨h1, hp⟩ := hp
        split at hp <;> try exact hp.elim
        rename_i e he
        split at hp <;> try exact hp.elim
        rename_i ty hty
        split at hp <;> try exact hp.elim
        rename_i m news hsrc
        obtain ⟨c, h', hk, hout⟩ := appP_out hp
        refine ⟨c, h', hk, fun hm => by simp [mild] at hm, fun s' ha K' hk => ?_⟩
        simp only [opP, hx, ht, hmem s' ha x (by simp [hx]), hmem s' ha y (by simp [hx]), he, hty, hsrc]
        exact ⟨h1, hout K' hk⟩
      · simp at hc
      · simp at hc

theorem keep_set {id : Nat} {b : Blk} {l : List AV} {c : AV} (hl : ApartL id l) (hc : c ∈ l) : KeepR c h (List.set h id b) := by
  have key : ∀ id', id' ≠ id → ∀ b', h[id']? = some b' → (List.set h id b)[id']? = some b' := fun id' hne b' hb => by
    rw [List.getElem?_set_ne (fun e => hne e.symm)]; exact hb
  induction l with
  | nil => cases hc
  | cons d l ih =>
    rcases List.mem_cons.1 hc with rfl | hc
    · cases c <;> simp only [KeepR] <;> (simp only [ApartL] at hl; exact key _ hl.1)
    · refine ih ?_ hc
      cases d <;> simp only [ApartL] at hl <;> first | exact hl | exact hl.2

/-- What turns a row keeps those that are apart from it. -/
theorem op_keep {o : Op} {f : List Operand} {K : AV → Heap → Prop} (hm : mild o = false) (ha : ApartF s o f) (hp : opP P s h o K) : opP P s h o (fun c h' => (∀ x ∈ f, KeepR (ev s x) h h') ∧ K c h') := by
  cases o <;> simp only [mild] at hm <;> try cases hm
  case store T x v =>
    simp only [opP] at hp ⊢
    simp only [ApartF] at ha
    split at hp
    · rename_i id st off y hx hy
      rw [hx] at ha
      simp only [ApartV] at ha
      split at hp
      · rename_i e es cells hr
        exact ⟨hp.1, hp.2.1, hp.2.2.1, fun z hz => keep_set ha (List.mem_map_of_mem hz), hp.2.2.2⟩
      · exact hp.elim
    · exact hp.elim
  case call c =>
    obtain ⟨callee, args, argTypes⟩ := c
    cases callee <;> first | (simp only [opP] at hp; done) | skip
    rename_i bt
    cases bt <;> simp only at hm <;> try cases hm
    simp only [opP] at hp ⊢
    simp only [ApartF] at ha
    split at hp
    · rename_i x y t t' hx ht
      simp only [hx] at ha
      refine ⟨hp.1, ?_⟩
      have hp := hp.2
      split at hp
      · rename_i e he
        split at hp
        · rename_i ty hty
          split at hp
          · rename_i m news hsrc
            unfold appP at hp ⊢
            split at hp
            · rename_i id es q hxx
              rw [hxx] at ha
              simp only [ApartV] at ha
              refine ⟨hp.1, hp.2.1, hp.2.2.1, ?_⟩
              have hp := hp.2.2.2
              split at hp
              · exact ⟨hp.1, hp.2.1, fun z hz => keep_set ha (List.mem_map_of_mem hz), hp.2.2⟩
              · exact hp.elim
            · exact ⟨hp.1, hp.2.1, fun z hz => KeepR.of_sub (Heap.sub_append _ _), hp.2.2⟩
            · exact hp.elim
          · exact hp.elim
        · exact hp.elim
      · exact hp.elim
    · exact hp.elim
  all_goals exact hp.elim

end
end Go.Ab
