/- Regions whose order is drawn: the text's order stands for all. Plain library text, no statement. -/
import Derived.Test.YtdnbhknejalibaaAb12
namespace Go.Ab
open Go Go.RowKit

def updO (s : S) (d : Option Nat) (c : AV) : S := match d with | some t => upd s t c | none => s

section
variable {P : Program} {n : Nat} {ops : Array Oper}

theorem putK_iff {d : Option Nat} {s : S} {K : S → Heap → Prop} {c : AV} {h : Heap} : putK n d s K c h ↔ (∀ t, d = some t → t < n) ∧ K (updO s d c) h := by
  cases d with
  | none => simp [putK, updO]
  | some t => simp [putK, updO]

theorem agree_updO {s : S} {d : Option Nat} {c : AV} {o : Oper} (hd : ∀ t, d = some t → t ∉ o.looksAt ops) : Agree s (updO s d c) o.op := by
  intro x hx
  cases d with
  | none => rfl
  | some t =>
    cases x with
    | tmp u =>
      have : u ≠ t := fun e => hd t rfl (by subst e; exact List.mem_append_left _ (List.mem_filterMap.2 ⟨.tmp u, by simpa using hx, rfl⟩))
      simp [ev, updO, upd, this]
    | _ => rfl

theorem Agree.symm {s s' : S} {o : Op} (ha : Agree s s' o) : Agree s' s o := fun x hx => (ha x hx).symm
theorem Agree.trans {s s' s'' : S} {o : Op} (ha : Agree s s' o) (hb : Agree s' s'' o) : Agree s s'' o := fun x hx => (hb x hx).trans (ha x hx)

theorem updO_comm {s : S} {d e : Option Nat} {c u : AV} (hne : ∀ t, d = some t → e ≠ some t) : updO (updO s d c) e u = updO (updO s e u) d c := by
  cases d with
  | none => rfl
  | some t =>
    cases e with
    | none => rfl
    | some t' =>
      have : t ≠ t' := fun h => hne t rfl (by rw [h])
      funext i
      simp only [updO, upd]
      by_cases h1 : i = t <;> by_cases h2 : i = t' <;> simp_all

theorem lite_fields {o : Oper} {lo : LO} (hl : liteOp ops o = some lo) : lo.d = o.dst ∧ lo.o = o.op ∧ (∀ t b, lo.g = some (t, b) → t ∈ o.looksAt ops) := by
  unfold liteOp at hl
  split at hl
  · cases hl
  · split at hl
    · injection hl with hl; subst hl; exact ⟨rfl, rfl, fun t b h => by cases h⟩
    · rename_i j b hg
      split at hl
      · rename_i t ht
        injection hl with hl; subst hl
        refine ⟨rfl, rfl, fun t' b' h => ?_⟩
        injection h with h; injection h with h1 h2
        subst h1
        simp [Oper.looksAt, hg, ht]
      · cases hl

theorem guardP_mono {s : S} {g : Option (Nat × Bool)} {y n' y' n'' : Prop} (hp : guardP n s g y n') (h1 : y → y') (h2 : n' → n'') : guardP n s g y' n'' := by
  unfold guardP at *
  split at hp
  · exact h1 hp
  · refine ⟨hp.1, ?_⟩
    obtain ⟨_, hp⟩ := hp
    split at hp
    · rename_i c hc
      split at hp
      · rename_i hcb; rw [if_pos hcb]; exact h1 hp
      · rename_i hcb; rw [if_neg hcb]; exact h2 hp
    · rename_i v hne hv
      cases v <;> first | exact h2 hp | (rename_i c; exact absurd rfl (hne c))
    · exact hp.elim

theorem guardP_same {s s' : S} {g : Option (Nat × Bool)} {y n' : Prop} (hs : ∀ t b, g = some (t, b) → s' t = s t) (hp : guardP n s g y n') : guardP n s' g y n' := by
  unfold guardP at *
  split at hp
  · exact hp
  · rename_i t b
    rw [hs t b rfl]
    exact hp

theorem do_out {dr : Bool} {s : S} {h : Heap} {o : Op} {K : AV → Heap → Prop} (hp : doP P dr s h o K) : ∀ s', Agree s s' o → doP P dr s' h o (fun c h' => (dr = true → mild o = true → h.sub h') ∧ K c h') := by
  intro s' ha
  rcases doP_eq o with ⟨c, hop, hcall, heq⟩ | ⟨hcall, heq⟩ <;> rw [heq] at hp ⊢
  · subst hop
    unfold callP at *
    split at hp
    · rename_i f hf
      have e1 : ev s' f = ev s f := ha f (by simp [Op.operands, Call.operands, hf])
      have e2 : c.args.toList.map (ev s') = c.args.toList.map (ev s) := List.map_congr_left fun x hx => ha x (by simp [Op.operands, Call.operands, hf]; right; simpa using hx)
      rw [e1, e2]
      split at hp
      · exact hp.mono fun c h' ⟨h1, h2⟩ => ⟨h1, fun hd _ => h1 hd, h2⟩
      · exact hp.elim
    · exact hp.elim
  · obtain ⟨c, h', hk, hm, hout⟩ := op_out hp
    exact hout s' ha _ ⟨fun _ => hm, hk⟩

theorem oneP_mono {dr : Bool} {lo : LO} {s : S} {h : Heap} {K K' : S → Heap → Prop} (hp : oneP P n dr lo s h K) (hk : ∀ s' h', K s' h' → K' s' h') : oneP P n dr lo s h K' := by
  refine guardP_mono hp (fun hp => ?_) (fun hp => ?_)
  · rcases doP_eq lo.o with ⟨c, hop, hcall, heq⟩ | ⟨hcall, heq⟩ <;> rw [heq] at hp ⊢
    · unfold callP at *
      split at hp
      · rename_i f hf
        split at hp
        · exact hp.mono fun c h' ⟨a, c'⟩ => ⟨a, putK_iff.2 ⟨(putK_iff.1 c').1, hk _ _ (putK_iff.1 c').2⟩⟩
        · exact hp.elim
      · exact hp.elim
    · obtain ⟨c, h', hk', _, hout⟩ := op_out hp
      exact hout s (fun _ _ => rfl) _ (putK_iff.2 ⟨(putK_iff.1 hk').1, hk _ _ (putK_iff.1 hk').2⟩)
  · exact putK_iff.2 ⟨(putK_iff.1 hp).1, hk _ _ (putK_iff.1 hp).2⟩

/-- In this state, and in whatever comes of it that the operation does not look at, it leaves c in its slot. -/
def YA (P : Program) (n : Nat) (lo : LO) (s : S) (h : Heap) (c : AV) : Prop :=
  (∀ t, lo.d = some t → t < n) ∧ guardP n s lo.g (∀ s' h', Agree s s' lo.o → h.sub h' → ∀ K' : AV → Heap → Prop, K' c h' → opP P s' h' lo.o K') (c = .raw undef)

theorem calm_noCall {o : Op} (hc : calm o = true) : isCall o = false := by
  cases o <;> first | rfl | skip
  rename_i c
  obtain ⟨callee, args, tys⟩ := c
  cases callee <;> first | rfl | (simp [calm] at hc)

theorem doP_calm {dr : Bool} {s : S} {h : Heap} {o : Op} {K : AV → Heap → Prop} (hc : calm o = true) : doP P dr s h o K = opP P s h o K := by
  rcases doP_eq o with ⟨c, hop, hcall, heq⟩ | ⟨hcall, heq⟩
  · rw [calm_noCall hc] at hcall; cases hcall
  · exact heq _ _ _ _ _

theorem ya_of_one {dr : Bool} {lo : LO} {s : S} {h : Heap} {K : S → Heap → Prop} (hc : calm lo.o = true) (hp : oneP P n dr lo s h K) : ∃ c, YA P n lo s h c ∧ K (updO s lo.d c) h := by
  unfold oneP at hp
  rw [doP_calm hc] at hp
  unfold YA
  unfold guardP at *
  split at hp
  · obtain ⟨c, hk, hout⟩ := calm_out hc hp
    exact ⟨c, ⟨(putK_iff.1 hk).1, hout⟩, (putK_iff.1 hk).2⟩
  · obtain ⟨ht, hp⟩ := hp
    split at hp
    · rename_i cc hcc
      split at hp
      · rename_i hcb
        obtain ⟨c, hk, hout⟩ := calm_out hc hp
        refine ⟨c, ⟨(putK_iff.1 hk).1, ht, ?_⟩, (putK_iff.1 hk).2⟩
        rw [if_pos hcb]
        exact hout
      · rename_i hcb
        refine ⟨.raw undef, ⟨(putK_iff.1 hp).1, ht, ?_⟩, (putK_iff.1 hp).2⟩
        rw [if_neg hcb]
    · rename_i v hne hv
      refine ⟨.raw undef, ⟨(putK_iff.1 hp).1, ht, ?_⟩, (putK_iff.1 hp).2⟩
      rfl
    · exact hp.elim

theorem one_of_ya {dr : Bool} {lo : LO} {s : S} {h : Heap} {K : S → Heap → Prop} {c : AV} (hc : calm lo.o = true) (hy : YA P n lo s h c) (hk : K (updO s lo.d c) h) : oneP P n dr lo s h K := by
  unfold oneP
  rw [doP_calm hc]
  refine guardP_mono hy.2 (fun hout => hout s h (fun _ _ => rfl) (Heap.sub_refl h) _ (putK_iff.2 ⟨hy.1, hk⟩)) (fun he => ?_)
  rw [← he]
  exact putK_iff.2 ⟨hy.1, hk⟩

theorem ya_keep {lo : LO} {s s' : S} {h h' : Heap} {c : AV} (hy : YA P n lo s h c) (hg : ∀ t b, lo.g = some (t, b) → s' t = s t) (ha : Agree s s' lo.o) (hs : h.sub h') : YA P n lo s' h' c :=
  ⟨hy.1, guardP_same hg (guardP_mono hy.2 (fun hout s'' h'' ha' hs' K' hk => hout s'' h'' (ha.trans ha') (fun id b hb => hs' id b (hs id b hb)) K' hk) id)⟩

/-- An operation apart from what lies in slot d. -/
theorem one_comm {o : Oper} {lo : LO} (hl : liteOp ops o = some lo) {d : Option Nat} {c : AV} (h1 : ∀ t, d = some t → t ∉ o.looksAt ops) (h2 : ∀ t, d = some t → o.dst ≠ some t) (hm : mild o.op = true) {s : S} {h : Heap} {K : S → Heap → Prop}
    (hp : oneP P n true lo (updO s d c) h K) : oneP P n true lo s h (fun s' h' => h.sub h' ∧ (∃ u, s' = updO s o.dst u) ∧ K (updO s' d c) h') := by
  obtain ⟨e1, e2, e3⟩ := lite_fields hl
  have hag : Agree (updO s d c) s lo.o := by rw [e2]; exact (agree_updO h1).symm
  have hg : ∀ t b, lo.g = some (t, b) → s t = updO s d c t := by
    intro t b hgb
    have := e3 t b hgb
    cases d with
    | none => rfl
    | some u =>
      have hne : t ≠ u := fun e => h1 u rfl (e ▸ this)
      simp [updO, upd, hne]
  have put : ∀ {u : AV} {h' : Heap}, h.sub h' → putK n lo.d (updO s d c) K u h' → putK n lo.d s (fun s' h' => h.sub h' ∧ (∃ u, s' = updO s o.dst u) ∧ K (updO s' d c) h') u h' := by
    intro u h' hs hk
    obtain ⟨a, b⟩ := putK_iff.1 hk
    refine putK_iff.2 ⟨a, hs, ⟨u, by rw [e1]⟩, ?_⟩
    rw [← updO_comm (s := s) (c := c) (u := u) (d := d) (e := lo.d) (fun t ht => by rw [e1]; exact h2 t ht)]
    exact b
  refine guardP_same hg (guardP_mono hp (fun hp => ?_) (fun hp => put (Heap.sub_refl h) hp))
  have h1 := do_out hp s hag
  rcases doP_eq lo.o with ⟨cc, hop, hcall, heq⟩ | ⟨hcall, heq⟩ <;> rw [heq] at h1 ⊢
  · unfold callP at *
    split at h1
    · rename_i f hf
      split at h1
      · exact h1.mono fun u h' ⟨a, b, k⟩ => ⟨a, put (a rfl) k⟩
      · exact h1.elim
    · exact h1.elim
  · obtain ⟨u, h', hk', _, hout⟩ := op_out h1
    exact hout s (fun _ _ => rfl) _ (put (hk'.1 rfl (by rw [e2]; exact hm)) hk'.2)

/-- Whatever order is picked from here on. -/
def anyP (P : Program) (n : Nat) (ops : Array Oper) (K : S → Heap → Prop) : Nat → Array Bool → S → Heap → Prop
  | 0, listed, s, h => Region.ready .any ops listed = [] ∧ K s h
  | fuel + 1, listed, s, h =>
    (Region.ready .any ops listed = [] → K s h) ∧
    ∀ i ∈ Region.ready .any ops listed, ∃ o lo, ops[i]? = some o ∧ liteOp ops o = some lo ∧ oneP P n true lo s h (anyP P n ops K fuel (listed.setIfInBounds i true))

theorem any_first {K : S → Heap → Prop} {i : Nat} {oi : Oper} {loi : LO} {c : AV} (hi : ops[i]? = some oi) (hli : liteOp ops oi = some loi) (hc : calm oi.op = true) :
    ∀ (fuel : Nat) (listed : Array Bool) (s : S) (h : Heap),
      (∀ j oj, ops[j]? = some oj → j ≠ i → listed.getD j true = false → (∀ e ∈ oj.after, Region.binds .any e = true → e.on ≠ i) → oi.apart ops oj = true ∧ mild oj.op = true) →
      i ∈ Region.ready .any ops listed → YA P n loi s h c → anyP P n ops K fuel (listed.setIfInBounds i true) (updO s loi.d c) h → anyP P n ops K (fuel + 1) listed s h := by
  obtain ⟨e1, e2, e3⟩ := lite_fields hli
  have hci : calm loi.o = true := by rw [e2]; exact hc
  intro fuel
  induction fuel with
  | zero =>
    intro listed s h _ hr hy H
    refine ⟨fun hn => (by rw [hn] at hr; cases hr), fun j hj => ?_⟩
    by_cases hji : j = i
    · subst hji; exact ⟨oi, loi, hi, hli, one_of_ya hci hy H⟩
    · have := ready_mono hj hji
      rw [H.1] at this
      cases this
  | succ fuel ih =>
    intro listed s h hfree hr hy H
    refine ⟨fun hn => (by rw [hn] at hr; cases hr), fun j hj => ?_⟩
    by_cases hji : j = i
    · subst hji; exact ⟨oi, loi, hi, hli, one_of_ya hci hy H⟩
    · obtain ⟨oj, loj, hoj, hlj, h1⟩ := H.2 j (ready_mono hj hji)
      obtain ⟨hjun, oj', hoj', hall⟩ := mem_ready.1 hj
      rw [hoj] at hoj'; injection hoj' with hoj'; subst hoj'
      have hnot : ∀ e ∈ oj.after, Region.binds .any e = true → e.on ≠ i := fun e he hb heq => by
        have h1 := hall e he hb
        have h0 := (mem_ready.1 hr).1
        rw [heq] at h1
        rcases Nat.lt_or_ge i listed.size with h' | h'
        · simp [h'] at h0 h1; rw [h0] at h1; cases h1
        · simp [Array.getElem?_eq_none h'] at h1
      obtain ⟨hap, hmild⟩ := hfree j oj hoj hji hjun hnot
      obtain ⟨a1, a2, a3⟩ := Oper.apart_spec hap
      refine ⟨oj, loj, hoj, hlj, ?_⟩
      have h2 := one_comm hlj (d := loi.d) (c := c) (fun t ht => a1 t (by rw [← e1]; exact ht)) (fun t ht => a2 t (by rw [← e1]; exact ht)) hmild h1
      refine oneP_mono h2 fun s' h' ⟨hsub, ⟨u, hu⟩, hk⟩ => ?_
      have hfree' : ∀ k ok, ops[k]? = some ok → k ≠ i → (listed.setIfInBounds j true).getD k true = false →
          (∀ e ∈ ok.after, Region.binds .any e = true → e.on ≠ i) → oi.apart ops ok = true ∧ mild ok.op = true := fun k ok hk hki hun hno => by
        refine hfree k ok hk hki ?_ hno
        by_cases hjk : j = k
        · subst hjk; exact hjun
        · rw [getD_set_ne true hjk] at hun; exact hun
      refine ih (listed.setIfInBounds j true) s' h' hfree' (ready_mono hr (Ne.symm hji)) ?_ ?_
      · refine ya_keep hy (fun t b hg => ?_) ?_ hsub
        · rw [hu]
          have := e3 t b hg
          cases hd : oj.dst with
          | none => rfl
          | some q =>
            have hne : t ≠ q := fun e => a3 q hd (e ▸ this)
            simp [updO, upd, hne]
        · rw [hu, e2]
          exact agree_updO fun t ht => a3 t ht
      · rw [Array.setIfInBounds_comm _ _ (Ne.symm hji)] at hk
        exact hk

end
end Go.Ab
