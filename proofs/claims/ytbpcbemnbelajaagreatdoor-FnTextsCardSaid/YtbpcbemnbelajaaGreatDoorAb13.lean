/- Regions whose order is drawn: the text's order stands for all. Plain library text, no statement. -/
import Derived.Test.YtbpcbemnbelajaaGreatDoorAb12
namespace Go.Ab
open Go Go.RowKit

def updO (s : S) (d : Option Nat) (c : AV) : S := match d with | some t => upd s t c | none => s

section
variable {P : Program} {n : Nat} {ops : Array Oper}

theorem putK_iff {d : Option Nat} {s : S} {K : S → Heap → Prop} {c : AV} {h : Heap} : putK n d s K c h ↔ (∀ t, d = some t → t < n) ∧ K (updO s d c) h := by
  cases d with
  | none => simp [putK, updO]
  | some t => simp [putK, updO]

theorem agree_updO {s : S} {d : Option Nat} {c : AV} {o : Oper} (hd : ∀ t, d = some t → t ∉ o.looksAt ops) : Agree s (updO s d c) o.op := by
  intro x hx
  cases d with
  | none => rfl
  | some t =>
    cases x with
    | tmp u =>
      have : u ≠ t := fun e => hd t rfl (by subst e; exact List.mem_append_left _ (List.mem_filterMap.2 ⟨.tmp u, by simpa using hx, rfl⟩))
      simp [ev, updO, upd, this]
    | _ => rfl

theorem Agree.symm {s s' : S} {o : Op} (ha : Agree s s' o) : Agree s' s o := fun x hx => (ha x hx).symm
theorem Agree.trans {s s' s'' : S} {o : Op} (ha : Agree s s' o) (hb : Agree s' s'' o) : Agree s s'' o := fun x hx => (hb x hx).trans (ha x hx)

theorem updO_comm {s : S} {d e : Option Nat} {c u : AV} (hne : ∀ t, d = some t → e ≠ some t) : updO (updO s d c) e u = updO (updO s e u) d c := by
  cases d with
  | none => rfl
  | some t =>
    cases e with
    | none => rfl
    | some t' =>
      have : t ≠ t' := fun h => hne t rfl (by rw [h])
      funext i
      simp only [updO, upd]
      by_cases h1 : i = t <;> by_cases h2 : i = t' <;> simp_all

theorem lite_fields {f : List Operand} {o : Oper} {lo : LO} (hl : liteOp ops f o = some lo) : lo.d = o.dst ∧ lo.o = o.op ∧ (∀ t b, lo.g = some (t, b) → t ∈ o.looksAt ops) := by
  unfold liteOp at hl
  split at hl
  · cases hl
  · split at hl
    · injection hl with hl; subst hl; exact ⟨rfl, rfl, fun t b h => by cases h⟩
    · rename_i j b hg
      split at hl
      · rename_i t ht
        injection hl with hl; subst hl
        refine ⟨rfl, rfl, fun t' b' h => ?_⟩
        injection h with h; injection h with h1 h2
        subst h1
        simp [Oper.looksAt, hg, ht]
      · cases hl

theorem lite_f {f : List Operand} {o : Oper} {lo : LO} (hl : liteOp ops f o = some lo) : lo.f = f := by
  unfold liteOp at hl
  split at hl
  · cases hl
  · split at hl
    · injection hl with hl; subst hl; rfl
    · split at hl
      · injection hl with hl; subst hl; rfl
      · cases hl

theorem guardP_mono {s : S} {g : Option (Nat × Bool)} {y n' y' n'' : Prop} (hp : guardP n s g y n') (h1 : y → y') (h2 : n' → n'') : guardP n s g y' n'' := by
  unfold guardP at *
  split at hp
  · exact h1 hp
  · refine ⟨hp.1, ?_⟩
    obtain ⟨_, hp⟩ := hp
    split at hp
    · rename_i c hc
      split at hp
      · rename_i hcb; rw [if_pos hcb]; exact h1 hp
      · rename_i hcb; rw [if_neg hcb]; exact h2 hp
    · rename_i v hne hv
      cases v <;> first | exact h2 hp | (rename_i c; exact absurd rfl (hne c))
    · exact hp.elim

theorem guardP_same {s s' : S} {g : Option (Nat × Bool)} {y n' : Prop} (hs : ∀ t b, g = some (t, b) → s' t = s t) (hp : guardP n s g y n') : guardP n s' g y n' := by
  unfold guardP at *
  split at hp
  · exact hp
  · rename_i t b
    rw [hs t b rfl]
    exact hp

theorem do_out {dr : Bool} {s : S} {h : Heap} {o : Op} {K : AV → Heap → Prop} (hp : doP P dr s h o K) : ∀ s', Agree s s' o → doP P dr s' h o (fun c h' => (dr = true → mild o = true → h.sub h') ∧ K c h') := by
  intro s' ha
  rcases doP_eq o with ⟨c, hop, hcall, heq⟩ | ⟨hcall, heq⟩ <;> rw [heq] at hp ⊢
  · subst hop
    unfold callP at *
    split at hp
    · rename_i f hf
      have e1 : ev s' f = ev s f := ha f (by simp [Op.operands, Call.operands, hf])
      have e2 : c.args.toList.map (ev s') = c.args.toList.map (ev s) := List.map_congr_left fun x hx => ha x (by simp [Op.operands, Call.operands, hf]; right; simpa using hx)
      rw [e1, e2]
      split at hp
      · exact hp.mono fun c h' h2 => ⟨fun _ hm => by simp [mild, hf] at hm, h2⟩
      · exact hp.elim
    · exact hp.elim
  · obtain ⟨c, h', hk, hm, hout⟩ := op_out hp
    exact hout s' ha _ ⟨fun _ => hm, hk⟩

theorem oneP_mono {dr : Bool} {lo : LO} {s : S} {h : Heap} {K K' : S → Heap → Prop} (hp : oneP P n dr lo s h K) (hk : ∀ s' h', K s' h' → K' s' h') : oneP P n dr lo s h K' := by
  refine guardP_mono hp (fun hp => ?_) (fun hp => ?_)
  · rcases doP_eq lo.o with ⟨c, hop, hcall, heq⟩ | ⟨hcall, heq⟩ <;> rw [heq] at hp ⊢
    · unfold callP at *
      split at hp
      · rename_i f hf
        split at hp
        · exact hp.mono fun c h' c' => putK_iff.2 ⟨(putK_iff.1 c').1, hk _ _ (putK_iff.1 c').2⟩
        · exact hp.elim
      · exact hp.elim
    · obtain ⟨c, h', hk', _, hout⟩ := op_out hp
      exact hout s (fun _ _ => rfl) _ (putK_iff.2 ⟨(putK_iff.1 hk').1, hk _ _ (putK_iff.1 hk').2⟩)
  · exact putK_iff.2 ⟨(putK_iff.1 hp).1, hk _ _ (putK_iff.1 hp).2⟩

/-- In this state, and in whatever comes of it that the operation does not look at, it leaves c in its slot. -/
def YA (P : Program) (n : Nat) (lo : LO) (s : S) (h : Heap) (c : AV) : Prop :=
  (∀ t, lo.d = some t → t < n) ∧ guardP n s lo.g (∀ s' h', Agree s s' lo.o → KeepO s lo.o h h' → ∀ K' : AV → Heap → Prop, K' c h' → opP P s' h' lo.o K') (c = .raw undef)

theorem calm_noCall {o : Op} (hc : calm o = true) : isCall o = false := by
  cases o <;> first | rfl | skip
  rename_i c
  obtain ⟨callee, args, tys⟩ := c
  cases callee <;> first | rfl | (simp [calm] at hc)

theorem doP_calm {dr : Bool} {s : S} {h : Heap} {o : Op} {K : AV → Heap → Prop} (hc : calm o = true) : doP P dr s h o K = opP P s h o K := by
  rcases doP_eq o with ⟨c, hop, hcall, heq⟩ | ⟨hcall, heq⟩
  · rw [calm_noCall hc] at hcall; cases hcall
  · exact heq _ _ _ _ _

theorem ya_of_one {dr : Bool} {lo : LO} {s : S} {h : Heap} {K : S → Heap → Prop} (hc : calm lo.o = true) (hp : oneP P n dr lo s h K) : ∃ c, YA P n lo s h c ∧ K (updO s lo.d c) h := by
  unfold oneP at hp
  rw [doP_calm hc] at hp
  unfold YA
  unfold guardP at *
  split at hp
  · obtain ⟨c, hk, hout⟩ := calm_out hc hp
    exact ⟨c, ⟨(putK_iff.1 hk).1, hout⟩, (putK_iff.1 hk).2⟩
  · obtain ⟨ht, hp⟩ := hp
    split at hp
    · rename_i cc hcc
      split at hp
      · rename_i hcb
        obtain ⟨c, hk, hout⟩ := calm_out hc hp
        refine ⟨c, ⟨(putK_iff.1 hk).1, ht, ?_⟩, (putK_iff.1 hk).2⟩
        rw [if_pos hcb]
        exact hout
      · rename_i hcb
        refine ⟨.raw undef, ⟨(putK_iff.1 hp).1, ht, ?_⟩, (putK_iff.1 hp).2⟩
        rw [if_neg hcb]
    · rename_i v hne hv
      refine ⟨.raw undef, ⟨(putK_iff.1 hp).1, ht, ?_⟩, (putK_iff.1 hp).2⟩
      rfl
    · exact hp.elim

theorem one_of_ya {dr : Bool} {lo : LO} {s : S} {h : Heap} {K : S → Heap → Prop} {c : AV} (hc : calm lo.o = true) (hy : YA P n lo s h c) (hk : K (updO s lo.d c) h) : oneP P n dr lo s h K := by
  unfold oneP
  rw [doP_calm hc]
  refine guardP_mono hy.2 (fun hout => hout s h (fun _ _ => rfl) (.inr fun _ _ => KeepR.of_sub fun _ _ hb => hb) _ (putK_iff.2 ⟨hy.1, hk⟩)) (fun he => ?_)
  rw [← he]
  exact putK_iff.2 ⟨hy.1, hk⟩

theorem keepR_trans {c : AV} {h h' h'' : Heap} (h1 : KeepR c h h') (h2 : KeepR c h' h'') : KeepR c h h'' := by
  cases c <;> simp only [KeepR] at * <;> exact fun b hb => h2 b (h1 b hb)
theorem keepO_trans {s s' : S} {o : Op} {h h' h'' : Heap} (ha : Agree s s' o) (h1 : KeepO s o h h') (h2 : KeepO s' o h' h'') : KeepO s o h h'' := by
  rcases h1 with h1 | h1
  · exact .inl h1
  · rcases h2 with h2 | h2
    · exact .inl h2
    · refine .inr fun x hx => keepR_trans (h1 x hx) ?_
      rw [← ha x hx]; exact h2 x hx

theorem ya_keep {lo : LO} {s s' : S} {h h' : Heap} {c : AV} (hy : YA P n lo s h c) (hg : ∀ t b, lo.g = some (t, b) → s' t = s t) (ha : Agree s s' lo.o) (hs : KeepO s lo.o h h') : YA P n lo s' h' c :=
  ⟨hy.1, guardP_same hg (guardP_mono hy.2 (fun hout s'' h'' ha' hs' K' hk => hout s'' h'' (ha.trans ha') (keepO_trans ha hs hs') K' hk) id)⟩

theorem doP_mono {dr : Bool} {s : S} {h : Heap} {o : Op} {K K' : AV → Heap → Prop} (hp : doP P dr s h o K) (hk : ∀ c h', K c h' → K' c h') : doP P dr s h o K' := by
  rcases doP_eq o with ⟨c, hop, hcall, heq⟩ | ⟨hcall, heq⟩ <;> rw [heq] at hp ⊢
  · unfold callP at *
    split at hp
    · split at hp
      · exact hp.mono fun c h' b => hk _ _ b
      · exact hp.elim
    · exact hp.elim
  · obtain ⟨c, h', hk', _, hout⟩ := op_out hp
    exact hout s (fun _ _ => rfl) _ (hk _ _ hk')

/-- an operation of a region whose order is drawn, with what it says of the heap behind it -/
def oneZ (P : Program) (n : Nat) (Z : Heap → Prop) (lo : LO) (s : S) (h : Heap) (K : S → Heap → Prop) : Prop :=
  guardP n s lo.g (doP P true s h lo.o (fun c h' => Z h' ∧ putK n lo.d s K c h')) (putK n lo.d s K (.raw undef) h)

theorem oneZ_mono {lo : LO} {s : S} {h : Heap} {Z Z' : Heap → Prop} {K K' : S → Heap → Prop} (hp : oneZ P n Z lo s h K) (hz : ∀ h', Z h' → Z' h') (hk : ∀ s' h', K s' h' → K' s' h') : oneZ P n Z' lo s h K' :=
  guardP_mono hp (fun hp => doP_mono hp fun c h' ⟨a, b⟩ => ⟨hz _ a, putK_iff.2 ⟨(putK_iff.1 b).1, hk _ _ (putK_iff.1 b).2⟩⟩)
    (fun hp => putK_iff.2 ⟨(putK_iff.1 hp).1, hk _ _ (putK_iff.1 hp).2⟩)
theorem one_of_oneZ {lo : LO} {s : S} {h : Heap} {Z : Heap → Prop} {K : S → Heap → Prop} (hp : oneZ P n Z lo s h K) : oneP P n true lo s h K :=
  guardP_mono hp (fun hp => doP_mono hp fun c h' ⟨_, b⟩ => b) id

theorem one_of_oneC {dr : Bool} {lo : LO} {s : S} {h : Heap} {K : S → Heap → Prop} (hp : oneC P n dr lo s h K) : oneP P n dr lo s h K :=
  guardP_mono hp (fun hp => doP_mono hp fun c h' b => preC_elim b) id

theorem oneZ_of {lo : LO} {s : S} {h : Heap} {K : S → Heap → Prop} (hp : preF s lo (oneC P n true lo s h K)) (hm : mild lo.o = true → lo.f = []) : oneZ P n (KeepL s lo.f h) lo s h K := by
  cases hf : lo.f with
  | nil =>
    refine guardP_mono (preF_elim hp) (fun hp => doP_mono hp fun c h' b => ⟨fun x hx => ?_, preC_elim b⟩) id
    cases hx
  | cons x f =>
    have hml : mild lo.o = false := by
      cases hml : mild lo.o with
      | false => rfl
      | true => rw [hm hml] at hf; cases hf
    rcases doP_eq lo.o with ⟨c, hop, hcall, heq⟩ | ⟨hcall, heq⟩
    · refine guardP_mono (preF_elim hp) (fun hp' => doP_mono hp' fun c h' b => ?_) id
      have := preC_call hcall b
      rw [hf] at this
      exact ⟨this.1 rfl, this.2⟩
    · unfold preF at hp
      rw [hf, hcall] at hp
      simp only at hp
      refine guardP_mono hp.2 (fun hp' => ?_) id
      rw [heq] at hp' ⊢
      have hp'' : opP P s h lo.o (putK n lo.d s K) := by
        obtain ⟨c, h', hk, _, hout⟩ := op_out hp'
        exact hout s (fun _ _ => rfl) _ (preC_elim hk)
      exact op_keep hml hp.1 hp''

/-- An operation apart from what lies in slot d. -/
theorem one_comm {f : List Operand} {o : Oper} {lo : LO} (hl : liteOp ops f o = some lo) {d : Option Nat} {c : AV} (h1 : ∀ t, d = some t → t ∉ o.looksAt ops) (h2 : ∀ t, d = some t → o.dst ≠ some t) {s : S} {h : Heap} {Z : Heap → Prop} {K : S → Heap → Prop}
    (hp : oneZ P n Z lo (updO s d c) h K) : oneZ P n Z lo s h (fun s' h' => ((Z h' ∧ (mild o.op = true → h.sub h')) ∨ h' = h) ∧ (∃ u, s' = updO s o.dst u) ∧ K (updO s' d c) h') := by
  obtain ⟨e1, e2, e3⟩ := lite_fields hl
  have hag : Agree (updO s d c) s lo.o := by rw [e2]; exact (agree_updO h1).symm
  have hg : ∀ t b, lo.g = some (t, b) → s t = updO s d c t := by
    intro t b hgb
    have := e3 t b hgb
    cases d with
    | none => rfl
    | some u =>
      have hne : t ≠ u := fun e => h1 u rfl (e ▸ this)
      simp [updO, upd, hne]
  have put : ∀ {u : AV} {h' : Heap}, ((Z h' ∧ (mild o.op = true → h.sub h')) ∨ h' = h) → putK n lo.d (updO s d c) K u h' →
      putK n lo.d s (fun s' h' => ((Z h' ∧ (mild o.op = true → h.sub h')) ∨ h' = h) ∧ (∃ u, s' = updO s o.dst u) ∧ K (updO s' d c) h') u h' := by
    intro u h' hs hk
    obtain ⟨a, b⟩ := putK_iff.1 hk
    refine putK_iff.2 ⟨a, hs, ⟨u, by rw [e1]⟩, ?_⟩
    rw [← updO_comm (s := s) (c := c) (u := u) (d := d) (e := lo.d) (fun t ht => by rw [e1]; exact h2 t ht)]
    exact b
  refine guardP_same hg (guardP_mono hp (fun hp => ?_) (fun hp => put (.inr rfl) hp))
  exact doP_mono (do_out hp s hag) fun u h' ⟨a, b, k⟩ => ⟨b, put (.inl ⟨b, by rw [← e2]; exact a rfl⟩) k⟩

/-- what the operation j keeps: the rows that those look at which stand ahead of it and may come behind it -/
def keepsF (ops : Array Oper) (F : Nat → List Nat) (listed : Array Bool) (j : Nat) (s : S) (h h' : Heap) : Prop :=
  ∀ i ∈ F j, listed.getD i false = true → ∀ oi, ops[i]? = some oi → ∀ x ∈ oi.op.operands, KeepR (ev s x) h h'

/-- Whatever order is picked from here on. -/
def anyP (P : Program) (n : Nat) (ops : Array Oper) (F : Nat → List Nat) (K : S → Heap → Prop) : Nat → Array Bool → S → Heap → Prop
  | 0, listed, s, h => Region.ready .any ops listed = [] ∧ K s h
  | fuel + 1, listed, s, h =>
    (Region.ready .any ops listed = [] → K s h) ∧
    ∀ i ∈ Region.ready .any ops listed, ∃ o lo, ops[i]? = some o ∧ liteOp ops (looksOf ops (F i)) o = some lo ∧ oneZ P n (keepsF ops F listed i s h) lo s h (anyP P n ops F K fuel (listed.setIfInBounds i true))

theorem ev_updO {s : S} {d : Option Nat} {c : AV} {o : Oper} (hd : ∀ t, d = some t → t ∉ o.looksAt ops) {x : Operand} (hx : x ∈ o.op.operands) : ev (updO s d c) x = ev s x := agree_updO hd x hx

theorem any_first {F : Nat → List Nat} {K : S → Heap → Prop} {i : Nat} {f : List Operand} {oi : Oper} {loi : LO} {c : AV} (hi : ops[i]? = some oi) (hli : liteOp ops f oi = some loi) (hf : f = looksOf ops (F i)) (hc : calm oi.op = true) :
    ∀ (fuel : Nat) (listed : Array Bool) (s : S) (h : Heap),
      (∀ j oj, ops[j]? = some oj → j ≠ i → listed.getD j true = false → (∀ e ∈ oj.after, Region.binds .any e = true → e.on ≠ i) → waits2 ops oj i = false → oi.apart ops oj = true ∧ (mild oj.op = true ∨ still oi.op = true ∨ i ∈ F j)) →
      (∀ k ok, ops[k]? = some ok → listed.getD k false = true → ∀ e ∈ ok.after, Region.binds .any e = true → listed.getD e.on false = true) →
      (∀ k ok, ops[k]? = some ok → (k = i ∨ listed.getD k false = true) → ∀ t, oi.dst = some t → t ∉ ok.looksAt ops) →
      i ∈ Region.ready .any ops listed → F i = [] → YA P n loi s h c → anyP P n ops F K fuel (listed.setIfInBounds i true) (updO s loi.d c) h → anyP P n ops F K (fuel + 1) listed s h := by
  subst hf
  obtain ⟨e1, e2, e3⟩ := lite_fields hli
  have hci : calm loi.o = true := by rw [e2]; exact hc
  have start : ∀ {fuel : Nat} {listed : Array Bool} {s : S} {h : Heap}, F i = [] → YA P n loi s h c → anyP P n ops F K fuel (listed.setIfInBounds i true) (updO s loi.d c) h →
      oneZ P n (keepsF ops F listed i s h) loi s h (anyP P n ops F K fuel (listed.setIfInBounds i true)) := by
    intro fuel listed s h hF hy H
    refine guardP_mono (one_of_ya (dr := true) hci hy H) (fun hp => doP_mono hp fun c h' b => ⟨fun k hk => ?_, b⟩) id
    rw [hF] at hk; cases hk
  intro fuel
  induction fuel with
  | zero =>
    intro listed s h _ _ _ hr hF hy H
    refine ⟨fun hn => (by rw [hn] at hr; cases hr), fun j hj => ?_⟩
    by_cases hji : j = i
    · subst hji; exact ⟨oi, loi, hi, hli, start hF hy H⟩
    · have := ready_mono hj hji
      rw [H.1] at this
      cases this
  | succ fuel ih =>
    intro listed s h hfree hdc hops hr hF hy H
    refine ⟨fun hn => (by rw [hn] at hr; cases hr), fun j hj => ?_⟩
    by_cases hji : j = i
    · subst hji; exact ⟨oi, loi, hi, hli, start hF hy H⟩
    · obtain ⟨oj, loj, hoj, hlj, h1⟩ := H.2 j (ready_mono hj hji)
      obtain ⟨hjun, oj', hoj', hall⟩ := mem_ready.1 hj
      rw [hoj] at hoj'; injection hoj' with hoj'; subst hoj'
      have hisz : i < listed.size := by
        rcases Nat.lt_or_ge i listed.size with h' | h'
        · exact h'
        · have := (mem_ready.1 hr).1
          simp [Array.getElem?_eq_none h'] at this
      have hnot : ∀ e ∈ oj.after, Region.binds .any e = true → e.on ≠ i := fun e he hb heq => by
        have h1 := hall e he hb
        have h0 := (mem_ready.1 hr).1
        rw [heq] at h1
        simp [hisz] at h0 h1; rw [h0] at h1; cases h1
      have hunl : listed.getD i false = false := by
        have h0 := (mem_ready.1 hr).1
        simp [hisz] at h0 ⊢; exact h0
      have hw2 : waits2 ops oj i = false := by
        cases hw : waits2 ops oj i with
        | false => rfl
        | true =>
          exfalso
          unfold waits2 at hw
          obtain ⟨e, he, hb⟩ := Array.any_eq_true'.1 hw
          simp only [Bool.and_eq_true] at hb
          obtain ⟨hb1, hb2⟩ := hb
          have hel := hall e he hb1
          split at hb2
          · rename_i ok hok
            unfold waits at hb2
            obtain ⟨e2, he2, hb3⟩ := Array.any_eq_true'.1 hb2
            simp only [Bool.and_eq_true, beq_iff_eq] at hb3
            have := hdc e.on ok hok hel e2 he2 hb3.1
            rw [hb3.2, hunl] at this
            cases this
          · cases hb2
      obtain ⟨hap, hmild⟩ := hfree j oj hoj hji hjun hnot hw2
      obtain ⟨a1, a2, a3⟩ := Oper.apart_spec hap
      refine ⟨oj, loj, hoj, hlj, ?_⟩
      have h2 := one_comm hlj (d := loi.d) (c := c) (fun t ht => a1 t (by rw [← e1]; exact ht)) (fun t ht => a2 t (by rw [← e1]; exact ht)) h1
      have hset : ∀ k, listed.getD k false = true → (listed.setIfInBounds i true).getD k false = true := fun k hk => getD_set_true hk
      refine oneZ_mono h2 (fun h' hz k hk hkl ok hok x hx => ?_) (fun s' h' ⟨hz, ⟨u, hu⟩, hk⟩ => ?_)
      · have := hz k hk (hset k hkl) ok hok x hx
        rwa [ev_updO (fun t ht => hops k ok hok (.inr hkl) t (by rw [← e1]; exact ht)) hx] at this
      have hfree' : ∀ k ok, ops[k]? = some ok → k ≠ i → (listed.setIfInBounds j true).getD k true = false →
          (∀ e ∈ ok.after, Region.binds .any e = true → e.on ≠ i) → waits2 ops ok i = false → oi.apart ops ok = true ∧ (mild ok.op = true ∨ still oi.op = true ∨ i ∈ F k) := fun k ok hk hki hun hno hnw => by
        refine hfree k ok hk hki ?_ hno hnw
        by_cases hjk : j = k
        · subst hjk; exact hjun
        · rw [getD_set_ne true hjk] at hun; exact hun
      have hops' : ∀ k ok, ops[k]? = some ok → (k = i ∨ (listed.setIfInBounds j true).getD k false = true) → ∀ t, oi.dst = some t → t ∉ ok.looksAt ops := fun k ok hk hor t ht => by
        by_cases hjk : j = k
        · subst hjk; rw [hoj] at hk; injection hk with hk; subst hk; exact a1 t ht
        · refine hops k ok hk (hor.imp id fun hl => ?_) t ht
          rw [getD_set_ne false hjk] at hl; exact hl
      have hdc' : ∀ k ok, ops[k]? = some ok → (listed.setIfInBounds j true).getD k false = true → ∀ e ∈ ok.after, Region.binds .any e = true → (listed.setIfInBounds j true).getD e.on false = true := fun k ok hk hkl e he hb => by
        by_cases hjk : j = k
        · subst hjk; rw [hoj] at hk; injection hk with hk; subst hk
          exact getD_set_true (hall e he hb)
        · rw [getD_set_ne false hjk] at hkl
          exact getD_set_true (hdc k ok hk hkl e he hb)
      refine ih (listed.setIfInBounds j true) s' h' hfree' hdc' hops' (ready_mono hr (Ne.symm hji)) hF ?_ ?_
      · refine ya_keep hy (fun t b hg => ?_) ?_ ?_
        · rw [hu]
          have := e3 t b hg
          cases hd : oj.dst with
          | none => rfl
          | some q =>
            have hne : t ≠ q := fun e => a3 q hd (e ▸ this)
            simp [updO, upd, hne]
        · rw [hu, e2]
          exact agree_updO fun t ht => a3 t ht
        · rcases hz with ⟨hz, hsub⟩ | rfl
          · rcases hmild with hm | hst | hin
            · exact .inr fun x _ => KeepR.of_sub (hsub hm)
            · exact .inl (by rw [e2]; exact hst)
            · refine .inr fun x hx => ?_
              rw [e2] at hx
              have := hz i hin (by simp [hisz]) oi hi x hx
              rwa [ev_updO (fun t ht => hops i oi hi (.inl rfl) t (by rw [← e1]; exact ht)) hx] at this
          · exact .inr fun x _ => KeepR.of_sub fun _ _ hb => hb
      · rw [Array.setIfInBounds_comm _ _ (Ne.symm hji)] at hk
        exact hk

section
variable {w0 w : World} {μ0 μ : Mu} {h0 h : Heap} {s : S} {a : Act}
/-- the operations in the order of the text -/
theorem list_sound {ops : Array Oper} {dr : Bool} {K : S → Heap → Prop} {Q : Exit → Act → World → Prop} (hQ : ∀ a w, LK w0 μ0 h0 n K a w → Q .normal a w) : ∀ (l : List Oper) (ll : List LO), liteOps ops l = some ll →
    ∀ (μ : Mu) (h : Heap) (s : S) (a : Act) (w : World), Rel w0 μ0 h0 n μ h s a w → allP P n dr ll s h K → wpList P ops Q l a w := by
  intro l
  induction l with
  | nil =>
    intro ll hl μ h s a w r hp
    simp [liteOps] at hl
    subst hl
    exact hQ a w ⟨μ, h, s, hp, r⟩
  | cons o l ih =>
    intro ll hl μ h s a w r hp
    unfold liteOps at hl
    split at hl
    · rename_i x rr hx hr
      injection hl with hl; subst hl
      refine wpList_step fun KK hKK => ?_
      have := one_sound r hx (one_of_oneC (preF_elim hp)) Q
      split at this
      · rename_i hw
        rw [if_pos hw]
        exact Oper.wp_mono (fun a' w' ⟨μ', h', s', hk, r'⟩ => hKK a' w' (ih rr hr μ' h' s' a' w' r' hk)) this
      · rename_i hw
        rw [if_neg hw]
        obtain ⟨μ', h', s', hk, r'⟩ := this
        exact hKK _ _ (ih rr hr μ' h' s' _ _ r' hk)
    · cases hl

end
end
end Go.Ab
