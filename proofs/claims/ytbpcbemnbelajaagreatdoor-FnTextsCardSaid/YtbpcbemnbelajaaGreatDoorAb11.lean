/- Calls, regions and code on the abstract heap. Plain library text, no statement. -/
import Derived.Test.YtbpcbemnbelajaaGreatDoorAb10
namespace Go.Ab
open Go Go.RowKit

/-- What a call of function g comes to. -/
def CallOK (P : Program) (g : FuncId) (xs : Array Value) (w : World) (R : Value → World → Prop) : Prop :=
  match (callFunc g xs).run P w with
  | .ok (.enter f args) w' => w' = w ∧ Calls P f args w (fun e w'' => ∃ x, e = .returned x ∧ R x w'')
  | .ok (.value x) w' => R x w'
  | _ => False

/-- **A contract**: called so, in whatever world holds this heap, it returns, and what stands then is as Q says. -/
def AC (P : Program) (g : FuncId) (args : List AV) (h : Heap) (Q : AV → Heap → Prop) : Prop :=
  ∀ (w0 : World) (μ : Mu) (w : World) (xs : Array Value), HR w0 μ h w → VRs μ h args xs.toList → okAll h args = true →
    CallOK P g xs w fun x w' => ∃ μ' c h', Q c h' ∧ VR μ' h' c x ∧ c.ok h' = true ∧ HR w0 μ' h' w' ∧ Ext μ h μ' h' ∧ h.le h'

theorem CallOK.mono {P g xs w R R'} (h : CallOK P g xs w R) (hr : ∀ x w', R x w' → R' x w') : CallOK P g xs w R' := by
  unfold CallOK at *
  split at h
  · exact ⟨h.1, h.2.mono fun e w'' ⟨x, he, hx⟩ => ⟨x, he, hr _ _ hx⟩⟩
  · exact hr _ _ h
  · exact h.elim

theorem AC.mono {P g args h Q Q'} (hc : AC P g args h Q) (hq : ∀ c h', Q c h' → Q' c h') : AC P g args h Q' :=
  fun w0 μ w xs H hv hk => (hc w0 μ w xs H hv hk).mono fun x w' ⟨μ', c, h', q, rest⟩ => ⟨μ', c, h', hq _ _ q, rest⟩

/-- every row is there as it was -/
def Heap.sub (h h' : Heap) : Prop := ∀ (id : Nat) b, h[id]? = some b → h'[id]? = some b

theorem Heap.sub_refl (h : Heap) : h.sub h := fun _ _ hb => hb
theorem Heap.sub_append (h ext : Heap) : h.sub (h ++ ext) := fun id b hb => by
  rw [List.getElem?_append_left (lt_len hb)]; exact hb

def guardP (n : Nat) (s : S) (g : Option (Nat × Bool)) (yes no : Prop) : Prop :=
  match g with
  | none => yes
  | some (t, b) => t < n ∧ match s t with
    | .raw (.bool c) => if c = b then yes else no
    | .raw _ => no
    | _ => False

def putK (n : Nat) (d : Option Nat) (s : S) (K : S → Heap → Prop) (c : AV) (h : Heap) : Prop :=
  match d with
  | some t => t < n ∧ K (upd s t c) h
  | none => K s h

def callP (P : Program) (dr : Bool) (s : S) (h : Heap) (c : Call) (K : AV → Heap → Prop) : Prop :=
  match c.callee with
  | .value f => match ev s f with
    | .fn (.func g) cap => AC P g (c.args.toList.map (ev s) ++ cap) h K
    | _ => False
  | _ => False

def isCall : Op → Bool
  | .call c => match c.callee with | .value _ => true | _ => false
  | _ => false

def doP (P : Program) (dr : Bool) (s : S) (h : Heap) (o : Op) (K : AV → Heap → Prop) : Prop :=
  match o with
  | .call c => match c.callee with
    | .value _ => callP P dr s h c K
    | _ => opP P s h (.call c) K
  | o => opP P s h o K

theorem doP_eq (o : Op) : (∃ c, o = .call c ∧ isCall o = true ∧ ∀ P dr s h K, doP P dr s h o K = callP P dr s h c K) ∨ (isCall o = false ∧ ∀ P dr s h K, doP P dr s h o K = opP P s h o K) := by
  cases o <;> first | exact .inr ⟨rfl, fun _ _ _ _ _ => rfl⟩ | skip
  rename_i c
  obtain ⟨callee, args, tys⟩ := c
  cases callee with
  | value f => exact .inl ⟨_, rfl, rfl, fun _ _ _ _ _ => rfl⟩
  | invoke r m => exact .inr ⟨rfl, fun _ _ _ _ _ => rfl⟩
  | builtin b => exact .inr ⟨rfl, fun _ _ _ _ _ => rfl⟩

/-- the row that this refers to is as it was -/
def KeepR (c : AV) (h h' : Heap) : Prop := match c with
  | .ptr id _ _ | .own id _ _ | .sub id _ _ _ _ => ∀ b, h[id]? = some b → h'[id]? = some b
  | _ => True
/-- the rows that these look at are as they were -/
def KeepL (s : S) (f : List Operand) (h h' : Heap) : Prop := ∀ x ∈ f, KeepR (ev s x) h h'

def oneP (P : Program) (n : Nat) (dr : Bool) (o : LO) (s : S) (h : Heap) (K : S → Heap → Prop) : Prop :=
  guardP n s o.g (doP P dr s h o.o (putK n o.d s K)) (putK n o.d s K (.raw undef) h)

/-- a call whose order is drawn keeps what those look at that may come behind it -/
def preC (dr : Bool) (s : S) (o : Op) (f : List Operand) (h : Heap) (K : AV → Heap → Prop) : AV → Heap → Prop := match isCall o with
  | true => fun c h' => (dr = true → KeepL s f h h') ∧ K c h'
  | false => K
theorem preC_elim {dr : Bool} {s : S} {o : Op} {f : List Operand} {h : Heap} {K : AV → Heap → Prop} {c : AV} {h' : Heap} (hp : preC dr s o f h K c h') : K c h' := by
  unfold preC at hp
  cases hc : isCall o <;> rw [hc] at hp
  · exact hp
  · exact hp.2
theorem preC_call {dr : Bool} {s : S} {o : Op} {f : List Operand} {h : Heap} {K : AV → Heap → Prop} {c : AV} {h' : Heap} (hc : isCall o = true) (hp : preC dr s o f h K c h') : (dr = true → KeepL s f h h') ∧ K c h' := by
  unfold preC at hp
  rw [hc] at hp
  exact hp
def oneC (P : Program) (n : Nat) (dr : Bool) (o : LO) (s : S) (h : Heap) (K : S → Heap → Prop) : Prop :=
  guardP n s o.g (doP P dr s h o.o (preC dr s o.o o.f h (putK n o.d s K))) (putK n o.d s K (.raw undef) h)

/-- none of these refers to this row -/
def ApartL (id : Nat) : List AV → Prop
  | [] => True
  | .ptr id' _ _ :: l | .own id' _ _ :: l | .sub id' _ _ _ _ :: l => id' ≠ id ∧ ApartL id l
  | _ :: l => ApartL id l
def ApartV (c : AV) (l : List AV) : Prop := match c with
  | .ptr id _ _ | .own id _ _ => ApartL id l
  | _ => True
/-- what turns a row turns none that these look at -/
def ApartF (s : S) (o : Op) (f : List Operand) : Prop := match o with
  | .store _ x _ => ApartV (ev s x) (f.map (ev s))
  | .call c => match c.callee with
    | .builtin _ => match c.args.toList with
      | x :: _ => ApartV (ev s x) (f.map (ev s))
      | [] => True
    | _ => True
  | _ => True
def preF (s : S) (o : LO) (A : Prop) : Prop := match o.f with
  | [] => A
  | x :: f => match isCall o.o with
    | true => A
    | false => ApartF s o.o (x :: f) ∧ A
theorem preF_elim {s : S} {o : LO} {A : Prop} (h : preF s o A) : A := by
  unfold preF at h
  cases hf : o.f <;> rw [hf] at h
  · exact h
  · cases hc : isCall o.o <;> rw [hc] at h
    · exact h.2
    · exact h

def allP (P : Program) (n : Nat) (dr : Bool) : List LO → S → Heap → (S → Heap → Prop) → Prop
  | [], s, h, K => K s h
  | o :: l, s, h, K => preF s o (oneC P n dr o s h fun s h => allP P n dr l s h K)

/-- the frame, and the world, as the abstract machine says; since the function began, what read so reads so still -/
structure Rel (w0 : World) (μ0 : Mu) (h0 : Heap) (n : Nat) (μ : Mu) (h : Heap) (s : S) (a : Act) (w : World) : Prop where
  size : a.tmps.size = n
  defers : a.defers = []
  slots : SR μ h s a.tmps
  heap : HR w0 μ h w
  ext : Ext μ0 h0 μ h
  le : h0.le h

def LK (w0 : World) (μ0 : Mu) (h0 : Heap) (n : Nat) (K : S → Heap → Prop) (a : Act) (w : World) : Prop :=
  ∃ μ h s, K s h ∧ Rel w0 μ0 h0 n μ h s a w

def LQ (w0 : World) (μ0 : Mu) (h0 : Heap) (n : Nat) (Q : Exit → S → Heap → Prop) (e : Exit) (a : Act) (w : World) : Prop :=
  ∃ μ h s, Q e s h ∧ Rel w0 μ0 h0 n μ h s a w

section
variable {P : Program} {w0 w : World} {μ0 μ : Mu} {h0 h : Heap} {n : Nat} {s : S} {a : Act}

theorem Rel.drew (r : Rel w0 μ0 h0 n μ h s a w) : Rel w0 μ0 h0 n μ h s a w.drew := ⟨r.size, r.defers, r.slots, r.heap.drew, r.ext, r.le⟩

theorem Rel.put {μ' : Mu} {h' : Heap} {w' : World} (r : Rel w0 μ0 h0 n μ h s a w) (H : HR w0 μ' h' w') (he : Ext μ h μ' h') (hl : h.le h') {d : Option Nat} {c : AV} {x : Value} (hc : c.ok h' = true) (hv : VR μ' h' c x) {K : S → Heap → Prop}
    (hk : putK n d s K c h') : LK w0 μ0 h0 n K (a.put d x) w' := by
  cases d with
  | none => exact ⟨μ', h', s, hk, r.size, r.defers, r.slots.ext he hl, H, r.ext.trans r.le he, Heap.le_trans r.le hl⟩
  | some t =>
    exact ⟨μ', h', upd s t c, hk.2, by simp [Act.put, r.size], r.defers, (r.slots.ext he hl).put (by rw [r.size]; exact hk.1) hc hv, H, r.ext.trans r.le he, Heap.le_trans r.le hl⟩

theorem do_sound (r : Rel w0 μ0 h0 n μ h s a w) (o : Oper) {dr : Bool} {K : S → Heap → Prop} (hp : doP P dr s h o.op (putK n o.dst s K)) (Q : Exit → Act → World → Prop) :
    o.wp P a w (LK w0 μ0 h0 n K) Q := by
  rcases doP_eq o.op with ⟨c, hop, hcall, heq⟩ | ⟨hcall, heq⟩ <;> rw [heq] at hp
  · unfold callP at hp
    split at hp
    · rename_i f hf
      split at hp
      · rename_i g cap hev
        have hfv := (r.slots.ev f).2
        have hfo := (r.slots.ev f).1
        rw [hev] at hfv hfo
        cases hfx : a.eval f <;> rw [hfx] at hfv <;> cases hfv
        rename_i xs hl hr
        have hargs : VRs μ h (c.args.toList.map (ev s) ++ cap) (c.args.map a.eval ++ xs).toList := by
          refine ⟨by simp [hl], fun i d x hd hx => ?_⟩
          simp only [Array.toList_append, Array.toList_map] at hx
          rw [List.getElem?_append] at hd hx
          simp only [List.length_map] at hd hx
          split at hd
          · rename_i hlt
            rw [if_pos hlt] at hx
            simp only [List.getElem?_map, Option.map_eq_some_iff] at hd hx
            obtain ⟨o1, ho1, rfl⟩ := hd
            obtain ⟨o2, ho2, rfl⟩ := hx
            rw [ho1] at ho2; injection ho2 with ho2; subst ho2
            exact (r.slots.ev o1).2
          · rename_i hge
            rw [if_neg hge] at hx
            exact hr _ d x hd (by simpa using hx)
        have hok : okAll h (c.args.toList.map (ev s) ++ cap) = true := by
          refine okAll_append (okAll_iff.2 fun d hd => ?_) (by simpa only [AV.ok] using hfo)
          simp only [List.mem_map] at hd
          obtain ⟨o1, _, rfl⟩ := hd
          exact (r.slots.ev o1).1
        have hc := hp w0 μ w _ r.heap hargs hok
        have hrun : (execOp a.eval o).run P w = (callFunc g (c.args.map a.eval ++ xs)).run P w := by
          simp [execOp, hop, resolve, hf, hfx, Deferred.ofValue, invoke]
        unfold Oper.wp
        rw [hrun]
        unfold CallOK at hc
        split at hc
        · rename_i f' args' w' hcr
          obtain ⟨rfl, hcc⟩ := hc
          rw [hcr]
          simp only [Oper.upon]
          refine hcc.mono fun e w'' ⟨x, he, μ', d, h', hk, hv, hdo, H', hE, hL⟩ => ?_
          subst he
          exact r.put H' hE hL hdo hv hk
        · rename_i x w' hcr
          rw [hcr]
          obtain ⟨μ', d, h', hk, hv, hdo, H', hE, hL⟩ := hc
          exact r.put H' hE hL hdo hv hk
        · exact hc.elim
      · exact hp.elim
    · exact hp.elim
  · obtain ⟨c, h', μ', w', x, hk, hrun, hv, hc, H', hE, hL⟩ := opP_sound r.heap r.slots o hp
    unfold Oper.wp
    rcases hrun with hrun | ⟨hrun, rfl⟩
    · rw [hrun]; exact r.put H' hE hL hc hv hk
    · rw [hrun]; exact r.put H' hE hL hc hv hk

theorem one_sound (r : Rel w0 μ0 h0 n μ h s a w) {ops : Array Oper} {f : List Operand} {o : Oper} {lo : LO} (hlo : liteOp ops f o = some lo) {dr : Bool} {K : S → Heap → Prop} (hp : oneP P n dr lo s h K) (Q : Exit → Act → World → Prop) :
    if Region.wanted o (yielded ops a.tmps) then o.wp P a w (LK w0 μ0 h0 n K) Q else LK w0 μ0 h0 n K (a.put o.dst undef) w := by
  have skip : putK n o.dst s K (.raw undef) h → LK w0 μ0 h0 n K (a.put o.dst undef) w := fun hk => r.put r.heap (Ext.refl _ _) (Heap.le_refl _) rfl (.raw _) hk
  unfold liteOp at hlo
  split at hlo
  · cases hlo
  · split at hlo
    · rename_i hg
      injection hlo with hlo; subst hlo
      rw [if_pos (by simp [Region.wanted, hg])]
      exact do_sound r o hp Q
    · rename_i j b hg
      split at hlo
      · rename_i t ht
        injection hlo with hlo; subst hlo
        obtain ⟨htn, hp⟩ := hp
        have hvt := (r.slots t).2
        have hyt : yielded ops a.tmps j = match a.tmps.getD t undef with | .bool c => some c | _ => none := by
          simp only [yielded, ht, Option.bind_some]
          rw [Array.getElem?_eq_getElem (by rw [r.size]; exact htn)]
          rw [show a.tmps.getD t undef = a.tmps[t]'(by rw [r.size]; exact htn) from by simp [Array.getD_eq_getD_getElem?, Array.getElem?_eq_getElem (show t < a.tmps.size by rw [r.size]; exact htn)]]
          cases a.tmps[t]'(by rw [r.size]; exact htn) <;> rfl
        split at hp
        · rename_i c hst
          rw [hst] at hvt
          have hw : Region.wanted o (yielded ops a.tmps) = decide (c = b) := by
            rw [raw_val hvt] at hyt
            simp only [Region.wanted, hg, hyt]
            cases c <;> cases b <;> rfl
          rw [hw]
          by_cases hcb : c = b
          · rw [if_pos hcb] at hp
            rw [if_pos (by simpa using hcb)]
            exact do_sound r o hp Q
          · rw [if_neg hcb] at hp
            rw [if_neg (by simpa using hcb)]
            exact skip hp
        · rename_i v hne hst
          rw [hst] at hvt
          have hw : Region.wanted o (yielded ops a.tmps) = false := by
            rw [raw_val hvt] at hyt
            have : yielded ops a.tmps j = none := by
              rw [hyt]
              cases v <;> first | rfl | (rename_i c; exact absurd rfl (hne c))
            simp [Region.wanted, hg, this]
          rw [hw]
          exact skip hp
        · exact hp.elim
      · cases hlo

end
end Go.Ab
