/- What the data of a type are as abstract cells; a call with such arguments. Plain library text, no statement. -/
import Derived.Test.YtbpcbemnbelajaaGreatDoorAb18
namespace Go.Ab
open Go Go.RowKit

def SayI (k : IntKind) : Say := fun _ as => ∃ n, as = [.raw (.int k n)] ∧ (Lit.int k n).wf = true
def SayB : Say := fun _ as => ∃ b, as = [.raw (.bool b)]
def SayS : Say := fun _ as => ∃ s : ByteArray, as = [.raw (.string s)] ∧ s.size ≤ maxLen
/-- fields, each with its number of cells -/
def SayF : List (Nat × Say) → Say
  | [], _, as => as = []
  | (k, R) :: rs, h, as => ∃ a b, as = a ++ b ∧ a.length = k ∧ R h a ∧ SayF rs h b

theorem SayI.mono {k : IntKind} : (SayI k).Mono := fun _ _ _ h => h
theorem SayB.mono : SayB.Mono := fun _ _ _ h => h
theorem SayS.mono : SayS.Mono := fun _ _ _ h => h
theorem SayF.mono : ∀ {rs : List (Nat × Say)}, (∀ r ∈ rs, r.2.Mono) → (SayF rs).Mono
  | [], _ => fun _ _ _ h => h
  | (k, R) :: rs, hm => fun h ext as ⟨a, b, h1, h2, h3, h4⟩ =>
    ⟨a, b, h1, h2, hm _ List.mem_cons_self _ _ _ h3, SayF.mono (fun r hr => hm r (List.mem_cons_of_mem _ hr)) _ _ _ h4⟩

section
variable {H : Type} {enc : TypeId × Value → H} {P : Program} {W : World}

def Opens (enc : TypeId × Value → H) (P : Program) (W : World) (t : TypeId) (R : Say) : Prop :=
  ∀ fuel cs x, DataW.trod enc P W 0 (fun _ => true) true fuel t cs = some x → Opn W cs R

theorem opens_int {t : TypeId} {k : IntKind} (ht : P.underlying t = some (.int k)) : Opens enc P W t (SayI k) := by
  intro fuel cs x hx
  obtain ⟨n, rfl, _, hw⟩ := DataW.trod_int ht hx
  exact .raw rfl fun h => ⟨n, rfl, hw⟩
theorem opens_bool {t : TypeId} (ht : P.underlying t = some .bool) : Opens enc P W t SayB := by
  intro fuel cs x hx
  obtain ⟨n, rfl, _⟩ := DataW.trod_bool ht hx
  exact .raw rfl fun h => ⟨n, rfl⟩
theorem opens_string {t : TypeId} (ht : P.underlying t = some .string) : Opens enc P W t SayS := by
  intro fuel cs x hx
  obtain ⟨n, rfl, _, hw⟩ := DataW.trod_string ht hx
  exact .raw rfl fun h => ⟨n, rfl, hw⟩

theorem flat_get {es : Nat} {els : Nat → List Value} {n : Nat} (hl : ∀ i, i < n → (els i).length = es) :
    ((List.range n).flatMap els).length = n * es ∧ ∀ (j : Nat) x, ((List.range n).flatMap els)[j]? = some x → ∃ i k, i < n ∧ k < es ∧ j = i * es + k ∧ (els i)[k]? = some x := by
  induction n with
  | zero => exact ⟨by simp, fun j x hx => by simp at hx⟩
  | succ n ih =>
    obtain ⟨h1, h2⟩ := ih fun i hi => hl i (by omega)
    rw [List.range_succ, List.flatMap_append]
    have hn := hl n (by omega)
    refine ⟨by simp [h1, hn, Nat.add_mul], fun j x hx => ?_⟩
    rcases Nat.lt_or_ge j (n * es) with hlt | hge
    · rw [List.getElem?_append_left (by omega)] at hx
      obtain ⟨i, k, a, b, c, d⟩ := h2 j x hx
      exact ⟨i, k, by omega, b, c, d⟩
    · rw [List.getElem?_append_right (by omega), h1] at hx
      simp only [List.flatMap_cons, List.flatMap_nil, List.append_nil] at hx
      exact ⟨n, j - n * es, by omega, by have := lt_len hx; omega, by omega, hx⟩

theorem opens_slice {t e : TypeId} {es : Nat} {R : Say} (ht : P.underlying t = some (.slice e)) (hc : P.cellsOf e = es) (hpos : 0 < es) (he : Opens enc P W e R) (m : R.Mono) : Opens enc P W t (SaySl es fun _ => R) := by
  intro fuel cs x hx
  rcases DataW.trod_slice ht hx with ⟨rfl, _⟩ | ⟨a, len, cap, elems, rest, n, _, rfl, rfl, hb, hl, hm, hlen, hel, _, _⟩
  · exact Opn.slice (R := fun _ => R) (fun _ => m) (els := fun _ => []) (Nat.zero_le _) (fun i hi => absurd hi (Nat.not_lt_zero _)) (.inl rfl)
  · subst hc
    have hel' : ∀ i, i < len → ∃ l y, W.cells? 0 (a.add (i * P.cellsOf e)) (P.cellsOf e) = some l ∧ DataW.trod enc P W 0 (fun _ => true) true n e l = some y := by
      intro i hi
      have h1 := hel i hi
      rw [List.getElem?_eq_getElem (by omega)] at h1
      cases hcc : W.cells? 0 (a.add (i * P.cellsOf e)) (P.cellsOf e) with
      | none => rw [hcc] at h1; simp at h1
      | some l => rw [hcc] at h1; exact ⟨l, _, rfl, by simpa using h1⟩
    let els : Nat → List Value := fun i => (W.cells? 0 (a.add (i * P.cellsOf e)) (P.cellsOf e)).getD []
    have hels : ∀ i, i < len → (els i).length = P.cellsOf e ∧ Opn W (els i) R ∧ ∀ k, k < P.cellsOf e → W.cell? ((a.add (i * P.cellsOf e)).add k) = (els i)[k]? := by
      intro i hi
      obtain ⟨l, y, h1, h2⟩ := hel' i hi
      have h3 : els i = l := by simp [els, h1]
      rw [h3]
      obtain ⟨_, h4, h5⟩ := World.cells?_some h1
      exact ⟨h4, he _ _ _ h2, h5⟩
    refine Opn.slice (R := fun _ => R) (fun _ => m) (els := els) (by omega) (fun i hi => ⟨(hels i hi).1, (hels i hi).2.1⟩) ?_
    rcases Nat.eq_zero_or_pos len with h0 | hlp
    · exact .inl h0
    · right
      have h00 := (hels 0 hlp).2.2 0 hpos
      rw [List.getElem?_eq_getElem (by rw [(hels 0 hlp).1]; exact hpos)] at h00
      have ha0 : (a.add (0 * P.cellsOf e)).add 0 = a := by simp [Addr.add]
      rw [ha0] at h00
      obtain ⟨b, off, spot⟩ := a
      obtain rfl : spot = none := by simpa using World.cell?_spot h00
      refine ⟨b, off, rfl, ?_, fun j y hy => ?_⟩
      · unfold World.cell? at h00
        rcases Nat.lt_or_ge b W.heap.size with hlt | hge
        · exact hlt
        · rw [Array.getElem?_eq_none hge] at h00; cases h00
      · obtain ⟨i, k, hi, hk, rfl, hx⟩ := (flat_get fun i hi => (hels i hi).1).2 j y hy
        have := (hels i hi).2.2 k hk
        rw [hx] at this
        have hadd : ((⟨b, off, none⟩ : Addr).add (i * P.cellsOf e)).add k = ⟨b, off + (i * P.cellsOf e + k), none⟩ := by
          unfold Addr.add
          split <;> split <;> simp_all <;> omega
        rw [hadd] at this
        exact this

def FOpens (enc : TypeId × Value → H) (P : Program) (W : World) : Nat → List Field → List (Nat × Say) → Prop
  | _, [], [] => True
  | off, f :: fs, (k, R) :: rs => f.offset = off ∧ P.cellsOf f.type = k ∧ Opens enc P W f.type R ∧ R.Mono ∧ FOpens enc P W (off + k) fs rs
  | _, _, _ => False

theorem opn_fields {cs : List Value} {n : Nat} : ∀ (fs : List Field) (rs : List (Nat × Say)) (off : Nat), FOpens enc P W off fs rs → (cs.drop off).length = (rs.map (·.1)).sum →
    (∀ f ∈ fs, ∃ y, DataW.trod enc P W 0 (fun _ => true) true n f.type ((cs.drop f.offset).take (P.cellsOf f.type)) = some y) → Opn W (cs.drop off) (SayF rs)
  | [], [], off, _, hl, _ => by
    have : cs.drop off = [] := List.length_eq_zero_iff.1 (by simpa using hl)
    rw [this]
    exact Opn.nil
  | f :: fs, (k, R) :: rs, off, ho, hl, hy => by
    obtain ⟨h1, h2, h3, h4, h5⟩ := ho
    simp only [List.map_cons, List.sum_cons] at hl
    obtain ⟨y, hfy⟩ := hy f List.mem_cons_self
    rw [h1, h2] at hfy
    have hd : cs.drop (off + k) = (cs.drop off).drop k := by rw [List.drop_drop]
    have ih := opn_fields fs rs (off + k) h5 (by rw [hd, List.length_drop, hl]; omega) fun f' hf' => hy f' (List.mem_cons_of_mem _ hf')
    have := (h3 _ _ _ hfy).append h4 ih
    rw [hd, List.take_append_drop] at this
    exact this.weaken fun h as _ ⟨a, b, e1, e2, e3, e4, e5⟩ => ⟨a, b, e1, by rw [e2, List.length_take, hl]; omega, e4, e5⟩
  | [], _ :: _, _, ho, _, _ => ho.elim
  | _ :: _, [], _, ho, _, _ => ho.elim

theorem opens_struct {t : TypeId} {fs : Array Field} {rs : List (Nat × Say)} (ht : P.underlying t = some (.struct fs)) (hs : P.cellsOf t = (rs.map (·.1)).sum) (hf : FOpens enc P W 0 fs.toList rs) : Opens enc P W t (SayF rs) := by
  intro fuel cs x hx
  obtain ⟨xs, n, _, _, hl, hlen, hfs⟩ := DataW.trod_struct ht hx
  have := opn_fields (cs := cs) (n := n) fs.toList rs 0 hf (by simpa [hl] using hs) fun f hm => by
    obtain ⟨i, hi, rfl⟩ := List.mem_iff_getElem.1 hm
    have hi' : i < fs.size := by simpa using hi
    have := hfs i fs[i] (Array.getElem?_eq_getElem hi')
    rw [List.getElem?_eq_getElem (by omega)] at this
    exact ⟨_, by simpa using this⟩
  simpa using this

/-! ### arguments -/

def OpnA (W : World) (vs : List Value) (R : Say) : Prop :=
  ∀ μ h, HR W μ h W → ∃ μ' ext as, HR W μ' (h ++ ext) W ∧ Ext μ h μ' (h ++ ext) ∧ VRs μ' (h ++ ext) as vs ∧ okAll (h ++ ext) as = true ∧ R (h ++ ext) as

theorem OpnA.nil : OpnA W [] fun _ as => as = [] :=
  fun μ h H => ⟨μ, [], [], by rw [List.append_nil]; exact ⟨H, Ext.refl _ _, ⟨rfl, fun i c x hi hx => by simp at hi⟩, rfl, rfl⟩⟩

theorem vrs_cons {μ : Mu} {h : Heap} {c : AV} {v : Value} {as : List AV} {vs : List Value} (h1 : VR μ h c v) (h2 : VRs μ h as vs) : VRs μ h (c :: as) (v :: vs) :=
  ⟨by simp [h2.1], fun i d x hi hx => by
    cases i with
    | zero => simp at hi hx; subst hi; subst hx; exact h1
    | succ i => exact h2.2 i d x (by simpa using hi) (by simpa using hx)⟩

theorem OpnA.one {v : Value} {vs : List Value} {R R' : Say} (o : Opn W [v] R) (m : R.Mono) (o' : OpnA W vs R') : OpnA W (v :: vs) fun h as => ∃ c rest, as = c :: rest ∧ R h [c] ∧ R' h rest := by
  intro μ h H
  obtain ⟨μ1, e1, as, H1, hE1, hc1, hk1, hR1⟩ := o μ h H
  obtain ⟨μ2, e2, bs, H2, hE2, hc2, hk2, hR2⟩ := o' μ1 (h ++ e1) H1
  match as, hc1.1 with
  | [c], _ =>
    refine ⟨μ2, e1 ++ e2, c :: bs, ?_⟩
    rw [← List.append_assoc]
    have hk1' := okAll_mono (Heap.le_append _ e2) _ hk1
    simp only [okAll, Bool.and_true] at hk1 hk1'
    exact ⟨H2, hE1.trans (Heap.le_append _ _) hE2, vrs_cons (hE2 c v hk1 (hc1.2 0 c v rfl rfl).1) hc2, by simp only [okAll, hk1', hk2, Bool.and_self], c, bs, rfl, m _ _ _ hR1, hR2⟩

theorem OpnA.agg {cs : Array Value} {vs : List Value} {R R' : Say} (o : Opn W cs.toList R) (m : R.Mono) (o' : OpnA W vs R') : OpnA W (.agg cs :: vs) fun h as => ∃ a rest, as = .agg a :: rest ∧ R h a ∧ R' h rest := by
  intro μ h H
  obtain ⟨μ1, e1, as, H1, hE1, hc1, hk1, hR1⟩ := o μ h H
  obtain ⟨μ2, e2, bs, H2, hE2, hc2, hk2, hR2⟩ := o' μ1 (h ++ e1) H1
  refine ⟨μ2, e1 ++ e2, .agg as :: bs, ?_⟩
  rw [← List.append_assoc]
  have hk1' := okAll_mono (Heap.le_append _ e2) _ hk1
  have hc' := hE2.crs hk1 hc1
  exact ⟨H2, hE1.trans (Heap.le_append _ _) hE2, vrs_cons (.agg (by simpa using hc'.1) fun i c x hi hx => (hc'.2 i c x hi (by simpa using hx)).1) hc2, by simp only [okAll, AV.ok, hk1', hk2, Bool.and_self], as, bs, rfl, m _ _ _ hR1, hR2⟩

/-- an argument that is no struct -/
theorem OpnA.arg {t : TypeId} {v : Value} {d : DataW H} {ps : List MemPlace} {vs : List Value} {R R' : Say} (hs : Opens enc P W t R) (m : R.Mono) (hcell : v.cells.toList = [v]) (hv : DataW.Trod enc P W 0 (fun _ => true) true t v d ps) (o' : OpnA W vs R') :
    OpnA W (v :: vs) fun h as => ∃ c rest, as = c :: rest ∧ R h [c] ∧ R' h rest := by
  obtain ⟨fuel, hf⟩ := hv
  rw [hcell] at hf
  exact .one (hs _ _ _ hf) m o'

/-- an argument that is a struct -/
theorem OpnA.argS {t : TypeId} {v : Value} {d : DataW H} {ps : List MemPlace} {vs : List Value} {R R' : Say} (hs : Opens enc P W t R) (m : R.Mono) (hcell : ∃ cs, v = .agg cs) (hv : DataW.Trod enc P W 0 (fun _ => true) true t v d ps) (o' : OpnA W vs R') :
    OpnA W (v :: vs) fun h as => ∃ a rest, as = .agg a :: rest ∧ R h a ∧ R' h rest := by
  obtain ⟨cs, rfl⟩ := hcell
  obtain ⟨fuel, hf⟩ := hv
  exact .agg (hs _ _ _ hf) m o'

/-- **A contract that says 'true' is a call that returns true and leaves what was.** -/
theorem calls_trueG (hW : Glob W) {g : FuncId} {c : LC} {n : Nat} {rs : List ResultVar} (hok : FnOk P g c n rs) {vs : Array Value} {R : Say} (o : OpnA W vs.toList R) (hac : ∀ h as, R h as → AC P g as h fun r _ => r = .raw (.bool true)) :
    Calls P g vs W fun e W' => e = .returned (.bool true) ∧ Below W.heap.size W W' := by
  obtain ⟨μ, ext, as, H1, _, hv, hk, hR⟩ := o (fun _ => ⟨none, 0⟩) [] (HR.nil W _ hW)
  have := hac _ _ hR W μ W vs H1 hv hk
  unfold CallOK at this
  obtain ⟨fn, hf, hn, hb, _, _⟩ := hok
  have hb' : fn.body.isNone = false := by
    cases hbb : fn.body with
    | none => rw [hbb] at hb; cases hb
    | some C => rfl
  rw [callFunc_run hf hn hb'] at this
  refine this.2.mono fun e W' ⟨x, he, μ', c, h', hc, hvx, _, H', _, _⟩ => ?_
  subst hc
  cases hvx
  exact ⟨he, H'.below.toBelow⟩

end
end Go.Ab
