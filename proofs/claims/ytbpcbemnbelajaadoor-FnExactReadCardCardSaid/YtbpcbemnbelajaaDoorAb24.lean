/- From the guide's contracts of library functions to contracts on the abstract heap. Plain library text, no statement. -/
import Derived.Test.YtbpcbemnbelajaaDoorAb23
namespace Go.Ab
open Go Go.RowKit

/-- the function is entered when it is called -/
def Entered (P : Program) (g : FuncId) : Prop := ∀ (xs : Array Value) (w : World), (callFunc g xs).run P w = .ok (.enter g xs) w

section
variable {P : Program} {h : Heap}

theorem entered_of {g : FuncId} {fn : Func} (hf : P.funcs[g]? = some fn) (hn : (fn.name == "runtime.NumGoroutine") = false) (hb : fn.body.isNone = false) : Entered P g := fun xs w => callFunc_run hf hn hb xs w

theorem vrs_raw {μ : Mu} {vs : List Value} {xs : Array Value} (hv : VRs μ h (vs.map .raw) xs.toList) : xs = vs.toArray := by
  apply Array.ext'
  apply List.ext_getElem?
  intro i
  have hl := hv.1
  simp only [List.length_map] at hl
  cases hx : xs.toList[i]? with
  | none =>
    have : vs.length ≤ i := by rw [hl]; exact List.getElem?_eq_none_iff.1 hx
    simp [List.getElem?_eq_none this]
  | some x =>
    have hi : i < vs.length := by rw [hl]; exact lt_len hx
    have := hv.2 i (.raw vs[i]) x (by simp [hi]) hx
    rw [raw_val this]
    simp [hi]

/-- called with plain values it returns a plain value, and nothing that was there has turned -/
theorem AC_plain {g : FuncId} (he : Entered P g) {vs : List Value} {v : Value} (hc : ∀ w : World, Calls P g vs.toArray w fun e w' => e = .returned v ∧ Below w.heap.size w w') :
    AC P g (vs.map .raw) h fun c h' => c = .raw v ∧ h' = h := by
  intro w0 μ w xs H hv hk
  obtain rfl := vrs_raw hv
  unfold CallOK
  rw [he]
  exact ⟨rfl, (hc w).mono fun e w' ⟨hee, hb⟩ => ⟨v, hee, μ, .raw v, h, ⟨rfl, rfl⟩, .raw _, rfl, H.world hb, Ext.refl _ _, Heap.le_refl _⟩⟩

/-- the same where several plain values come back -/
theorem AC_plainT {g : FuncId} (he : Entered P g) {vs us : List Value} (hc : ∀ w : World, Calls P g vs.toArray w fun e w' => e = .returned (.tuple us.toArray) ∧ Below w.heap.size w w') :
    AC P g (vs.map .raw) h fun c h' => c = .tup (us.map .raw) ∧ h' = h := by
  intro w0 μ w xs H hv hk
  obtain rfl := vrs_raw hv
  unfold CallOK
  rw [he]
  refine ⟨rfl, (hc w).mono fun e w' ⟨hee, hb⟩ => ⟨_, hee, μ, .tup (us.map .raw), h, ⟨rfl, rfl⟩, ?_, ?_, H.world hb, Ext.refl _ _, Heap.le_refl _⟩⟩
  · refine .tup (by simp) fun i c x hi hx => ?_
    simp at hi hx
    obtain ⟨u, hu, rfl⟩ := hi
    rw [hu] at hx; injection hx with hx; subst hx
    exact .raw _
  · simp only [AV.ok]; exact okAll_raw us

theorem ownsRow_down {w : World} {b b' e es : Nat} {v : Value} {n : Nat} {xs : List Value} (ho : w.ownsRow b e es v n xs) (hb : b' ≤ b) : w.ownsRow b' e es v n xs := by
  refine ⟨ho.1, ?_⟩
  rcases ho.2 with hn | ⟨g, cap, cur, h1, h2, h3⟩
  · exact .inl hn
  · exact .inr ⟨g, cap, cur, h1, Nat.le_trans hb h2, h3⟩

/-- a row that a call has made -/
theorem HR.fresh {w0 w w' : World} {μ : Mu} (H : HR w0 μ h w) (hb : Below w.heap.size w w') {e : TypeId} {es n : Nat} {v : Value} {xs : List Value} {cells : List AV} (ho : w'.ownsRow w.heap.size e es v n xs) (hok : okAll h cells = true) (hcr : CRs μ h cells xs) :
    HR w0 (Mu.put μ h.length (locOf v)) (h ++ [⟨.row e es, cells⟩]) w' ∧ VR (Mu.put μ h.length (locOf v)) (h ++ [⟨.row e es, cells⟩]) (.own h.length es n) v ∧ (AV.own h.length es n).ok (h ++ [⟨.row e es, cells⟩]) = true := by
  have hs := H.below.size
  have H' := H.world hb
  have hlen : cells.length = n * es := hcr.1.trans ho.1
  refine ⟨H'.add (ownsRow_down ho hs) (fun k hk i e1 es1 cs1 b o hi hbo => ?_) hok hcr, ?_, ?_⟩
  · obtain ⟨m, ys, hoi, _⟩ := H.row i e1 es1 cs1 hi
    have h1 := (hoi.lt b (by simp [Loc.at, hbo, Value.ownBlock])).2
    have h2 := (ho.lt k hk).1
    omega
  · have hlo := locOf_owned ho
    refine .own ?_ fun _ => ?_
    · rw [hlo]; rfl
    · have : Mu.put μ h.length (locOf v) h.length = locOf v := by simp [Mu.put]
      rw [this]; exact hlo
  · simp [AV.ok, refOk, csz, hlen]

/-- what is asked of the package's variables holds still -/
theorem HR.glob {w0 w : World} {μ : Mu} (H : HR w0 μ h w) : Glob w0 ∧ Below w0.heap.size w0 w := ⟨H.below.glob, H.below.toBelow⟩
/-- called with plain values it returns plain values, of which something is known; the package's variables may be read -/
theorem AC_plainG {g : FuncId} (he : Entered P g) {vs : List Value} {Q : List Value → Prop} (hc : ∀ w0 w : World, Glob w0 → Below w0.heap.size w0 w → Calls P g vs.toArray w fun e w' => ∃ us, Q us ∧ e = .returned (.tuple us.toArray) ∧ Below w.heap.size w w') :
    AC P g (vs.map .raw) h fun c h' => ∃ us, Q us ∧ c = .tup (us.map .raw) ∧ h' = h := by
  intro w0 μ w xs H hv hk
  obtain rfl := vrs_raw hv
  unfold CallOK
  rw [he]
  refine ⟨rfl, (hc w0 w H.glob.1 H.glob.2).mono fun e w' ⟨us, hq, hee, hb⟩ => ⟨_, hee, μ, .tup (us.map .raw), h, ⟨us, hq, rfl, rfl⟩, ?_, ?_, H.world hb, Ext.refl _ _, Heap.le_refl _⟩⟩
  · refine .tup (by simp) fun i c x hi hx => ?_
    simp at hi hx
    obtain ⟨u, hu, rfl⟩ := hi
    rw [hu] at hx; injection hx with hx; subst hx
    exact .raw _
  · simp only [AV.ok]; exact okAll_raw us
/-- a row that the call makes, told in the world -/
theorem AC_rowG {g : FuncId} (he : Entered P g) {vs : List Value} {e : TypeId} {es n : Nat} {cells : List Value} (h1 : ∀ u ∈ cells, u.oneCell' = true) (hc : ∀ w0 w : World, Glob w0 → Below w0.heap.size w0 w → Calls P g vs.toArray w fun e' w' => ∃ v, e' = .returned v ∧ w'.ownsRow w.heap.size e es v n cells ∧ Below w.heap.size w w') :
    AC P g (vs.map .raw) h fun c h' => c = .own h.length es n ∧ h' = h ++ [⟨.row e es, cells.map .raw⟩] := by
  intro w0 μ w xs H hv hk
  obtain rfl := vrs_raw hv
  unfold CallOK
  rw [he]
  refine ⟨rfl, (hc w0 w H.glob.1 H.glob.2).mono fun e' w' ⟨v, hee, ho, hb⟩ => ?_⟩
  have hcr : CRs μ h (cells.map .raw) cells := ⟨by simp, fun i c x hi hx => by
    simp at hi
    obtain ⟨u, hu, rfl⟩ := hi
    rw [hu] at hx; injection hx with hx; subst hx
    exact ⟨.raw _, h1 _ (List.mem_of_getElem? hu)⟩⟩
  obtain ⟨g1, g2, g3⟩ := H.fresh hb ho (okAll_raw cells) hcr
  exact ⟨v, hee, _, _, _, ⟨rfl, rfl⟩, g2, g3, g1, Ext.grow _ _, Heap.le_append _ _⟩

/-- slices.Clone, from the guide's contracts -/
theorem AC_clone {g : FuncId} {e : TypeId} {es bytes : Nat} (he : Entered P g) (hes : 0 < es)
    (hC : ∀ (b off n c : Nat) (news : List Value) (w : World), news.length = n * es → n ≤ maxLen → n * bytes ≤ 140737488355328 → (∀ j u, news[j]? = some u → w.cell? ⟨b, off + j, none⟩ = some u) → (∀ u ∈ news, u.oneCell' = true) →
      Calls P g #[.slice (some ⟨b, off, none⟩) n c] w fun e' w' => ∃ v', e' = .returned v' ∧ w'.ownsRow w.heap.size e es v' n news ∧ v' ≠ .slice none 0 0 ∧ Below w.heap.size w w')
    (hN : ∀ (n c : Nat) (w : World), Calls P g #[.slice none n c] w fun e' w' => e' = .returned (.slice none 0 0) ∧ w' = w)
    {id n : Nat} {cells : List AV} (hr : rd h id (n * es) = some cells) (hn : n * bytes ≤ 140737488355328) (hm : n ≤ maxLen) :
    AC P g [.own id es n] h fun c h' => c = .own h.length es n ∧ h' = h ++ [⟨.row e es, cells⟩] := by
  intro w0 μ w xs H hv hk
  obtain ⟨x, rfl⟩ : ∃ x, xs = #[x] := by
    have hl := hv.1
    simp at hl
    obtain ⟨l⟩ := xs
    match l, hl with
    | [x], _ => exact ⟨x, rfl⟩
  have hx := hv.2 0 _ x rfl rfl
  have hsz := (rd_spec hr).2.2
  have hlen := (rd_spec hr).1
  have hxe := hx.own_get hsz
  obtain ⟨vals, hcr, hor⟩ := H.row_read hr
  unfold CallOK
  rw [he]
  refine ⟨rfl, ?_⟩
  cases hb : (μ id).base with
  | none =>
    have hce : cells = [] := by
      rcases hor with hor | ⟨b, o, hbo, _⟩
      · exact hor
      · rw [hb] at hbo; cases hbo
    subst hce
    have hn0 : n = 0 := by
      simp at hlen
      rcases Nat.mul_eq_zero.1 hlen.symm with h1 | h1 <;> omega
    subst hn0
    have : x = .slice none 0 (μ id).cap := by rw [hxe]; simp [Loc.at, hb]
    rw [this]
    exact (hN _ _ w).mono fun e' w' ⟨he', hw⟩ => by
      subst hw
      exact ⟨_, he', _, _, _, ⟨rfl, rfl⟩, vr_nilrow e es, ok_nilrow e es, H.nilrow e es, Ext.grow _ _, Heap.le_append _ _⟩
  | some p =>
    obtain ⟨b, o⟩ := p
    have : x = .slice (some ⟨b, o, none⟩) n (μ id).cap := by rw [hxe]; simp [Loc.at, hb]
    rw [this]
    refine (hC b o n _ vals w (hcr.1.symm.trans hlen) hm hn (fun j u hj => ?_) (fun u hu => ?_)).mono fun e' w' ⟨v', he', ho, _, hbel⟩ => ?_
    · rcases hor with rfl | ⟨b', o', hbo, hce⟩
      · have : vals = [] := List.eq_nil_of_length_eq_zero hcr.1.symm
        subst this; simp at hj
      · rw [hb] at hbo; injection hbo with hbo; injection hbo with h1 h2; subst h1; subst h2
        exact hce j u hj
    · obtain ⟨j, hj⟩ := List.getElem?_of_mem hu
      have hjl : j < cells.length := by rw [hcr.1]; exact lt_len hj
      exact (hcr.2 j _ u (List.getElem?_eq_getElem hjl) hj).2
    · obtain ⟨h1, h2, h3⟩ := H.fresh hbel ho (H.closed_rd hr) hcr
      exact ⟨v', he', _, _, _, ⟨rfl, rfl⟩, h2, h3, h1, Ext.grow _ _, Heap.le_append _ _⟩

end
end Go.Ab
