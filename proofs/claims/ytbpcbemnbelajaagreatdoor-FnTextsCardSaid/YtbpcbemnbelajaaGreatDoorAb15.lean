/- Functions: from the body to the contract. Plain library text, no statement. -/
import Derived.Test.YtbpcbemnbelajaaGreatDoorAb14
namespace Go.Ab
open Go Go.RowKit

def closedH (h : Heap) : Prop := ∀ (id : Nat) (b : Blk), h[id]? = some b → okAll h b.cells = true

def clean (h : Heap) (s : S) : S := fun t => if (s t).ok h = true then s t else .dead

/-- What has come behind the heap is forgotten. -/
def Drop (h0 : Heap) (s : S) (h : Heap) (K : S → Heap → Prop) : Prop :=
  ∃ h1 ext, h = h1 ++ ext ∧ closedH h1 ∧ h0.le h1 ∧ K (clean h1 s) h1

section
variable {P : Program} {n : Nat} {h0 h : Heap} {s : S} {Q Q' : Exit → S → Heap → Prop}

theorem sz_prefix {h1 ext : Heap} {id st : Nat} (hs : sz h1 id = some st) : sz (h1 ++ ext) id = some st := sz_sub (Heap.sub_append _ _) hs

/-- What reads so in a heap reads so in the front of it. -/
theorem VR.front {μ : Mu} {h1 ext : Heap} {c : AV} {x : Value} (hv : VR μ (h1 ++ ext) c x) : VR μ h1 c x := by
  induction hv with
  | dead => exact .dead _
  | raw => exact .raw _
  | ptr h1 hg => exact .ptr h1 fun hs => hg (sz_prefix hs)
  | own h1 hg => exact .own h1 fun hs => hg (sz_prefix hs)
  | sub h1 hg => exact .sub h1 fun hs => hg (sz_prefix hs)
  | agg hl _ ih => exact .agg hl ih
  | tup hl _ ih => exact .tup hl ih
  | fn hl _ ih => exact .fn hl ih

theorem HR.front {w0 w : World} {μ : Mu} {h1 ext : Heap} (H : HR w0 μ (h1 ++ ext) w) (hc : closedH h1) : HR w0 μ h1 w := by
  have up : ∀ {id : Nat} {b : Blk}, h1[id]? = some b → (h1 ++ ext)[id]? = some b := fun hb => Heap.sub_append _ _ _ _ hb
  refine ⟨H.below, hc, fun id e es cells hb => ?_, fun id cells hb j c hj => ?_, fun i j e es cs e' es' cs' hij hi hj => H.apart i j e es cs e' es' cs' hij (up hi) (up hj)⟩
  · obtain ⟨m, xs, ho, hcr⟩ := H.row id e es cells (up hb)
    exact ⟨m, xs, ho, hcr.1, fun i c x hi hx => ⟨(hcr.2 i c x hi hx).1.front, (hcr.2 i c x hi hx).2⟩⟩
  · obtain ⟨b, o, x, h1, h2, h3, h4⟩ := H.ro id cells (up hb) j c hj
    exact ⟨b, o, x, h1, h2, h3, h4.1.front, h4.2⟩

theorem Rel.drop {w0 w : World} {μ0 μ : Mu} {a : Act} {h1 ext : Heap} (r : Rel w0 μ0 h0 n μ (h1 ++ ext) s a w) (hc : closedH h1) (hl : h0.le h1) : Rel w0 μ0 h0 n μ h1 (clean h1 s) a w := by
  refine ⟨r.size, r.defers, fun t => ?_, r.heap.front hc, fun c x hc' hv => (r.ext c x hc' hv).front, hl⟩
  unfold clean
  split
  · rename_i hk; exact ⟨hk, (r.slots t).2.front⟩
  · exact ⟨rfl, .dead _⟩

theorem lw_closed {c : LC} (hc : closedH h → h0.le h → LW P n h0 c Q s h) : LW P n h0 c Q s h :=
  fun C hC w0 μ0 μ a w r => hc r.heap.closed r.le C hC w0 μ0 μ a w r

theorem lw_drop {c : LC} {h1 ext : Heap} (hcl : closedH h1) (hl : h0.le h1) (hc : LW P n h0 c Q (clean h1 s) h1) : LW P n h0 c Q s (h1 ++ ext) :=
  fun C hC w0 μ0 μ a w r => hc C hC w0 μ0 μ a w (r.drop hcl hl)

/-- A loop that forgets, round by round, what it has made for itself. -/
theorem lw_loopD {c : LC} (I : Nat → S → Heap → Prop) (k : Nat) (hI : I k s h)
    (round : ∀ k s h, I k s h → closedH h → h0.le h → LW P n h0 c (thenQ (fun s' h' => ∃ k', k' < k ∧ Drop h0 s' h' (I k')) Q) s h) : LW P n h0 (.loop c) Q s h := by
  intro C hC w0 μ0 μ a w r
  obtain ⟨c1, rfl, hC1⟩ := lite_loop hC
  have key : ∀ m k, k < m → ∀ (μ : Mu) (h : Heap) (s : S) (a : Act) (w : World), I k s h → Rel w0 μ0 h0 n μ h s a w → Code.rounds P c1 (LQ w0 μ0 h0 n Q) m a w := by
    intro m
    induction m with
    | zero => intro k hk; omega
    | succ m ih =>
      intro k hk μ h s a w hI r
      rw [rounds_succ]
      refine wp_mono (round k s h hI r.heap.closed r.le c1 hC1 w0 μ0 μ a w r) fun e a' w' ⟨μ', h', s', q, r'⟩ => ?_
      cases e with
      | normal =>
        obtain ⟨k', hk', h1, ext, rfl, hcl, hl, hI'⟩ := q
        exact ih k' (by omega) μ' h1 (clean h1 s') a' w' hI' (r'.drop hcl hl)
      | _ => exact ⟨μ', h', s', q, r'⟩
  exact wp_loop_rounds (k + 1) (key (k + 1) k (by omega) μ h s a w hI r)

/-! ### results -/

def resP (P : Program) (s : S) (h : Heap) (K : AV → Prop) : ResultVar → Prop
  | .tmp t => K (s t)
  | .cell a t => opP P s h (.load t (.tmp a)) fun c _ => K c

def resAll (P : Program) (s : S) (h : Heap) : List ResultVar → List AV → (List AV → Prop) → Prop
  | [], acc, K => K acc
  | r :: rs, acc, K => resP P s h (fun c => resAll P s h rs (acc ++ [c]) K) r

def retP (P : Program) (rs : List ResultVar) (s : S) (h : Heap) (K : AV → Prop) : Prop :=
  resAll P s h rs [] fun cs => match cs with
    | [c] => K c
    | cs => K (.tup cs)

def retQ (P : Program) (rs : List ResultVar) (Q : AV → Heap → Prop) : Exit → S → Heap → Prop
  | .normal, s, h | .ret, s, h => retP P rs s h fun c => Q c h
  | _, _, _ => False

def entry (args : List AV) : S := fun t => (args[t]?).getD (.raw undef)

variable {w0 w : World} {μ : Mu}

def resOne (tmps : Array Value) : ResultVar → Sem Value
  | .tmp t => pure (tmps.getD t undef)
  | .cell b t => do loadVar t (← asAddr (tmps.getD b undef))

theorem res_sound {a : Act} (H : HR w0 μ h w) (hs : SR μ h s a.tmps) {K : AV → Prop} {r : ResultVar} (hp : resP P s h K r) :
    ∃ c x, K c ∧ c.ok h = true ∧ VR μ h c x ∧ (resOne a.tmps r).run P w = .ok x w := by
  cases r with
  | tmp t => exact ⟨_, _, hp, (hs t).1, (hs t).2, rfl⟩
  | cell b t =>
    have hp' : opP P s h (.load t (.tmp b)) fun c _ => K c := hp
    simp only [opP, ev] at hp'
    split at hp'
    · rename_i id st off y hx hy
      split at hp'
      · rename_i cells hr
        obtain ⟨_, _, hsz⟩ := rd_spec hr
        have hv := (hs b).2
        rw [hx] at hv
        obtain ⟨bb, o, hbase, hxe⟩ := hv.ptr_get hsz
        obtain ⟨h1, h2⟩ := loadVar_run (P := P) (t := t) hy H hr hbase (off := off)
        cases hagg : y.agg with
        | true =>
          simp only [hagg, if_true] at hp'
          obtain ⟨x, hx', hvx⟩ := h1 hagg hp'.1
          refine ⟨_, x, hp'.2, ?_, hvx, by simp [resOne, hxe, asAddr, hx']⟩
          simp only [AV.ok]
          exact okAll_drop (H.closed_rd hr) _ _
        | false =>
          simp only [hagg, Bool.false_eq_true, if_false] at hp'
          split at hp'
          · rename_i c hc
            obtain ⟨x, hx', hvx⟩ := h2 hagg c hc
            exact ⟨_, x, hp', ok_of_mem (H.closed_rd hr) hc, hvx, by simp [resOne, hxe, asAddr, hx']⟩
          · exact hp'.elim
      · exact hp'.elim
    · exact hp'.elim

theorem resAll_sound {a : Act} (H : HR w0 μ h w) (hs : SR μ h s a.tmps) {K : List AV → Prop} : ∀ (rs : List ResultVar) (acc : List AV), resAll P s h rs acc K →
    ∃ cs xs, K (acc ++ cs) ∧ okAll h cs = true ∧ VRs μ h cs xs ∧
      (rs.mapM (resOne a.tmps)).run P w = .ok xs w := by
  intro rs
  induction rs with
  | nil => intro acc hp; exact ⟨[], [], by simpa [resAll] using hp, rfl, ⟨rfl, fun i c x hi => by simp at hi⟩, by simp⟩
  | cons r rs ih =>
    intro acc hp
    obtain ⟨c, x, hk, hc, hv, hr⟩ := res_sound H hs hp
    obtain ⟨cs, xs, hK, hok, hvs, hrs⟩ := ih _ hk
    refine ⟨c :: cs, x :: xs, by simpa using hK, by simp [okAll, hc, hok], ⟨by simp [hvs.1], fun i d y hd hy => ?_⟩, ?_⟩
    · cases i with
      | zero => simp at hd hy; subst hd; subst hy; exact hv
      | succ i => exact hvs.2 i d y (by simpa using hd) (by simpa using hy)
    · rw [List.mapM_cons, Sem.run_bind, hr]
      simp only [Result.andThen_ok, Sem.run_bind, hrs, Sem.run_pure]

theorem ret_sound {a : Act} (H : HR w0 μ h w) (hs : SR μ h s a.tmps) {fn : Func} {K : AV → Prop} (hp : retP P fn.results.toList s h K) :
    ∃ c x, K c ∧ c.ok h = true ∧ VR μ h c x ∧ (results fn a.tmps).run P w = .ok x w := by
  obtain ⟨cs, xs, hK, hok, hvs, hr⟩ := resAll_sound H hs _ _ hp
  have hrun : (results fn a.tmps).run P w = .ok (if h : xs.toArray.size = 1 then xs.toArray[0] else .tuple xs.toArray) w := by
    have e : results fn a.tmps = (do let vs ← fn.results.mapM (resOne a.tmps); pure (if h : vs.size = 1 then vs[0] else .tuple vs) : Sem Value) := rfl
    rw [e, Sem.run_bind, Array.mapM_eq_mapM_toList, Sem.run_map, hr]
    rfl
  simp only [List.nil_append] at hK
  have hl := hvs.1
  cases cs with
  | nil =>
    have hx : xs = [] := List.eq_nil_of_length_eq_zero (by simpa using hl.symm)
    subst hx
    exact ⟨.tup [], .tuple #[], hK, rfl, .tup rfl (fun i c x hi => by simp at hi), by rw [hrun]; rfl⟩
  | cons c cs =>
    cases cs with
    | nil =>
      obtain ⟨x, rfl⟩ : ∃ x, xs = [x] := by
        cases xs with
        | nil => simp at hl
        | cons x xs => cases xs with
          | nil => exact ⟨x, rfl⟩
          | cons y ys => simp at hl
      exact ⟨c, x, hK, by simpa [okAll] using hok, hvs.2 0 c x rfl rfl, by rw [hrun]; rfl⟩
    | cons d ds =>
      refine ⟨.tup (c :: d :: ds), .tuple xs.toArray, hK, by simpa only [AV.ok] using hok, .tup (by simpa using hl) (fun i c x hi hx => hvs.2 i c x hi (by simpa using hx)), ?_⟩
      rw [hrun]
      have : xs.length ≠ 1 := by simp at hl; omega
      simp [this]

/-! ### from the body to the contract -/

theorem entry_sound {args : List AV} {xs : Array Value} (hv : VRs μ h args xs.toList) (hk : okAll h args = true) (m : Nat) : SR μ h (entry args) (xs ++ Array.replicate m undef) := by
  intro t
  unfold entry
  have hl := hv.1
  simp at hl
  cases ht : args[t]? with
  | none =>
    have : args.length ≤ t := by
      rcases Nat.lt_or_ge t args.length with h' | h'
      · rw [List.getElem?_eq_getElem h'] at ht; cases ht
      · exact h'
    refine ⟨rfl, ?_⟩
    have hu : (xs ++ Array.replicate m undef).getD t undef = undef := by
      rw [Array.getD_eq_getD_getElem?, Array.getElem?_append_right (by omega)]
      rcases Nat.lt_or_ge (t - xs.size) m with h' | h'
      · simp [h']
      · rw [Array.getElem?_eq_none (by simpa using h')]; rfl
    rw [hu]
    exact .raw _
  | some c =>
    have htl := lt_len ht
    refine ⟨ok_of_mem hk ht, ?_⟩
    have hx : t < xs.size := by omega
    have : (xs ++ Array.replicate m undef).getD t undef = xs[t] := by
      rw [Array.getD_eq_getD_getElem?, Array.getElem?_append_left hx, Array.getElem?_eq_getElem hx]; rfl
    rw [this]
    exact hv.2 t c _ ht (by simp [hx])

theorem callFunc_run {g : FuncId} {fn : Func} (hf : P.funcs[g]? = some fn) (hn : (fn.name == "runtime.NumGoroutine") = false) (hb : fn.body.isNone = false) (xs : Array Value) (w : World) :
    (callFunc g xs).run P w = .ok (.enter g xs) w := by
  have hn' : ¬ fn.name = "runtime.NumGoroutine" := by simpa using hn
  have hb' : ¬ fn.body = none := by intro h; rw [h] at hb; cases hb
  simp [callFunc, hf, hn', hb']

/-- **The contract of a function, from its body.** -/
theorem AC_of_LW {g : FuncId} {fn : Func} {C : Code} {c : LC} {args : List AV} {Q : AV → Heap → Prop} (hf : P.funcs[g]? = some fn) (hn : (fn.name == "runtime.NumGoroutine") = false) (hb : fn.body = some C) (hc : lite C = some c) {n : Nat} (hnt : fn.ntmps = n)
    (hlen : args.length ≤ n) {rs : List ResultVar} (hrs : fn.results.toList = rs) (H : LW P n h c (retQ P rs Q) (entry args) h) : AC P g args h Q := by
  subst hnt; subst hrs
  intro w0 μ w xs HH hv hk
  unfold CallOK
  rw [callFunc_run hf hn (by rw [hb]; rfl)]
  refine ⟨rfl, calls_of_wp hf hb ?_⟩
  have hl := hv.1
  simp at hl
  have r : Rel w0 μ h fn.ntmps μ h (entry args) { tmps := xs ++ Array.replicate (fn.ntmps - xs.size) undef, defers := [] } w :=
    ⟨by simp; omega, rfl, entry_sound hv hk _, HH, Ext.refl _ _, Heap.le_refl _⟩
  refine wp_mono (H C hc w0 μ μ _ w r) fun e a w' ⟨μ', h', s', q, r'⟩ => ?_
  have fin : retP P fn.results.toList s' h' (fun c => Q c h') → ∃ v, (results fn a.tmps).run P w' = .ok v w' ∧ ∃ x, Ending.returned v = .returned x ∧ ∃ μ'' c h'', Q c h'' ∧ VR μ'' h'' c x ∧ c.ok h'' = true ∧ HR w0 μ'' h'' w' ∧ Ext μ h μ'' h'' ∧ h.le h'' := by
    intro q
    obtain ⟨c, x, hq, hck, hvx, hr⟩ := ret_sound r'.heap r'.slots q
    exact ⟨x, hr, x, rfl, μ', c, h', hq, hvx, hck, r'.heap, r'.ext, r'.le⟩
  cases e with
  | normal => exact ⟨r'.defers, fin q⟩
  | ret => exact ⟨r'.defers, fin q⟩
  | _ => exact q.elim

/-- What is asked of a function's text, all closed. -/
def FnOk (P : Program) (g : FuncId) (c : LC) (n : Nat) (rs : List ResultVar) : Prop :=
  ∃ fn : Func, P.funcs[g]? = some fn ∧ (fn.name == "runtime.NumGoroutine") = false ∧ fn.body.bind lite = some c ∧ fn.ntmps = n ∧ fn.results.toList = rs

theorem AC_of {g : FuncId} {c : LC} {n : Nat} {rs : List ResultVar} (hok : FnOk P g c n rs) {args : List AV} {Q : AV → Heap → Prop} (hlen : args.length ≤ n) (H : LW P n h c (retQ P rs Q) (entry args) h) : AC P g args h Q := by
  obtain ⟨fn, hf, hn, hb, hnt, hrs⟩ := hok
  cases hbb : fn.body with
  | none => rw [hbb] at hb; cases hb
  | some C => rw [hbb] at hb; exact AC_of_LW hf hn hbb hb hnt hlen hrs H

/-- What the call has made for itself is forgotten. -/
theorem AC.front {g : FuncId} {args : List AV} {Q Q' : AV → Heap → Prop} (hc : AC P g args h Q)
    (hq : closedH h → ∀ c h', Q c h' → ∃ h1 ext, h' = h1 ++ ext ∧ closedH h1 ∧ h.le h1 ∧ c.ok h1 = true ∧ Q' c h1) : AC P g args h Q' := by
  intro w0 μ w xs H hv hk
  refine (hc w0 μ w xs H hv hk).mono fun x w' ⟨μ', c, h', q, hvx, hck, H', hE, hL⟩ => ?_
  obtain ⟨h1, ext, rfl, hcl, hl, hok, q'⟩ := hq H.closed c h' q
  exact ⟨μ', c, h1, q', hvx.front, hok, H'.front hcl, fun c x hc hv => (hE c x hc hv).front, hl⟩

/-- A result that is no reference; all that the call has made is forgotten. -/
theorem AC.plain {g : FuncId} {args : List AV} {v : Value} (hc : AC P g args h fun c h' => c = .raw v ∧ ∃ ext, h' = h ++ ext) : AC P g args h fun c h' => c = .raw v ∧ h' = h :=
  hc.front fun hcl c h' ⟨hcv, ext, he⟩ => ⟨h, ext, he, hcl, Heap.le_refl _, by rw [hcv]; rfl, hcv, rfl⟩

end
end Go.Ab
