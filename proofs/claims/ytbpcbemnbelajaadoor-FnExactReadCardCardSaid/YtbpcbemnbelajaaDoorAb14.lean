/- Code on the abstract heap, and functions. Plain library text, no statement. -/
import Derived.Test.YtbpcbemnbelajaaDoorAb13
import Derived.LoopN
namespace Go.Ab
open Go Go.RowKit

section
variable {P : Program} {n : Nat} {ops : Array Oper}

theorem listedOf_size (m : Nat) (L : List Nat) : (listedOf m L).size = m := by simp [listedOf]
theorem listedOf_nil (m : Nat) : listedOf m [] = Array.replicate m false := by
  apply Array.ext
  · simp [listedOf]
  · intro j h1 h2; simp [listedOf]
theorem listedOf_get {m j : Nat} {L : List Nat} (hj : j < m) (b : Bool) : (listedOf m L).getD j b = L.contains j := by
  simp [listedOf, Array.getD_eq_getD_getElem?, hj]
theorem listedOf_out {m j : Nat} {L : List Nat} (hj : ¬ j < m) (b : Bool) : (listedOf m L).getD j b = b := by
  rw [Array.getD_eq_getD_getElem?, Array.getElem?_eq_none (by rw [listedOf_size]; omega)]; rfl
theorem listedOf_succ {m i : Nat} {L : List Nat} (hi : i < m) : (listedOf m L).setIfInBounds i true = listedOf m (L ++ [i]) := by
  apply Array.ext
  · simp [listedOf]
  · intro j h1 h2
    by_cases hij : i = j
    · subst hij; simp [listedOf]
    · rw [Array.getElem_setIfInBounds_ne (by simpa using h1) hij]
      simp [listedOf]
      omega

theorem freeOf_spec {oi ok : Oper} (h : freeOf ops oi ok = true) : ∀ t, oi.dst = some t → t ∉ ok.looksAt ops := by
  intro t ht
  unfold freeOf at h
  rw [ht] at h
  simpa using h

theorem mem_looksOf {l : List Nat} {k : Nat} {ok : Oper} {x : Operand} (hk : k ∈ l) (ho : ops[k]? = some ok) (hx : x ∈ ok.op.operands) : x ∈ looksOf ops l := by
  unfold looksOf
  refine List.mem_flatMap.2 ⟨k, hk, ?_⟩
  rw [ho]
  simpa using hx

theorem any_of_all {F : Nat → List Nat} (hF : ∀ (i : Nat) oi, ops[i]? = some oi → mild oi.op = true → F i = []) {K : S → Heap → Prop} : ∀ (rest L : List Nat) (los : List LO), liteOrd ops F rest = some los → lexGo ops F L rest = true →
    (∀ k ok, ops[k]? = some ok → k ∈ L → ∀ e ∈ ok.after, Region.binds .any e = true → e.on ∈ L) → (∀ k ∈ L, k < ops.size) → ∀ fuel, rest.length ≤ fuel → ∀ s h, allP P n true los s h K → anyP P n ops F K fuel (listedOf ops.size L) s h := by
  intro rest
  induction rest with
  | nil =>
    intro L los hl hlex _ _ fuel _ s h hp
    simp [liteOrd] at hl
    subst hl
    have hr : Region.ready .any ops (listedOf ops.size L) = [] := by
      cases hr : Region.ready .any ops (listedOf ops.size L) with
      | nil => rfl
      | cons j rs =>
        exfalso
        have hj : j ∈ Region.ready .any ops (listedOf ops.size L) := by rw [hr]; exact List.mem_cons_self
        obtain ⟨h1, o, ho, _⟩ := mem_ready.1 hj
        have hjl := (Array.getElem?_eq_some_iff.1 ho).1
        rw [listedOf_get hjl] at h1
        simp only [lexGo, List.all_eq_true] at hlex
        rw [hlex j (by simpa using hjl)] at h1
        cases h1
    cases fuel with
    | zero => exact ⟨hr, hp⟩
    | succ fuel => exact ⟨fun _ => hp, fun i hi => by rw [hr] at hi; cases hi⟩
  | cons i rest ih =>
    intro L los hl hlex hdc hLs fuel hfu s h hp
    simp only [lexGo, Bool.and_eq_true, decide_eq_true_eq] at hlex
    obtain ⟨⟨⟨⟨hilt, hiL⟩, hlx⟩, hFL⟩, hlex⟩ := hlex
    unfold liteOrd at hl
    split at hl
    · cases hl
    · rename_i oi hoi
      split at hl
      · rename_i lo los' hli hl'
        injection hl with hl; subst hl
        cases fuel with
        | zero => simp at hfu
        | succ fuel =>
          have hirdy : i ∈ Region.ready .any ops (listedOf ops.size L) := by
            unfold lexAt at hlx
            simp only [Bool.and_eq_true] at hlx
            simpa using hlx.1
          have hdc' : ∀ k ok, ops[k]? = some ok → k ∈ L ++ [i] → ∀ e ∈ ok.after, Region.binds .any e = true → e.on ∈ L ++ [i] := fun k ok hk hkl e he hb => by
            rcases List.mem_append.1 hkl with hkl | hkl
            · exact List.mem_append_left _ (hdc k ok hk hkl e he hb)
            · have : k = i := by simpa using hkl
              subst this
              obtain ⟨_, o2, ho2, hall2⟩ := mem_ready.1 hirdy
              rw [hk] at ho2; injection ho2 with ho2; subst ho2
              have := hall2 e he hb
              by_cases hlt : e.on < ops.size
              · rw [listedOf_get hlt] at this
                exact List.mem_append_left _ (by simpa using this)
              · rw [listedOf_out hlt] at this; cases this
          have next : ∀ s h, allP P n true los' s h K → anyP P n ops F K fuel ((listedOf ops.size L).setIfInBounds i true) s h := by
            intro s h hh
            rw [listedOf_succ hilt]
            exact ih (L ++ [i]) los' hl' hlex hdc' (fun k hk => by
              rcases List.mem_append.1 hk with hk | hk
              · exact hLs k hk
              · have : k = i := by simpa using hk
                omega) fuel (by simpa using hfu) s h hh
          obtain ⟨e1, e2, e3⟩ := lite_fields hli
          have ef := lite_f hli
          have hiL' : L.contains i = false := by simpa using hiL
          unfold lexAt at hlx
          simp only [Bool.and_eq_true, Bool.or_eq_true] at hlx
          obtain ⟨hin, hlx⟩ := hlx
          rcases hlx with hlx | hlx
          · have hr : Region.ready .any ops (listedOf ops.size L) = [i] := by simpa using hlx
            refine ⟨fun hn => (by rw [hr] at hn; cases hn), fun j hj => ?_⟩
            rw [hr] at hj
            simp at hj
            subst hj
            refine ⟨oi, lo, hoi, hli, oneZ_mono (oneZ_of hp (fun hm => ?_)) (fun h' hz k hk _ ok hok x hx => hz x (by rw [ef]; exact mem_looksOf hk hok hx)) next⟩
            rw [e2] at hm
            rw [ef, hF j oi hoi hm]; rfl
          · simp only [Bool.and_eq_true, hoi] at hlx
            obtain ⟨⟨hcalm, hfr⟩, hall⟩ := hlx
            obtain ⟨c, hy, hk⟩ := ya_of_one (by rw [e2]; exact hcalm) (one_of_oneC (preF_elim hp))
            have hmi : mild oi.op = true := by
              revert hcalm
              generalize oi.op = q
              cases q <;> simp [calm, mild]
              rename_i cc
              obtain ⟨callee, args, tys⟩ := cc
              cases callee <;> simp
              rename_i bt
              cases bt <;> simp
            refine any_first hoi hli rfl hcalm fuel _ s h (fun j oj hoj hji hjun hnot hnw => ?_) (fun k ok hok hkl e he hb => ?_) (fun k ok hok hor => ?_) (by simpa using hin) (hF i oi hoi hmi) hy (next _ _ hk)
            · have hjl := (Array.getElem?_eq_some_iff.1 hoj).1
              rw [listedOf_get hjl] at hjun
              rw [List.all_eq_true] at hall
              have := hall j (by simpa using hjl)
              simp only [Bool.or_eq_true, hoj, Bool.and_eq_true, hjun, Bool.false_eq_true, false_or, beq_iff_eq] at this
              rcases this with h1 | (h1 | h1) | h1
              · exact absurd h1 hji
              · exfalso
                unfold waits at h1
                obtain ⟨e, he, hb⟩ := Array.any_eq_true'.1 h1
                simp only [Bool.and_eq_true, beq_iff_eq] at hb
                exact hnot e he hb.1 hb.2
              · refine ⟨h1.1, ?_⟩
                rcases h1.2 with (h2 | h2) | h2
                · exact .inl h2
                · exact .inr (.inl h2)
                · exact .inr (.inr (by simpa using h2))
              · rw [hnw] at h1; cases h1
            · have hks := (Array.getElem?_eq_some_iff.1 hok).1
              rw [listedOf_get hks] at hkl
              have := hdc k ok hok (by simpa using hkl) e he hb
              have hes : e.on < ops.size := by
                exact hLs _ this
              rw [listedOf_get hes]; simpa using this
            · have hkl := (Array.getElem?_eq_some_iff.1 hok).1
              rw [List.all_eq_true] at hfr
              have hmem : k ∈ i :: L := by
                rcases hor with rfl | hor
                · exact List.mem_cons_self
                · rw [listedOf_get hkl] at hor
                  exact List.mem_cons_of_mem _ (by simpa using hor)
              have := hfr k hmem
              rw [hok] at this
              exact freeOf_spec this
      · cases hl

/-- whatever order of the tree is taken -/
def treeP (P : Program) (n : Nat) : LT → S → Heap → (S → Heap → Prop) → Prop
  | .fin, s, h, K => K s h
  | .op o r, s, h, K => preF s o (oneC P n true o s h fun s h => treeP P n r s h K)
  | .alt a b, s, h, K => treeP P n a s h K ∧ treeP P n b s h K

theorem mild_of_calm {o : Op} (hcalm : calm o = true) : mild o = true := by
  revert hcalm
  cases o <;> simp [calm, mild]
  rename_i cc
  obtain ⟨callee, args, tys⟩ := cc
  cases callee <;> simp
  rename_i bt
  cases bt <;> simp

/-- the operations that have come up are closed under what they wait for -/
def Dc (ops : Array Oper) (L : List Nat) : Prop := (∀ k ok, ops[k]? = some ok → k ∈ L → ∀ e ∈ ok.after, Region.binds .any e = true → e.on ∈ L) ∧ ∀ k ∈ L, k < ops.size
theorem Dc.snoc {L : List Nat} {i : Nat} (hd : Dc ops L) (hi : i < ops.size) (hirdy : i ∈ Region.ready .any ops (listedOf ops.size L)) : Dc ops (L ++ [i]) := by
  refine ⟨fun k ok hk hkl e he hb => ?_, fun k hk => ?_⟩
  · rcases List.mem_append.1 hkl with hkl | hkl
    · exact List.mem_append_left _ (hd.1 k ok hk hkl e he hb)
    · have : k = i := by simpa using hkl
      subst this
      obtain ⟨_, o2, ho2, hall2⟩ := mem_ready.1 hirdy
      rw [hk] at ho2; injection ho2 with ho2; subst ho2
      have := hall2 e he hb
      by_cases hlt : e.on < ops.size
      · rw [listedOf_get hlt] at this
        exact List.mem_append_left _ (by simpa using this)
      · rw [listedOf_out hlt] at this; cases this
  · rcases List.mem_append.1 hk with hk | hk
    · exact hd.2 k hk
    · have : k = i := by simpa using hk
      omega

/-- one of the operations that may come up, taken -/
theorem any_take1 {F : Nat → List Nat} (hF : ∀ (i : Nat) oi, ops[i]? = some oi → mild oi.op = true → F i = []) {K1 : Array Bool → S → Heap → Prop} {i : Nat} {oi : Oper} {lo : LO} {L : List Nat} {s : S} {h : Heap} (hoi : ops[i]? = some oi) (hli : liteOp ops (looksOf ops (F i)) oi = some lo)
    (hp : preF s lo (oneC P n true lo s h (K1 ((listedOf ops.size L).setIfInBounds i true)))) : oneZ P n (keepsF ops F (listedOf ops.size L) i s h) lo s h (K1 ((listedOf ops.size L).setIfInBounds i true)) := by
  obtain ⟨e1, e2, e3⟩ := lite_fields hli
  have ef := lite_f hli
  refine oneZ_mono (oneZ_of hp (fun hm => ?_)) (fun h' hz k hk _ ok hok x hx => hz x (by rw [ef]; exact mem_looksOf hk hok hx)) (fun _ _ hk => hk)
  rw [e2] at hm
  rw [ef, hF i oi hoi hm]; rfl

theorem preF_mono {o : LO} {s : S} {A B : Prop} (hp : preF s o A) (hab : A → B) : preF s o B := by
  unfold preF at *
  split at hp
  · exact hab hp
  · split at hp
    · exact hab hp
    · exact ⟨hp.1, hab hp.2⟩
theorem oneC_mono {o : LO} {s : S} {h : Heap} {K K' : S → Heap → Prop} (hp : oneC P n true o s h K) (hk : ∀ s' h', K s' h' → K' s' h') : oneC P n true o s h K' := by
  refine guardP_mono hp (fun hp => doP_mono hp fun c h' b => ?_) (fun hp => putK_iff.2 ⟨(putK_iff.1 hp).1, hk _ _ (putK_iff.1 hp).2⟩)
  unfold preC at *
  cases hc : isCall o.o <;> rw [hc] at b
  · exact putK_iff.2 ⟨(putK_iff.1 b).1, hk _ _ (putK_iff.1 b).2⟩
  · exact ⟨b.1, putK_iff.2 ⟨(putK_iff.1 b.2).1, hk _ _ (putK_iff.1 b.2).2⟩⟩

theorem any_of_tree {F : Nat → List Nat} (hF : ∀ (i : Nat) oi, ops[i]? = some oi → mild oi.op = true → F i = []) {K : S → Heap → Prop} : ∀ (t : IT) (lt : LT), liteTree ops F t = some lt →
    ∀ (L : List Nat), Dc ops L →
      (treeOk ops F false L t = true → ∀ fuel, t.depth ≤ fuel → ∀ s h, treeP P n lt s h K → anyP P n ops F K fuel (listedOf ops.size L) s h) ∧
      (treeOk ops F true L t = true → ∀ fuel, t.depth ≤ fuel + 1 → ∀ s h, treeP P n lt s h K → ∀ i ∈ t.heads, ∃ o lo, ops[i]? = some o ∧ liteOp ops (looksOf ops (F i)) o = some lo ∧ oneZ P n (keepsF ops F (listedOf ops.size L) i s h) lo s h (anyP P n ops F K fuel ((listedOf ops.size L).setIfInBounds i true))) := by
  intro t
  induction t with
  | fin =>
    intro lt hl L hd
    simp [liteTree] at hl
    subst hl
    refine ⟨fun hok fuel _ s h hp => ?_, fun hok => by simp [treeOk] at hok⟩
    simp only [treeOk, Bool.not_false, Bool.true_and] at hok
    have hr : Region.ready .any ops (listedOf ops.size L) = [] := by
      cases hr : Region.ready .any ops (listedOf ops.size L) with
      | nil => rfl
      | cons j rs =>
        exfalso
        have hj : j ∈ Region.ready .any ops (listedOf ops.size L) := by rw [hr]; exact List.mem_cons_self
        obtain ⟨h1, o, ho, _⟩ := mem_ready.1 hj
        have hjl := (Array.getElem?_eq_some_iff.1 ho).1
        rw [listedOf_get hjl] at h1
        simp only [List.all_eq_true] at hok
        rw [hok j (by simpa using hjl)] at h1
        cases h1
    cases fuel with
    | zero => exact ⟨hr, hp⟩
    | succ fuel => exact ⟨fun _ => hp, fun i hi => by rw [hr] at hi; cases hi⟩
  | op i r ih =>
    intro lt hl L hd
    unfold liteTree at hl
    split at hl
    · cases hl
    · rename_i oi hoi
      split at hl
      · rename_i lo lr hli hlr
        injection hl with hl; subst hl
        obtain ⟨e1, e2, e3⟩ := lite_fields hli
        have nextOf : i ∈ Region.ready .any ops (listedOf ops.size L) → i < ops.size → treeOk ops F false (L ++ [i]) r = true → ∀ fuel, r.depth ≤ fuel → ∀ s h, treeP P n lr s h K → anyP P n ops F K fuel ((listedOf ops.size L).setIfInBounds i true) s h := by
          intro hirdy hilt hok fuel hfu s h hh
          rw [listedOf_succ hilt]
          exact (ih lr hlr (L ++ [i]) (hd.snoc hilt hirdy)).1 hok fuel hfu s h hh
        refine ⟨fun hok fuel hfu s h hp => ?_, fun hok fuel hfu s h hp j hj => ?_⟩
        · simp only [treeOk, Bool.and_eq_true, decide_eq_true_eq, Bool.false_eq_true, if_false] at hok
          obtain ⟨⟨⟨⟨hilt, hiL⟩, hlx⟩, hFL⟩, hok⟩ := hok
          have hirdy : i ∈ Region.ready .any ops (listedOf ops.size L) := by
            unfold lexAt at hlx
            simp only [Bool.and_eq_true] at hlx
            simpa using hlx.1
          simp only [IT.depth] at hfu
          cases fuel with
          | zero => omega
          | succ fuel =>
            have next := nextOf hirdy hilt hok fuel (by omega)
            unfold lexAt at hlx
            simp only [Bool.and_eq_true, Bool.or_eq_true] at hlx
            obtain ⟨hin, hlx⟩ := hlx
            rcases hlx with hlx | hlx
            · have hr : Region.ready .any ops (listedOf ops.size L) = [i] := by simpa using hlx
              refine ⟨fun hn => (by rw [hr] at hn; cases hn), fun j hj => ?_⟩
              rw [hr] at hj
              simp at hj
              subst hj
              exact ⟨oi, lo, hoi, hli, any_take1 hF (K1 := fun A => anyP P n ops F K fuel A) hoi hli (preF_mono hp fun hp => oneC_mono hp next)⟩
            · simp only [Bool.and_eq_true, hoi] at hlx
              obtain ⟨⟨hcalm, hfr⟩, hall⟩ := hlx
              obtain ⟨c, hy, hk⟩ := ya_of_one (by rw [e2]; exact hcalm) (one_of_oneC (preF_elim hp))
              refine any_first hoi hli rfl hcalm fuel _ s h (fun j oj hoj hji hjun hnot hnw => ?_) (fun k ok hok hkl e he hb => ?_) (fun k ok hok hor => ?_) (by simpa using hin) (hF i oi hoi (mild_of_calm hcalm)) hy (next _ _ hk)
              · have hjl := (Array.getElem?_eq_some_iff.1 hoj).1
                rw [listedOf_get hjl] at hjun
                rw [List.all_eq_true] at hall
                have := hall j (by simpa using hjl)
                simp only [Bool.or_eq_true, hoj, Bool.and_eq_true, hjun, Bool.false_eq_true, false_or, beq_iff_eq] at this
                rcases this with h1 | (h1 | h1) | h1
                · exact absurd h1 hji
                · exfalso
                  unfold waits at h1
                  obtain ⟨e, he, hb⟩ := Array.any_eq_true'.1 h1
                  simp only [Bool.and_eq_true, beq_iff_eq] at hb
                  exact hnot e he hb.1 hb.2
                · refine ⟨h1.1, ?_⟩
                  rcases h1.2 with (h2 | h2) | h2
                  · exact .inl h2
                  · exact .inr (.inl h2)
                  · exact .inr (.inr (by simpa using h2))
                · rw [hnw] at h1; cases h1
              · have hks := (Array.getElem?_eq_some_iff.1 hok).1
                rw [listedOf_get hks] at hkl
                have := hd.1 k ok hok (by simpa using hkl) e he hb
                rw [listedOf_get (hd.2 _ this)]; simpa using this
              · have hkl := (Array.getElem?_eq_some_iff.1 hok).1
                rw [List.all_eq_true] at hfr
                have hmem : k ∈ i :: L := by
                  rcases hor with rfl | hor
                  · exact List.mem_cons_self
                  · rw [listedOf_get hkl] at hor
                    exact List.mem_cons_of_mem _ (by simpa using hor)
                have := hfr k hmem
                rw [hok] at this
                exact freeOf_spec this
        · simp only [IT.heads, List.mem_singleton] at hj
          subst hj
          simp only [treeOk, Bool.and_eq_true, decide_eq_true_eq, if_true] at hok
          obtain ⟨⟨⟨⟨hilt, hiL⟩, hrd⟩, hFL⟩, hok⟩ := hok
          have hirdy : j ∈ Region.ready .any ops (listedOf ops.size L) := by simpa using hrd
          simp only [IT.depth] at hfu
          exact ⟨oi, lo, hoi, hli, any_take1 hF (K1 := fun A => anyP P n ops F K fuel A) hoi hli (preF_mono hp fun hp => oneC_mono hp (nextOf hirdy hilt hok fuel (by omega)))⟩
      · cases hl
  | alt a b iha ihb =>
    intro lt hl L hd
    unfold liteTree at hl
    split at hl
    · rename_i la lb hla hlb
      injection hl with hl; subst hl
      have both : treeOk ops F true L a = true → treeOk ops F true L b = true → ∀ fuel, (IT.alt a b).depth ≤ fuel + 1 → ∀ s h, treeP P n (.alt la lb) s h K → ∀ i ∈ a.heads ++ b.heads, ∃ o lo, ops[i]? = some o ∧ liteOp ops (looksOf ops (F i)) o = some lo ∧ oneZ P n (keepsF ops F (listedOf ops.size L) i s h) lo s h (anyP P n ops F K fuel ((listedOf ops.size L).setIfInBounds i true)) := by
        intro h1 h2 fuel hfu s h hp i hi
        simp only [IT.depth] at hfu
        rcases List.mem_append.1 hi with hi | hi
        · exact (iha la hla L hd).2 h1 fuel (by omega) s h hp.1 i hi
        · exact (ihb lb hlb L hd).2 h2 fuel (by omega) s h hp.2 i hi
      refine ⟨fun hok fuel hfu s h hp => ?_, fun hok fuel hfu s h hp => ?_⟩
      · simp only [treeOk, Bool.and_eq_true, Bool.false_or] at hok
        obtain ⟨⟨hall, h1⟩, h2⟩ := hok
        have hall' : ∀ i ∈ Region.ready .any ops (listedOf ops.size L), i ∈ a.heads ++ b.heads := fun i hi => by
          rw [List.all_eq_true] at hall
          simpa using hall i hi
        cases fuel with
        | zero =>
          exfalso
          have hz : ∀ (t : IT), t.depth = 0 → treeOk ops F true L t = true → False := by
            intro t
            induction t with
            | fin => intro _ h; simp [treeOk] at h
            | op i r _ => intro h; simp [IT.depth] at h
            | alt a b ia ib =>
              intro h h'
              simp only [IT.depth] at h
              simp only [treeOk, Bool.and_eq_true] at h'
              exact ia (by omega) h'.1.2
          simp only [IT.depth] at hfu
          exact hz a (by omega) h1
        | succ fuel =>
          refine ⟨fun hn => ?_, fun i hi => both h1 h2 fuel hfu s h hp i (hall' i hi)⟩
          exfalso
          have hex : ∀ (t : IT), treeOk ops F true L t = true → ∃ i, i ∈ Region.ready .any ops (listedOf ops.size L) := by
            intro t
            induction t with
            | fin => intro h; simp [treeOk] at h
            | op i r _ =>
              intro h
              simp only [treeOk, Bool.and_eq_true, if_true] at h
              exact ⟨i, by simpa using h.1.1.2⟩
            | alt a b ia ib =>
              intro h'
              simp only [treeOk, Bool.and_eq_true] at h'
              exact ia h'.1.2
          obtain ⟨i, hi⟩ := hex a h1
          rw [hn] at hi; cases hi
      · simp only [treeOk, Bool.and_eq_true] at hok
        exact both hok.1.2 hok.2 fuel hfu s h hp
    · cases hl

theorem any_sound {F : Nat → List Nat} {w0 : World} {μ0 : Mu} {h0 : Heap} {K : S → Heap → Prop} {Q : Exit → Act → World → Prop} (hQ : ∀ a w, LK w0 μ0 h0 n K a w → Q .normal a w) : ∀ (fuel : Nat) (listed : Array Bool) (μ : Mu) (h : Heap) (s : S) (a : Act) (w : World),
    Rel w0 μ0 h0 n μ h s a w → anyP P n ops F K fuel listed s h → wpAny P .any ops Q fuel listed a w := by
  intro fuel
  induction fuel with
  | zero => intro listed μ h s a w r hp; exact ⟨hp.1, hQ _ _ ⟨μ, h, s, hp.2, r⟩⟩
  | succ fuel ih =>
    intro listed μ h s a w r hp
    refine ⟨fun hn => hQ _ _ ⟨μ, h, s, hp.1 hn, r⟩, fun i hi => ?_⟩
    obtain ⟨o, lo, ho, hlo, hone⟩ := hp.2 i hi
    have := one_sound r hlo (one_of_oneZ hone) Q
    unfold wpOp
    simp only [ho]
    split at this
    · rename_i hw
      rw [if_pos hw]
      exact .inl (Oper.wp_mono (fun a' w' ⟨μ', h', s', hk, r'⟩ => ih _ μ' h' s' a' w' r' hk) this)
    · rename_i hw
      rw [if_neg hw]
      obtain ⟨μ', h', s', hk, r'⟩ := this
      exact ih _ μ' h' s' _ _ r' hk

/-- **The code, run from this frame and heap, ends as Q says.** -/
def LW (P : Program) (n : Nat) (h0 : Heap) (c : LC) (Q : Exit → S → Heap → Prop) (s : S) (h : Heap) : Prop :=
  ∀ (C : Code), lite C = some c → ∀ (w0 : World) (μ0 μ : Mu) (a : Act) (w : World), Rel w0 μ0 h0 n μ h s a w → C.wp P (LQ w0 μ0 h0 n Q) a w

variable {h0 h : Heap} {s : S} {Q Q' : Exit → S → Heap → Prop}

theorem LW.mono {c : LC} (hc : LW P n h0 c Q s h) (hq : ∀ e s h, Q e s h → Q' e s h) : LW P n h0 c Q' s h :=
  fun C hC w0 μ0 μ a w r => wp_mono (hc C hC w0 μ0 μ a w r) fun e a w ⟨μ, h, s, q, r⟩ => ⟨μ, h, s, hq _ _ _ q, r⟩

theorem lite_nop {C : Code} (hC : lite C = some .nop) : C = .skip := by
  cases C <;> simp only [lite] at hC <;> (repeat' split at hC) <;> simp_all
theorem lite_ret {C : Code} (hC : lite C = some .ret) : C = .ret := by
  cases C <;> simp only [lite] at hC <;> (repeat' split at hC) <;> simp_all
theorem lite_exit {C : Code} {id : Nat} (hC : lite C = some (.exit id)) : C = .exit id := by
  cases C <;> simp only [lite] at hC <;> (repeat' split at hC) <;> simp_all
theorem lite_seq {C : Code} {x y : LC} (hC : lite C = some (.seq x y)) : ∃ a b, C = .seq a b ∧ lite a = some x ∧ lite b = some y := by
  cases C <;> simp only [lite] at hC <;> (repeat' split at hC) <;> simp_all
  exact ⟨_, _, ⟨rfl, rfl⟩, by simp_all, by simp_all⟩
theorem lite_ite {C : Code} {o : Operand} {x y : LC} (hC : lite C = some (.ite o x y)) : ∃ a b, C = .cond o a b ∧ lite a = some x ∧ lite b = some y := by
  cases C <;> simp only [lite] at hC <;> (repeat' split at hC) <;> simp_all
  exact ⟨_, _, ⟨rfl, rfl⟩, by simp_all, by simp_all⟩
theorem lite_block {C : Code} {id : Nat} {x : LC} (hC : lite C = some (.block id x)) : ∃ a, C = .block id a ∧ lite a = some x := by
  cases C <;> simp only [lite] at hC <;> (repeat' split at hC) <;> simp_all
theorem lite_loop {C : Code} {x : LC} (hC : lite C = some (.loop x)) : ∃ a, C = .loop a ∧ lite a = some x := by
  cases C <;> simp only [lite] at hC <;> (repeat' split at hC) <;> simp_all
theorem lite_reg {C : Code} {dr : Bool} {l : List LO} (hC : lite C = some (.reg dr l)) : ∃ id ops, C = .region id ops dr ∧
    ((dr = false ∧ liteOps ops ops.toList = some l) ∨ (dr = true ∧ lexOk ops = true ∧ liteOrd ops (floatsOf ops (ordOf ops)) (ordOf ops) = some l)) := by
  cases C <;> simp only [lite] at hC
  case region id ops draw =>
    cases draw with
    | false =>
      simp only [Bool.false_eq_true, if_false, Option.map_eq_some_iff] at hC
      obtain ⟨l', h1, h2⟩ := hC
      injection h2 with h2 h3
      subst h2; subst h3
      exact ⟨id, ops, rfl, .inl ⟨rfl, h1⟩⟩
    | true =>
      simp only [if_true] at hC
      split at hC
      · rename_i hlex
        simp only [Option.map_eq_some_iff] at hC
        obtain ⟨l', h1, h2⟩ := hC
        injection h2 with h2 h3
        subst h2; subst h3
        exact ⟨id, ops, rfl, .inr ⟨rfl, hlex, h1⟩⟩
      · split at hC
        · simp only [Option.map_eq_some_iff] at hC
          obtain ⟨l', h1, h2⟩ := hC
          cases h2
        · cases hC
  all_goals ((repeat' split at hC) <;> simp_all)

theorem lite_tree {C : Code} {t : LT} (hC : lite C = some (.tree t)) : ∃ id ops, C = .region id ops true ∧ treeAll ops = true ∧ liteTree ops (floatsOf ops (ordOf ops)) (treeOf ops) = some t := by
  cases C <;> simp only [lite] at hC
  case region id ops draw =>
    cases draw with
    | false =>
      simp only [Bool.false_eq_true, if_false, Option.map_eq_some_iff] at hC
      obtain ⟨l', h1, h2⟩ := hC
      cases h2
    | true =>
      simp only [if_true] at hC
      split at hC
      · simp only [Option.map_eq_some_iff] at hC
        obtain ⟨l', h1, h2⟩ := hC
        cases h2
      · split at hC
        · rename_i hlex
          simp only [Option.map_eq_some_iff] at hC
          obtain ⟨l', h1, h2⟩ := hC
          injection h2 with h2
          subst h2
          exact ⟨id, ops, rfl, hlex, h1⟩
        · cases hC
  all_goals ((repeat' split at hC) <;> simp_all)

theorem lw_nop (hq : Q .normal s h) : LW P n h0 .nop Q s h := by
  intro C hC w0 μ0 μ a w r
  obtain rfl := lite_nop hC
  exact wp_skip ⟨μ, h, s, hq, r⟩

theorem lw_ret (hq : Q .ret s h) : LW P n h0 .ret Q s h := by
  intro C hC w0 μ0 μ a w r
  obtain rfl := lite_ret hC
  exact wp_ret ⟨μ, h, s, hq, r⟩

theorem lw_exit {id : Nat} (hq : Q (.exit id) s h) : LW P n h0 (.exit id) Q s h := by
  intro C hC w0 μ0 μ a w r
  obtain rfl := lite_exit hC
  exact wp_exit ⟨μ, h, s, hq, r⟩

def thenQ (K : S → Heap → Prop) (Q : Exit → S → Heap → Prop) : Exit → S → Heap → Prop
  | .normal, s, h => K s h
  | e, s, h => Q e s h

theorem lw_seq {x y : LC} (hx : LW P n h0 x (thenQ (LW P n h0 y Q) Q) s h) : LW P n h0 (.seq x y) Q s h := by
  intro C hC w0 μ0 μ a w r
  obtain ⟨c1, c2, rfl, h1, h2⟩ := lite_seq hC
  refine wp_seq (wp_mono (hx c1 h1 w0 μ0 μ a w r) fun e a' w' ⟨μ', h', s', q, r'⟩ => ?_)
  cases e with
  | normal => exact q c2 h2 w0 μ0 μ' a' w' r'
  | _ => exact ⟨μ', h', s', q, r'⟩

theorem lw_ite {x : Operand} {b : Bool} {c d : LC} (hb : ev s x = .raw (.bool b)) (h1 : b = true → LW P n h0 c Q s h) (h2 : b = false → LW P n h0 d Q s h) : LW P n h0 (.ite x c d) Q s h := by
  intro C hC w0 μ0 μ a w r
  obtain ⟨c1, c2, rfl, e1, e2⟩ := lite_ite hC
  have hv := (r.slots.ev x).2
  rw [hb] at hv
  exact wp_cond_split (raw_val hv) (fun hb => h1 hb c1 e1 w0 μ0 μ a w r) (fun hb => h2 hb c2 e2 w0 μ0 μ a w r)

def blockQ (id : Nat) (Q : Exit → S → Heap → Prop) : Exit → S → Heap → Prop
  | .exit id', s, h => if id' = id then Q .normal s h else Q (.exit id') s h
  | e, s, h => Q e s h

theorem lw_block {id : Nat} {c : LC} (hc : LW P n h0 c (blockQ id Q) s h) : LW P n h0 (.block id c) Q s h := by
  intro C hC w0 μ0 μ a w r
  obtain ⟨c1, rfl, h1⟩ := lite_block hC
  refine wp_block (wp_mono (hc c1 h1 w0 μ0 μ a w r) fun e a' w' ⟨μ', h', s', q, r'⟩ => ?_)
  cases e with
  | exit i =>
    simp only [Exit.inBlock, blockQ] at *
    split at q
    · rename_i hi; rw [if_pos hi]; exact ⟨μ', h', s', q, r'⟩
    · rename_i hi; rw [if_neg hi]; exact ⟨μ', h', s', q, r'⟩
  | _ => exact ⟨μ', h', s', q, r'⟩

/-- A loop: what holds at every round's head, and a number that every round lowers. -/
theorem lw_loop {c : LC} (I : Nat → S → Heap → Prop) (k : Nat) (hI : I k s h)
    (round : ∀ k s h, I k s h → LW P n h0 c (thenQ (fun s' h' => ∃ k', k' < k ∧ I k' s' h') Q) s h) : LW P n h0 (.loop c) Q s h := by
  intro C hC w0 μ0 μ a w r
  obtain ⟨c1, rfl, hC1⟩ := lite_loop hC
  have key : ∀ m k, k < m → ∀ (μ : Mu) (h : Heap) (s : S) (a : Act) (w : World), I k s h → Rel w0 μ0 h0 n μ h s a w → Code.rounds P c1 (LQ w0 μ0 h0 n Q) m a w := by
    intro m
    induction m with
    | zero => intro k hk; omega
    | succ m ih =>
      intro k hk μ h s a w hI r
      rw [rounds_succ]
      refine wp_mono (round k s h hI c1 hC1 w0 μ0 μ a w r) fun e a' w' ⟨μ', h', s', q, r'⟩ => ?_
      cases e with
      | normal =>
        obtain ⟨k', hk', hI'⟩ := q
        exact ih k' (by omega) μ' h' s' a' w' hI' r'
      | _ => exact ⟨μ', h', s', q, r'⟩
  exact wp_loop_rounds (k + 1) (key (k + 1) k (by omega) μ h s a w hI r)

theorem floatsOf_mild {ord : List Nat} {i : Nat} {oi : Oper} (ho : ops[i]? = some oi) (hm : mild oi.op = true) : floatsOf ops ord i = [] := by
  unfold floatsOf floats
  rw [ho]
  simp [hm]

/-- A region. -/
theorem lw_reg (hm : P.follows .mixedOrders = true) {dr : Bool} {l : List LO} (hp : allP P n dr l s h (Q .normal)) : LW P n h0 (.reg dr l) Q s h := by
  intro C hC w0 μ0 μ a w r
  obtain ⟨id, ops, rfl, ⟨rfl, h1⟩ | ⟨rfl, hlex, h1⟩⟩ := lite_reg hC
  · exact wp_region_list (list_sound (fun a w ⟨μ, h, s, hk, r⟩ => ⟨μ, h, s, hk, r⟩) ops.toList l h1 μ h s a w r hp)
  · refine wp_region_any hm ?_
    unfold lexOk at hlex
    simp only [Bool.and_eq_true, decide_eq_true_eq] at hlex
    have := any_of_all (P := P) (n := n) (F := floatsOf ops (ordOf ops)) (fun i oi => floatsOf_mild) (K := Q .normal) (ordOf ops) [] l h1 hlex.2 (fun k ok _ hk => by cases hk) (fun k hk => by cases hk) ops.size hlex.1 s h hp
    rw [listedOf_nil] at this
    exact any_sound (fun a w ⟨μ, h, s, hk, r⟩ => ⟨μ, h, s, hk, r⟩) _ _ μ h s a _ r.drew this

/-- A region with more than one order that counts. -/
theorem lw_tree (hm : P.follows .mixedOrders = true) {t : LT} (hp : treeP P n t s h (Q .normal)) : LW P n h0 (.tree t) Q s h := by
  intro C hC w0 μ0 μ a w r
  obtain ⟨id, ops, rfl, hok, h1⟩ := lite_tree hC
  refine wp_region_any hm ?_
  unfold treeAll at hok
  simp only [Bool.and_eq_true, decide_eq_true_eq] at hok
  have := (any_of_tree (P := P) (n := n) (F := floatsOf ops (ordOf ops)) (fun i oi => floatsOf_mild) (K := Q .normal) (treeOf ops) t h1 [] ⟨fun k ok _ hk => (by cases hk), fun k hk => (by cases hk)⟩).1 hok.2 ops.size hok.1 s h hp
  rw [listedOf_nil] at this
  exact any_sound (fun a w ⟨μ, h, s, hk, r⟩ => ⟨μ, h, s, hk, r⟩) _ _ μ h s a _ r.drew this

end
end Go.Ab
