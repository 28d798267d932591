/- Code on the abstract heap, and functions. Plain library text, no statement. -/
import Derived.Test.YtdnbhknejalibaaAb13
import Derived.LoopN
namespace Go.Ab
open Go Go.RowKit

section
variable {P : Program} {n : Nat} {ops : Array Oper}

theorem liteOps_get : ∀ (l : List Oper) (ll : List LO), liteOps ops l = some ll → ∀ (i : Nat) o, l[i]? = some o → ∃ lo, ll[i]? = some lo ∧ liteOp ops o = some lo := by
  intro l
  induction l with
  | nil => intro ll _ i o h; simp at h
  | cons x l ih =>
    intro ll hl i o hi
    unfold liteOps at hl
    split at hl
    · rename_i y rr hx hr
      injection hl with hl; subst hl
      cases i with
      | zero => simp at hi; subst hi; exact ⟨y, rfl, hx⟩
      | succ i => exact ih rr hr i o (by simpa using hi)
    · cases hl
theorem liteOps_len : ∀ (l : List Oper) (ll : List LO), liteOps ops l = some ll → ll.length = l.length := by
  intro l
  induction l with
  | nil => intro ll h; simp [liteOps] at h; subst h; rfl
  | cons x l ih =>
    intro ll hl
    unfold liteOps at hl
    split at hl
    · rename_i y rr hx hr
      injection hl with hl; subst hl
      simp [ih rr hr]
    · cases hl

def listedAt (ops : Array Oper) (i : Nat) : Array Bool := (Array.replicate ops.size false).mapIdx fun j _ => decide (j < i)

theorem listedAt_size (i : Nat) : (listedAt ops i).size = ops.size := by simp [listedAt]
theorem listedAt_zero : listedAt ops 0 = Array.replicate ops.size false := by
  apply Array.ext
  · simp [listedAt]
  · intro j h1 h2; simp [listedAt]
theorem listedAt_succ {i : Nat} (hi : i < ops.size) : (listedAt ops i).setIfInBounds i true = listedAt ops (i + 1) := by
  apply Array.ext
  · simp [listedAt]
  · intro j h1 h2
    by_cases hij : i = j
    · subst hij; simp [listedAt]
    · rw [Array.getElem_setIfInBounds_ne (by simpa using h1) hij]
      simp [listedAt]
      omega
theorem listedAt_get {i j : Nat} (hj : j < ops.size) : (listedAt ops i).getD j true = decide (j < i) := by
  simp [listedAt, Array.getD_eq_getD_getElem?, hj]

theorem any_of_all {los : List LO} (hl : liteOps ops ops.toList = some los) (hlex : lexOk ops = true) {K : S → Heap → Prop} : ∀ (fuel i : Nat), i + fuel = ops.size → ∀ s h, allP P n true (los.drop i) s h K → anyP P n ops K fuel (listedAt ops i) s h := by
  intro fuel
  induction fuel with
  | zero =>
    intro i hi s h hp
    have hlen := liteOps_len _ _ hl
    rw [List.drop_eq_nil_of_le (by simp at hlen; omega)] at hp
    refine ⟨?_, hp⟩
    cases hr : Region.ready .any ops (listedAt ops i) with
    | nil => rfl
    | cons j rs =>
      have hj : j ∈ Region.ready .any ops (listedAt ops i) := by rw [hr]; exact List.mem_cons_self
      obtain ⟨h1, o, ho, _⟩ := mem_ready.1 hj
      have hjl := (Array.getElem?_eq_some_iff.1 ho).1
      rw [listedAt_get hjl] at h1
      simp at h1
      omega
  | succ fuel ih =>
    intro i hi s h hp
    have hilt : i < ops.size := by omega
    obtain ⟨lo, hlo, hli⟩ := liteOps_get _ _ hl i ops[i] (by simp [hilt])
    have hoi : ops[i]? = some ops[i] := Array.getElem?_eq_getElem hilt
    have hil : i < los.length := lt_len hlo
    rw [List.drop_eq_getElem_cons hil] at hp
    have hlo' : los[i] = lo := by rw [List.getElem?_eq_getElem hil] at hlo; injection hlo
    rw [hlo'] at hp
    have hlx : lexAt ops i = true := by
      unfold lexOk at hlex
      rw [List.all_eq_true] at hlex
      exact hlex i (by simpa using hilt)
    have next : ∀ s h, allP P n true (los.drop (i + 1)) s h K → anyP P n ops K fuel ((listedAt ops i).setIfInBounds i true) s h := by
      intro s h hh
      rw [listedAt_succ hilt]
      exact ih (i + 1) (by omega) s h hh
    unfold lexAt at hlx
    rw [show (Array.replicate ops.size false).mapIdx (fun j _ => decide (j < i)) = listedAt ops i from rfl] at hlx
    simp only [Bool.or_eq_true] at hlx
    rcases hlx with hlx | hlx
    · have hr : Region.ready .any ops (listedAt ops i) = [i] := by simpa using hlx
      refine ⟨fun hn => (by rw [hr] at hn; cases hn), fun j hj => ?_⟩
      rw [hr] at hj
      simp at hj
      subst hj
      exact ⟨_, lo, hoi, hli, oneP_mono hp next⟩
    · simp only [Bool.and_eq_true, hoi] at hlx
      obtain ⟨hin, hcalm, hall⟩ := hlx
      obtain ⟨e1, e2, e3⟩ := lite_fields hli
      obtain ⟨c, hy, hk⟩ := ya_of_one (by rw [e2]; exact hcalm) hp
      refine any_first hoi hli hcalm fuel _ s h (fun j oj hoj hji hjun hnot => ?_) (by simpa using hin) hy (next _ _ hk)
      have hjl := (Array.getElem?_eq_some_iff.1 hoj).1
      rw [listedAt_get hjl] at hjun
      rw [List.all_eq_true] at hall
      have := hall j (by simpa using hjl)
      simp only [Bool.or_eq_true, decide_eq_true_eq, hoj, Bool.and_eq_true] at this
      simp at hjun
      rcases this with h1 | h1 | h1
      · omega
      · exfalso
        obtain ⟨e, he, hb⟩ := Array.any_eq_true'.1 h1
        simp only [Bool.and_eq_true, beq_iff_eq] at hb
        exact hnot e he hb.1 hb.2
      · exact h1

theorem any_sound {w0 : World} {μ0 : Mu} {h0 : Heap} {K : S → Heap → Prop} {Q : Exit → Act → World → Prop} (hQ : ∀ a w, LK w0 μ0 h0 n K a w → Q .normal a w) : ∀ (fuel : Nat) (listed : Array Bool) (μ : Mu) (h : Heap) (s : S) (a : Act) (w : World),
    Rel w0 μ0 h0 n μ h s a w → anyP P n ops K fuel listed s h → wpAny P .any ops Q fuel listed a w := by
  intro fuel
  induction fuel with
  | zero => intro listed μ h s a w r hp; exact ⟨hp.1, hQ _ _ ⟨μ, h, s, hp.2, r⟩⟩
  | succ fuel ih =>
    intro listed μ h s a w r hp
    refine ⟨fun hn => hQ _ _ ⟨μ, h, s, hp.1 hn, r⟩, fun i hi => ?_⟩
    obtain ⟨o, lo, ho, hlo, hone⟩ := hp.2 i hi
    have := one_sound r hlo hone Q
    unfold wpOp
    simp only [ho]
    split at this
    · rename_i hw
      rw [if_pos hw]
      exact .inl (Oper.wp_mono (fun a' w' ⟨μ', h', s', hk, r'⟩ => ih _ μ' h' s' a' w' r' hk) this)
    · rename_i hw
      rw [if_neg hw]
      obtain ⟨μ', h', s', hk, r'⟩ := this
      exact ih _ μ' h' s' _ _ r' hk

/-- **The code, run from this frame and heap, ends as Q says.** -/
def LW (P : Program) (n : Nat) (h0 : Heap) (c : LC) (Q : Exit → S → Heap → Prop) (s : S) (h : Heap) : Prop :=
  ∀ (C : Code), lite C = some c → ∀ (w0 : World) (μ0 μ : Mu) (a : Act) (w : World), Rel w0 μ0 h0 n μ h s a w → C.wp P (LQ w0 μ0 h0 n Q) a w

variable {h0 h : Heap} {s : S} {Q Q' : Exit → S → Heap → Prop}

theorem LW.mono {c : LC} (hc : LW P n h0 c Q s h) (hq : ∀ e s h, Q e s h → Q' e s h) : LW P n h0 c Q' s h :=
  fun C hC w0 μ0 μ a w r => wp_mono (hc C hC w0 μ0 μ a w r) fun e a w ⟨μ, h, s, q, r⟩ => ⟨μ, h, s, hq _ _ _ q, r⟩

theorem lite_nop {C : Code} (hC : lite C = some .nop) : C = .skip := by
  cases C <;> simp only [lite] at hC <;> (repeat' split at hC) <;> simp_all
theorem lite_ret {C : Code} (hC : lite C = some .ret) : C = .ret := by
  cases C <;> simp only [lite] at hC <;> (repeat' split at hC) <;> simp_all
theorem lite_exit {C : Code} {id : Nat} (hC : lite C = some (.exit id)) : C = .exit id := by
  cases C <;> simp only [lite] at hC <;> (repeat' split at hC) <;> simp_all
theorem lite_seq {C : Code} {x y : LC} (hC : lite C = some (.seq x y)) : ∃ a b, C = .seq a b ∧ lite a = some x ∧ lite b = some y := by
  cases C <;> simp only [lite] at hC <;> (repeat' split at hC) <;> simp_all
  exact ⟨_, _, ⟨rfl, rfl⟩, by simp_all, by simp_all⟩
theorem lite_ite {C : Code} {o : Operand} {x y : LC} (hC : lite C = some (.ite o x y)) : ∃ a b, C = .cond o a b ∧ lite a = some x ∧ lite b = some y := by
  cases C <;> simp only [lite] at hC <;> (repeat' split at hC) <;> simp_all
  exact ⟨_, _, ⟨rfl, rfl⟩, by simp_all, by simp_all⟩
theorem lite_block {C : Code} {id : Nat} {x : LC} (hC : lite C = some (.block id x)) : ∃ a, C = .block id a ∧ lite a = some x := by
  cases C <;> simp only [lite] at hC <;> (repeat' split at hC) <;> simp_all
theorem lite_loop {C : Code} {x : LC} (hC : lite C = some (.loop x)) : ∃ a, C = .loop a ∧ lite a = some x := by
  cases C <;> simp only [lite] at hC <;> (repeat' split at hC) <;> simp_all
theorem lite_reg {C : Code} {dr : Bool} {l : List LO} (hC : lite C = some (.reg dr l)) : ∃ id ops, C = .region id ops dr ∧ liteOps ops ops.toList = some l ∧ (dr = false ∨ lexOk ops = true) := by
  cases C <;> simp only [lite] at hC <;> (repeat' split at hC) <;> simp_all
  exact ⟨_, _, ⟨rfl, rfl⟩, by simp_all, by simp_all⟩

theorem lw_nop (hq : Q .normal s h) : LW P n h0 .nop Q s h := by
  intro C hC w0 μ0 μ a w r
  obtain rfl := lite_nop hC
  exact wp_skip ⟨μ, h, s, hq, r⟩

theorem lw_ret (hq : Q .ret s h) : LW P n h0 .ret Q s h := by
  intro C hC w0 μ0 μ a w r
  obtain rfl := lite_ret hC
  exact wp_ret ⟨μ, h, s, hq, r⟩

theorem lw_exit {id : Nat} (hq : Q (.exit id) s h) : LW P n h0 (.exit id) Q s h := by
  intro C hC w0 μ0 μ a w r
  obtain rfl := lite_exit hC
  exact wp_exit ⟨μ, h, s, hq, r⟩

def thenQ (K : S → Heap → Prop) (Q : Exit → S → Heap → Prop) : Exit → S → Heap → Prop
  | .normal, s, h => K s h
  | e, s, h => Q e s h

theorem lw_seq {x y : LC} (hx : LW P n h0 x (thenQ (LW P n h0 y Q) Q) s h) : LW P n h0 (.seq x y) Q s h := by
  intro C hC w0 μ0 μ a w r
  obtain ⟨c1, c2, rfl, h1, h2⟩ := lite_seq hC
  refine wp_seq (wp_mono (hx c1 h1 w0 μ0 μ a w r) fun e a' w' ⟨μ', h', s', q, r'⟩ => ?_)
  cases e with
  | normal => exact q c2 h2 w0 μ0 μ' a' w' r'
  | _ => exact ⟨μ', h', s', q, r'⟩

theorem lw_ite {x : Operand} {b : Bool} {c d : LC} (hb : ev s x = .raw (.bool b)) (h1 : b = true → LW P n h0 c Q s h) (h2 : b = false → LW P n h0 d Q s h) : LW P n h0 (.ite x c d) Q s h := by
  intro C hC w0 μ0 μ a w r
  obtain ⟨c1, c2, rfl, e1, e2⟩ := lite_ite hC
  have hv := (r.slots.ev x).2
  rw [hb] at hv
  exact wp_cond_split (raw_val hv) (fun hb => h1 hb c1 e1 w0 μ0 μ a w r) (fun hb => h2 hb c2 e2 w0 μ0 μ a w r)

def blockQ (id : Nat) (Q : Exit → S → Heap → Prop) : Exit → S → Heap → Prop
  | .exit id', s, h => if id' = id then Q .normal s h else Q (.exit id') s h
  | e, s, h => Q e s h

theorem lw_block {id : Nat} {c : LC} (hc : LW P n h0 c (blockQ id Q) s h) : LW P n h0 (.block id c) Q s h := by
  intro C hC w0 μ0 μ a w r
  obtain ⟨c1, rfl, h1⟩ := lite_block hC
  refine wp_block (wp_mono (hc c1 h1 w0 μ0 μ a w r) fun e a' w' ⟨μ', h', s', q, r'⟩ => ?_)
  cases e with
  | exit i =>
    simp only [Exit.inBlock, blockQ] at *
    split at q
    · rename_i hi; rw [if_pos hi]; exact ⟨μ', h', s', q, r'⟩
    · rename_i hi; rw [if_neg hi]; exact ⟨μ', h', s', q, r'⟩
  | _ => exact ⟨μ', h', s', q, r'⟩

/-- A loop: what holds at every round's head, and a number that every round lowers. -/
theorem lw_loop {c : LC} (I : Nat → S → Heap → Prop) (k : Nat) (hI : I k s h)
    (round : ∀ k s h, I k s h → LW P n h0 c (thenQ (fun s' h' => ∃ k', k' < k ∧ I k' s' h') Q) s h) : LW P n h0 (.loop c) Q s h := by
  intro C hC w0 μ0 μ a w r
  obtain ⟨c1, rfl, hC1⟩ := lite_loop hC
  have key : ∀ m k, k < m → ∀ (μ : Mu) (h : Heap) (s : S) (a : Act) (w : World), I k s h → Rel w0 μ0 h0 n μ h s a w → Code.rounds P c1 (LQ w0 μ0 h0 n Q) m a w := by
    intro m
    induction m with
    | zero => intro k hk; omega
    | succ m ih =>
      intro k hk μ h s a w hI r
      rw [rounds_succ]
      refine wp_mono (round k s h hI c1 hC1 w0 μ0 μ a w r) fun e a' w' ⟨μ', h', s', q, r'⟩ => ?_
      cases e with
      | normal =>
        obtain ⟨k', hk', hI'⟩ := q
        exact ih k' (by omega) μ' h' s' a' w' hI' r'
      | _ => exact ⟨μ', h', s', q, r'⟩
  exact wp_loop_rounds (k + 1) (key (k + 1) k (by omega) μ h s a w hI r)

/-- A region. -/
theorem lw_reg (hm : P.follows .mixedOrders = true) {dr : Bool} {l : List LO} (hp : allP P n dr l s h (Q .normal)) : LW P n h0 (.reg dr l) Q s h := by
  intro C hC w0 μ0 μ a w r
  obtain ⟨id, ops, rfl, h1, hor⟩ := lite_reg hC
  cases dr with
  | false => exact wp_region_list (list_sound (fun a w ⟨μ, h, s, hk, r⟩ => ⟨μ, h, s, hk, r⟩) ops.toList l h1 μ h s a w r hp)
  | true =>
    have hlex : lexOk ops = true := by simpa using hor
    refine wp_region_any hm ?_
    have := any_of_all (P := P) (n := n) h1 hlex (K := Q .normal) ops.size 0 (by omega) s h (by simpa using hp)
    rw [listedAt_zero] at this
    exact any_sound (fun a w ⟨μ, h, s, hk, r⟩ => ⟨μ, h, s, hk, r⟩) _ _ μ h s a _ r.drew this

end
end Go.Ab
