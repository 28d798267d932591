/- EditionOk: the program's, with its map, by the guide's walk. -/
import Derived.Test.YtdpopimpdhgfaaaEdP
import Derived.Maps.OwnSet
import Derived.WalkKit
namespace Go.Proofs.Ytdpopimpdhgfaaa
set_option maxRecDepth 20000
set_option linter.unusedSimpArgs false
set_option linter.unusedVariables false
open Go Go.RowKit Go.Maps

theorem lawK : Keyed Try.prog 3 := int_keyed Try.underlying3
theorem zeroB (w : World) : (zeroValue 4).run Try.prog w = .ok (.bool false) w := by kernel_rfl

/-- 'm[k]' where the elements are bools, under a guard that holds -/
theorem wpList_lookup_bool {H : Type} {P : Program} (w : World) {ops : Array Oper} {rest : List Oper} {o : Oper} {a : Act} {Q : Exit → Act → World → Prop}
    (m x : Operand) (t : TypeId) (hop : o.op = Op.lookup t m x false) (hg : Region.wanted o (yielded ops a.tmps) = true)
    (k e : TypeId) (K : Keyed P k) (ht : P.underlying t = some (.map k e)) (he : P.underlying e = some .bool) (hz : (zeroValue e).run P w = .ok (.bool false) w) (b n : Nat) (D : DataW H)
    (hm : a.eval m = .map (some b)) (hown : w.ownsMap P k (plainElem P e) b n D) (key : Value) (kl : Lit) (hx : a.eval x = key) (hkey : keyOf P k key = some kl) (c : Bool) (hat : D.atKey kl (.lit (.bool false)) = .lit (.bool c))
    (hK : wpList P ops Q rest (a.put o.dst (.bool c)) w) :
    wpList P ops Q (o :: rest) a w := by
  refine wpList_step fun K' hK' => ?_
  rw [if_pos hg]
  obtain ⟨v, ps, hrun, hv⟩ := hown.lookup K ht hz (plainElem_bool he false) hkey
  have hvc : v = .bool c := by
    rw [hat] at hv
    unfold plainElem at hv
    rw [he] at hv
    cases v <;> simp at hv
    rw [hv.1]
  subst hvc
  unfold Oper.wp
  simp [execOp, hop, hm, hx, hrun, Result.andThen]
  exact hK' _ _ hK

def kyI (n : Int) : Lit := .int .i64 n
def edM (zs : List Int) : DataW Unit := setOf (.lit (.bool true)) (zs.map kyI)
theorem edM_snoc (zs : List Int) (x : Int) : edM (zs ++ [x]) = (edM zs).put (kyI x) (.lit (.bool true)) := by
  unfold edM
  rw [List.map_append, List.map_singleton, setOf_snoc]
theorem edM_isMap (zs : List Int) : IsMap (edM zs) := (tidy_setOf _ _ fun x hx => by
  simp only [List.mem_map] at hx
  obtain ⟨n, _, rfl⟩ := hx
  trivial).isMap
theorem edM_at (x : Int) (zs : List Int) : (edM zs).atKey (kyI x) (.lit (.bool false)) = .lit (.bool (hasI zs x)) := by
  induction zs using rev_ind with
  | h0 => rfl
  | h1 l a ih =>
    rw [edM_snoc]
    by_cases h : x = a
    · subst h
      rw [atKey_put_same (edM_isMap l) (show WideAt.IsKeyLit (kyI x) from trivial)]
      have : hasI (l ++ [x]) x = true := hasI_iff.2 (by simp)
      rw [this]
    · rw [atKey_put_other (fun e => h (by injection e)), ih]
      have : hasI (l ++ [a]) x = hasI l x := by
        have : ¬ a = x := fun e => h e.symm
        simp [hasI, this]
      rw [this]

set_option maxRecDepth 100000 in
theorem ed_any (b off len cap : Nat) (sz : Int) (zs : List Int) (w : World) (hreach : len ≤ 4194304) (hz : len = zs.length) (hb : b < w.heap.size)
    (hc : ∀ j, j < zs.length → w.cell? ⟨b, off + j, none⟩ = some (.int .i64 (zs.getD j 0))) (hwz : ∀ n ∈ zs, (Lit.int .i64 n).wf = true) :
    Calls Try.prog 17 #[.agg #[.int .i64 sz, .slice (some ⟨b, off, none⟩) len cap]] w fun e w' => e = .returned (.bool (edB sz zs)) ∧ Below w.heap.size w w' := by
  have hmm := @run_makeMap Try.prog
  subst hz
  go_enter Try.func17, Try.ntmps17
  go_wp2
  go_loopw [10] (fun i wr => ∃ k : Nat, k ≤ zs.length ∧ i = .int .i64 k ∧ edG sz zs k = true ∧ wr.ownsMap Try.prog 3 (plainElem Try.prog 4) (w.heap.size + 1) k (edM (zs.take k)) ∧ Below w.heap.size w wr ∧ wr.cell? ⟨w.heap.size, 0, none⟩ = some (.int .i64 sz) ∧ w.heap.size + 2 ≤ wr.heap.size)
    (fun i _ => zs.length - (intOf i).toNat)
  case atStart =>
    refine ⟨0, Nat.zero_le _, rfl, rfl, ?_, ((Below.refl _ _).alloc (Nat.le_refl _) _).alloc (by simp) _, ?_, by simp⟩
    · have := World.ownsMap_made (w.alloc (.cells #[.int .i64 sz, .slice (some ⟨b, off, none⟩) zs.length cap] 27)) Try.prog 3 (plainElem (H := Unit) Try.prog 4)
      simpa [edM, setOf] using this
    · first | (simp; done) | (simp [World.cell?]; done) | rfl
  case round =>
    obtain ⟨k, hk, rfl, hg, hown, hnx, hbx, hsz⟩ := hrel
    rcases Nat.lt_or_ge k zs.length with hlt | hge
    · obtain ⟨x, hx⟩ := Go.Ab.some_at hlt
      have hxg : zs.getD k 0 = x := by simp [List.getD, hx]
      have hcx : wr.cell? ⟨b, off + k, none⟩ = some (.int .i64 x) := by rw [← hxg]; exact (hnx.cell (by exact hb)).trans (hc k (by omega))
      have hkey : keyOf Try.prog 3 (.int .i64 x) = some (.int .i64 x) := keyOf_int_mk Try.underlying3 (hwz x (List.mem_of_getElem? hx))
      have hat := edM_at x (zs.take k)
      by_cases h1 : 1 ≤ x
      · by_cases h1' : x ≤ sz
        · have hr1 : inR 1 sz x = true := inR_iff.2 ⟨h1, h1'⟩
          cases h2 : hasI (zs.take k) x with
          | true =>
            have hno := edB_bad2 (sz := sz) hx h2
            rw [h2] at hat
            go_wp2_with (first
              | (at_lookup; refine wpList_lookup_bool _ _ _ 66 rfl rfl 3 4 lawK Try.underlying66 Try.underlying4 (zeroB _) (w.heap.size + 1) k _ rfl hown _ _ rfl hkey true hat ?_)
              | go_in)
            go_ret
            exact ⟨by first | rfl | (rw [hno]; rfl), hnx⟩
          | false =>
            have hmo := edG_more hx hg hr1 h2
            rw [h2] at hat
            have htk : edM (zs.take (k + 1)) = (edM (zs.take k)).put (kyI x) (.lit (.bool true)) := by rw [Go.Ab.take_snoc hx, edM_snoc]
            go_wp2_with (first
              | (at_lookup; refine wpList_lookup_bool _ _ _ 66 rfl rfl 3 4 lawK Try.underlying66 Try.underlying4 (zeroB _) (w.heap.size + 1) k _ rfl hown _ _ rfl hkey false hat ?_)
              | (at_mapUpdate; refine wpList_mapUpdate_own _ rfl _ _ _ 66 rfl 3 4 lawK Try.underlying66 _ (w.heap.size + 1) k _ rfl hown (by unfold maxLen; omega) _ _ _ rfl rfl hkey _ [] (plainElem_bool Try.underlying4 true) ?_; intro w1 hown1 hgrow1)
              | go_in)
            go_roundw
            case rel =>
              refine ⟨k + 1, by omega, by go_num, hmo, htk ▸ hown1, hnx.grown hgrow1 hnx.size (fun j hj => by cases hj; omega), ?_, Nat.le_trans hsz hgrow1.size⟩
              exact hgrow1.cell hbx (by simp)
            case measure => simp [intOf]; omega
        · have hno := edB_bad1 (sz := sz) hx (by rw [Bool.eq_false_iff]; intro e; exact h1' (inR_iff.1 e).2)
          go_wp2
          go_ret
          exact ⟨by first | rfl | (rw [hno]; rfl), hnx⟩
      · have hno := edB_bad1 (sz := sz) hx (by rw [Bool.eq_false_iff]; intro e; exact h1 (inR_iff.1 e).1)
        go_wp2
        go_ret
        exact ⟨by first | rfl | (rw [hno]; rfl), hnx⟩
    · obtain rfl : k = zs.length := by omega
      have hE : edB sz zs = inR 1 500 sz := by rw [edB, hg, Bool.and_true]
      by_cases h1 : 1 ≤ sz
      · by_cases h2 : sz ≤ 500
        · have hr : inR 1 500 sz = true := inR_iff.2 ⟨h1, h2⟩
          go_wp2
          go_ret
          exact ⟨by first | rfl | (rw [hE, hr]; rfl) | (rw [hr]; rfl), hnx⟩
        · have hr : inR 1 500 sz = false := by rw [Bool.eq_false_iff]; intro e; exact h2 (inR_iff.1 e).2
          go_wp2
          go_ret
          exact ⟨by first | rfl | (rw [hE, hr]; rfl) | (rw [hr]; rfl), hnx⟩
      · have hr : inR 1 500 sz = false := by rw [Bool.eq_false_iff]; intro e; exact h1 (inR_iff.1 e).1
        go_wp2
        go_ret
        exact ⟨by first | rfl | (rw [hE, hr]; rfl) | (rw [hr]; rfl), hnx⟩

set_option maxRecDepth 100000 in
theorem ed_none (a : Option Addr) (cap : Nat) (sz : Int) (w : World) :
    Calls Try.prog 17 #[.agg #[.int .i64 sz, .slice a 0 cap]] w fun e w' => e = .returned (.bool (edB sz [])) ∧ Below w.heap.size w w' := by
  have hmm := @run_makeMap Try.prog
  have hE : edB sz [] = inR 1 500 sz := by rw [edB]; exact Bool.and_true _
  go_enter Try.func17, Try.ntmps17
  go_wp2
  refine wp_loop_rounds 1 ?_
  rw [rounds_succ]
  by_cases h1 : 1 ≤ sz
  · by_cases h2 : sz ≤ 500
    · have hr : inR 1 500 sz = true := inR_iff.2 ⟨h1, h2⟩
      go_wp2
      go_ret
      exact ⟨by first | rfl | (rw [hE, hr]; rfl) | (rw [hr]; rfl), ((Below.refl _ _).alloc (Nat.le_refl _) _).alloc (by simp) _⟩
    · have hr : inR 1 500 sz = false := by rw [Bool.eq_false_iff]; intro e; exact h2 (inR_iff.1 e).2
      go_wp2
      go_ret
      exact ⟨by first | rfl | (rw [hE, hr]; rfl) | (rw [hr]; rfl), ((Below.refl _ _).alloc (Nat.le_refl _) _).alloc (by simp) _⟩
  · have hr : inR 1 500 sz = false := by rw [Bool.eq_false_iff]; intro e; exact h1 (inR_iff.1 e).1
    go_wp2
    go_ret
    exact ⟨by first | rfl | (rw [hE, hr]; rfl) | (rw [hr]; rfl), ((Below.refl _ _).alloc (Nat.le_refl _) _).alloc (by simp) _⟩
end Go.Proofs.Ytdpopimpdhgfaaa
