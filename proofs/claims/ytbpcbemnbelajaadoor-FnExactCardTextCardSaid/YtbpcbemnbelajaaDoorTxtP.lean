/- Texts of cards: the plain law of writing and of reading back. -/
import Derived.Test.YtbpcbemnbelajaaDoorNum
import Derived.Test.YtbpcbemnbelajaaDoorCard
import Derived.Test.YtbpcbemnbelajaaDoorCorn
import Derived.Lib.Join
import Derived.Lib.SplitLaws
import Derived.Lib.AtoiAllCases
import Derived.Lib.ItoaNum
namespace Go.Proofs.YtbpcbemnbelajaaDoor
set_option maxRecDepth 20000
set_option linter.unusedSimpArgs false
set_option linter.unusedVariables false
open Go Go.Ab

/-! pieces between blanks -/
theorem head_unique : ∀ {a b r s : List UInt8}, 32 ∉ a → 32 ∉ b → (r = [] ∨ ∃ t, r = 32 :: t) → (s = [] ∨ ∃ t, s = 32 :: t) → a ++ r = b ++ s → a = b ∧ r = s
  | [], [], _, _, _, _, _, _, h => ⟨rfl, h⟩
  | [], c :: b, r, s, _, hb, hr, _, h => by
    rcases hr with rfl | ⟨t, rfl⟩
    · cases h
    · simp at h; simp [← h.1] at hb
  | c :: a, [], r, s, ha, _, _, hs, h => by
    rcases hs with rfl | ⟨t, rfl⟩
    · cases h
    · simp at h; simp [h.1] at ha
  | c :: a, e :: b, r, s, ha, hb, hr, hs, h => by
    simp only [List.cons_append, List.cons.injEq] at h
    obtain ⟨h1, h2⟩ := head_unique (fun m => ha (List.mem_cons_of_mem _ m)) (fun m => hb (List.mem_cons_of_mem _ m)) hr hs h.2
    exact ⟨by rw [h.1, h1], h2⟩
/-- the pieces behind the first, each after a blank -/
def jt (r : List (List UInt8)) : List UInt8 := (r.map (32 :: ·)).flatten
theorem jt_cons (x : List UInt8) (r : List (List UInt8)) : jt (x :: r) = 32 :: (x ++ jt r) := by simp [jt]
theorem jt_head (r : List (List UInt8)) : jt r = [] ∨ ∃ t, jt r = 32 :: t := by
  cases r with
  | nil => exact .inl rfl
  | cons x r => exact .inr ⟨_, jt_cons x r⟩
theorem jt_app (r s : List (List UInt8)) : jt (r ++ s) = jt r ++ jt s := by simp [jt]
theorem join_jt (x : List UInt8) (r : List (List UInt8)) : Lib.join (x :: r) [32] = x ++ jt r := by
  rw [Lib.join_cons]; rfl
theorem jt_unique : ∀ {x y : List UInt8} {xs ys : List (List UInt8)}, 32 ∉ x → 32 ∉ y → (∀ z ∈ xs, 32 ∉ z) → (∀ z ∈ ys, 32 ∉ z) → x ++ jt xs = y ++ jt ys → x = y ∧ xs = ys
  | x, y, [], ys, hx, hy, _, _, h => by
    obtain ⟨h1, h2⟩ := head_unique hx hy (jt_head _) (jt_head _) h
    refine ⟨h1, ?_⟩
    cases ys with
    | nil => rfl
    | cons z ys => rw [jt_cons] at h2; cases h2
  | x, y, z :: xs, ys, hx, hy, hX, hY, h => by
    obtain ⟨h1, h2⟩ := head_unique hx hy (jt_head _) (jt_head _) h
    refine ⟨h1, ?_⟩
    cases ys with
    | nil => rw [jt_cons] at h2; cases h2
    | cons w ys =>
      rw [jt_cons, jt_cons] at h2
      injection h2 with _ h2
      obtain ⟨h3, h4⟩ := jt_unique (hX z (.head _)) (hY w (.head _)) (fun v hv => hX v (.tail _ hv)) (fun v hv => hY v (.tail _ hv)) h2
      rw [h3, h4]
/-- what is joined by blanks can be taken apart in one way -/
theorem join_unique {xs ys : List (List UInt8)} (h1 : xs ≠ []) (h2 : ys ≠ []) (hx : ∀ z ∈ xs, 32 ∉ z) (hy : ∀ z ∈ ys, 32 ∉ z) (h : Lib.join xs [32] = Lib.join ys [32]) : xs = ys := by
  cases xs with
  | nil => exact absurd rfl h1
  | cons x xs =>
    cases ys with
    | nil => exact absurd rfl h2
    | cons y ys =>
      rw [join_jt, join_jt] at h
      obtain ⟨h3, h4⟩ := jt_unique (hx x (.head _)) (hy y (.head _)) (fun v hv => hx v (.tail _ hv)) (fun v hv => hy v (.tail _ hv)) h
      rw [h3, h4]

/-! the text of a card -/
/-- a head, and the strips, each behind a blank -/
def tailG (s : ByteArray) (xs : List ByteArray) : Nat → ByteArray
  | 0 => s
  | k + 1 => (tailG s xs k ++ ⟨#[32]⟩) ++ xs.getD k ⟨#[]⟩
theorem tailG_succ {s : ByteArray} {xs : List ByteArray} {k : Nat} {x : ByteArray} (h : xs[k]? = some x) : tailG s xs (k + 1) = (tailG s xs k ++ ⟨#[32]⟩) ++ x := by
  rw [tailG]; simp [List.getD, h]
theorem bsL_app (a b : ByteArray) : bsL (a ++ b) = bsL a ++ bsL b := by simp [bsL, ByteArray.toList_data_append]
theorem tailG_bytes {s : ByteArray} {xs : List ByteArray} : ∀ {k : Nat}, k ≤ xs.length → bsL (tailG s xs k) = bsL s ++ jt ((xs.take k).map bsL)
  | 0, _ => by simp [tailG, jt]
  | k + 1, hk => by
    obtain ⟨x, hx⟩ := some_at (show k < xs.length by omega)
    rw [tailG_succ hx, bsL_app, bsL_app, tailG_bytes (by omega), take_snoc hx, List.map_append, jt_app]
    simp [jt]; rfl
def headB (d f : Nat) : ByteArray := ((numB d ++ ⟨#[120]⟩) ++ numB f) ++ ⟨#[58]⟩
def cardT (d f : Int) (xs : List ByteArray) : ByteArray := if cardB d f xs = true then tailG (headB d.toNat f.toNat) xs xs.length else ⟨#[]⟩
def joinB (xs : List ByteArray) : ByteArray := mkB (Lib.join (xs.map bsL) [32])
theorem cardT_tail {s : ByteArray} {xs : List ByteArray} (h : 1 ≤ xs.length) : tailG (s ++ ⟨#[58]⟩) xs xs.length = (s ++ ⟨#[58, 32]⟩) ++ joinB xs := by
  refine bsL_inj ?_
  rw [tailG_bytes (Nat.le_refl _), List.take_length, bsL_app, bsL_app, bsL_app]
  cases xs with
  | nil => simp at h
  | cons x xs =>
    rw [joinB, bsL_mkB, List.map_cons, join_jt, jt_cons]
    simp [bsL]
theorem num_fig {n : Nat} (h : n < 10) : bsL (numB n) = [UInt8.ofNat (48 + n)] := by rw [numB, if_pos h]; rfl
theorem card_bytes {d f : Int} {xs : List ByteArray} (h : cardB d f xs = true) : bsL (cardT d f xs) = UInt8.ofNat (48 + d.toNat) :: 120 :: UInt8.ofNat (48 + f.toNat) :: 58 :: 32 :: Lib.join (xs.map bsL) [32] := by
  have hc := card_iff.1 h
  rw [cardT, if_pos h, headB, cardT_tail hc.l1.1, bsL_app, bsL_app, bsL_app, bsL_app, num_fig (by have := hc.d1; omega), num_fig (by have := hc.f1; omega), joinB, bsL_mkB]
  rfl
theorem strip_sp {b : ByteArray} (h : Strip b) : 32 ∉ bsL b := fun m => by
  obtain ⟨i, hi, e⟩ := List.mem_iff_getElem.1 m
  have hb := h.byte (i := i) hi
  have : byAt b i = 32 := by
    show (bsL b).getD i 0 = 32
    rw [List.getD_eq_getElem?_getD, List.getElem?_eq_getElem hi, Option.getD_some, e]
  rw [this] at hb
  revert hb; decide
theorem card_sp {d f : Int} {xs : List ByteArray} (h : cardB d f xs = true) : ∀ z ∈ xs.map bsL, 32 ∉ z := fun z hz => by
  obtain ⟨x, hx, rfl⟩ := List.mem_map.1 hz
  exact strip_sp ((card_iff.1 h).str x hx).1
theorem card_ne {d f : Int} {xs : List ByteArray} (h : cardB d f xs = true) : xs.map bsL ≠ [] := fun e => by
  have := (card_iff.1 h).l1
  have hl : (xs.map bsL).length = 0 := by rw [e]; rfl
  rw [List.length_map] at hl; omega
theorem map_bsL {xs ys : List ByteArray} (h : xs.map bsL = ys.map bsL) : xs = ys := by
  have := congrArg (List.map mkB) h
  simpa [List.map_map, Function.comp_def, mkB_bsL] using this
theorem jt_bnd {m : Nat} : ∀ {r : List (List UInt8)}, (∀ z ∈ r, z.length ≤ m) → r.length ≤ (jt r).length ∧ (jt r).length ≤ (m + 1) * r.length
  | [], _ => by simp [jt]
  | x :: r, h => by
    obtain ⟨h1, h2⟩ := jt_bnd (r := r) fun z hz => h z (.tail _ hz)
    have hx := h x (.head _)
    rw [jt_cons, List.length_cons, List.length_cons, List.length_append, Nat.mul_add]
    omega
theorem card_size {d f : Int} {xs : List ByteArray} (h : cardB d f xs = true) : 7 ≤ (cardT d f xs).size ∧ (cardT d f xs).size ≤ 300 := by
  have hc := card_iff.1 h
  have e := congrArg List.length (card_bytes h)
  rw [bsL_len] at e
  obtain ⟨x, r, rfl⟩ : ∃ x r, xs = x :: r := by
    cases xs with
    | nil => exact absurd rfl (card_ne h)
    | cons x r => exact ⟨x, r, rfl⟩
  have hx := (hc.str x (.head _)).1.size
  have hb := jt_bnd (m := 16) (r := r.map bsL) fun z hz => by
    obtain ⟨y, hy, rfl⟩ := List.mem_map.1 hz
    rw [bsL_len]; exact (hc.str y (.tail _ hy)).1.size.2
  have hl := hc.l1
  rw [List.length_map] at hb
  rw [List.length_cons] at hl
  simp only [List.map_cons, List.length_cons, join_jt, List.length_append, bsL_len] at e
  omega

/-! the reference's reading -/
/-- the pieces up to the place 5 + n, and where the next one begins -/
def spG (b : ByteArray) : Nat → List ByteArray × Nat
  | 0 => ([], 5)
  | n + 1 => if 5 + n = b.size ∨ byAt b (5 + n) = 32 then ((spG b n).1 ++ [b.extract (spG b n).2 (5 + n)], 5 + n + 1) else spG b n
theorem spG_cut {b : ByteArray} {n : Nat} (h : 5 + n = b.size ∨ byAt b (5 + n) = 32) : spG b (n + 1) = ((spG b n).1 ++ [b.extract (spG b n).2 (5 + n)], 5 + n + 1) := by rw [spG, if_pos h]
theorem spG_not {b : ByteArray} {n : Nat} (h1 : 5 + n ≠ b.size) (h2 : byAt b (5 + n) ≠ 32) : spG b (n + 1) = spG b n := by rw [spG, if_neg fun e => e.elim h1 h2]
theorem spG_len (b : ByteArray) : ∀ n, (spG b n).1.length ≤ n ∧ 5 ≤ (spG b n).2 ∧ (spG b n).2 ≤ 5 + n
  | 0 => ⟨Nat.le_refl _, Nat.le_refl _, Nat.le_refl _⟩
  | n + 1 => by
    have ih := spG_len b n
    rw [spG]; split
    · rw [List.length_append]; simp; omega
    · omega
def cat (P : List ByteArray) : List UInt8 := (P.map fun p => bsL p ++ [32]).flatten
theorem cat_snoc (P : List ByteArray) (q : ByteArray) : cat (P ++ [q]) = cat P ++ (bsL q ++ [32]) := by simp [cat]
theorem jt_join {r : List (List UInt8)} (h : r ≠ []) : jt r = 32 :: Lib.join r [32] := by
  cases r with
  | nil => exact absurd rfl h
  | cons x r => rw [jt_cons, join_jt]
theorem join_snoc (q : ByteArray) : ∀ P : List ByteArray, Lib.join ((P ++ [q]).map bsL) [32] = cat P ++ bsL q
  | [] => by rw [List.nil_append, List.map_cons, List.map_nil, Lib.join_one]; rfl
  | p :: P => by
    rw [List.cons_append, List.map_cons, join_jt, jt_join (by simp), join_snoc q P]
    simp [cat]
theorem ext_bytes (b : ByteArray) (g k : Nat) : bsL (b.extract g k) = ((bsL b).take k).drop g := by
  rw [bsL, Lib.extract_data]; simp [bsL, List.drop_take]
theorem take_at {b : ByteArray} {k : Nat} (h : k < b.size) : (bsL b).take (k + 1) = (bsL b).take k ++ [byAt b k] := take_succ_getD (bsL b) 0 h
theorem ext_snoc {b : ByteArray} {g k : Nat} (h : k < b.size) (hg : g ≤ k) : bsL (b.extract g (k + 1)) = bsL (b.extract g k) ++ [byAt b k] := by
  rw [ext_bytes, ext_bytes, take_at h, List.drop_append_of_le_length (by rw [List.length_take, bsL_len]; omega)]
theorem ext_nil {b : ByteArray} {g : Nat} : bsL (b.extract g g) = [] := by
  rw [ext_bytes]; exact List.drop_eq_nil_of_le (by rw [List.length_take]; omega)
theorem spG_inv (b : ByteArray) : ∀ n, 5 + n ≤ b.size → bsL (b.extract 5 (5 + n)) = cat (spG b n).1 ++ bsL (b.extract (spG b n).2 (5 + n)) ∧ (∀ p ∈ (spG b n).1, 32 ∉ bsL p) ∧ 32 ∉ bsL (b.extract (spG b n).2 (5 + n))
  | 0, _ => by
    refine ⟨rfl, fun p hp => absurd hp List.not_mem_nil, ?_⟩
    rw [show (spG b 0).2 = 5 + 0 from rfl, ext_nil]; exact List.not_mem_nil
  | n + 1, h => by
    obtain ⟨h1, h2, h3⟩ := spG_inv b n (by omega)
    obtain ⟨_, g1, g2⟩ := spG_len b n
    have e := ext_snoc (b := b) (g := 5) (k := 5 + n) (by omega) (by omega)
    by_cases hb : byAt b (5 + n) = 32
    · rw [spG_cut (.inr hb)]
      refine ⟨?_, fun p hp => ?_, ?_⟩
      · dsimp only
        rw [show 5 + (n + 1) = 5 + n + 1 from rfl, ext_nil, e, h1, hb, cat_snoc, List.append_nil, List.append_assoc]
      · rcases List.mem_append.1 hp with hp | hp
        · exact h2 p hp
        · rw [List.mem_singleton.1 hp]; exact h3
      · dsimp only
        rw [show 5 + (n + 1) = 5 + n + 1 from rfl, ext_nil]; exact List.not_mem_nil
    · rw [spG_not (by omega) hb]
      have e2 := ext_snoc (b := b) (g := (spG b n).2) (k := 5 + n) (by omega) (by omega)
      refine ⟨?_, h2, ?_⟩
      · rw [show 5 + (n + 1) = 5 + n + 1 from rfl, e, h1, e2, List.append_assoc]
      · rw [show 5 + (n + 1) = 5 + n + 1 from rfl, e2]
        intro m
        rcases List.mem_append.1 m with m | m
        · exact h3 m
        · exact hb (List.mem_singleton.1 m).symm
/-- the reference's strips -/
def spP (b : ByteArray) : List ByteArray := (spG b (b.size - 4)).1
theorem spP_ok {b : ByteArray} (h : 5 ≤ b.size) : Lib.join ((spP b).map bsL) [32] = (bsL b).drop 5 ∧ (∀ z ∈ (spP b).map bsL, 32 ∉ z) ∧ (spP b).map bsL ≠ [] := by
  obtain ⟨n, hn⟩ : ∃ n, b.size = 5 + n := ⟨b.size - 5, by omega⟩
  obtain ⟨h1, h2, h3⟩ := spG_inv b n (by omega)
  have e : spP b = (spG b n).1 ++ [b.extract (spG b n).2 (5 + n)] := by
    rw [spP, show b.size - 4 = n + 1 by omega, spG_cut (.inl hn.symm)]
  have e5 : bsL (b.extract 5 (5 + n)) = (bsL b).drop 5 := by
    rw [ext_bytes, List.take_of_length_le (by rw [bsL_len]; omega)]
  rw [e]
  refine ⟨?_, fun z hz => ?_, by simp⟩
  · rw [join_snoc, ← h1, e5]
  · obtain ⟨p, hp, rfl⟩ := List.mem_map.1 hz
    rcases List.mem_append.1 hp with hp | hp
    · exact h2 p hp
    · rw [List.mem_singleton.1 hp]; exact h3
def rdD (b : ByteArray) : Int := byI b 0 - 48
def rdF (b : ByteArray) : Int := byI b 2 - 48
/-- the reference reads a card -/
def okS (b : ByteArray) : Bool := decide (7 ≤ b.size ∧ b.size ≤ 300) && (cardB (rdD b) (rdF b) (spP b) && decide (cardT (rdD b) (rdF b) (spP b) = b))
theorem fig_int {n : Nat} (h : n < 10) : (((UInt8.ofNat (48 + n)).toNat : Nat) : Int) - 48 = n := by
  rw [UInt8.toNat_ofNat_of_lt' (by show 48 + n < 256; omega)]; omega
theorem spec_reads {d f : Int} {xs : List ByteArray} (h : cardB d f xs = true) : okS (cardT d f xs) = true ∧ rdD (cardT d f xs) = d ∧ rdF (cardT d f xs) = f ∧ spP (cardT d f xs) = xs := by
  have hc := card_iff.1 h
  have hd := hc.d1
  have hf := hc.f1
  have hs := card_size h
  have hb := card_bytes h
  have hD : rdD (cardT d f xs) = d := by
    show (((bsL (cardT d f xs)).getD 0 0).toNat : Int) - 48 = d
    rw [hb]
    show (((UInt8.ofNat (48 + d.toNat)).toNat : Nat) : Int) - 48 = d
    rw [fig_int (by omega)]; omega
  have hF : rdF (cardT d f xs) = f := by
    show (((bsL (cardT d f xs)).getD 2 0).toNat : Int) - 48 = f
    rw [hb]
    show (((UInt8.ofNat (48 + f.toNat)).toNat : Nat) : Int) - 48 = f
    rw [fig_int (by omega)]; omega
  have hP : spP (cardT d f xs) = xs := by
    obtain ⟨p1, p2, p3⟩ := spP_ok (b := cardT d f xs) (by omega)
    refine map_bsL (join_unique p3 (card_ne h) p2 (card_sp h) ?_)
    rw [p1, hb]; rfl
  refine ⟨?_, hD, hF, hP⟩
  rw [okS, hD, hF, hP, h, decide_eq_true hs]
  simp
theorem spec_sound {b : ByteArray} (h : okS b = true) : cardB (rdD b) (rdF b) (spP b) = true ∧ cardT (rdD b) (rdF b) (spP b) = b := by
  simp only [okS, Bool.and_eq_true, decide_eq_true_eq] at h
  exact h.2
end Go.Proofs.YtbpcbemnbelajaaDoor
