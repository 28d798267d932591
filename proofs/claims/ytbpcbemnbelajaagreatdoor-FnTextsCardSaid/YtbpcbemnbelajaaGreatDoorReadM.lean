/- ReadCard: the law. -/
import Derived.Test.YtbpcbemnbelajaaGreatDoorAb32
import Derived.Test.YtbpcbemnbelajaaGreatDoorNum
import Derived.Test.YtbpcbemnbelajaaGreatDoorCard
import Derived.Test.YtbpcbemnbelajaaGreatDoorCorn
import Derived.Lib.Join
import Derived.Lib.SplitLaws
import Derived.Lib.AtoiAllCases
import Derived.Lib.ItoaNum
import Derived.Lib.IndexMore
import Derived.Lib.CutLaws
import Derived.Lib.IndexLaws
import Derived.Test.YtbpcbemnbelajaaGreatDoorW1
import Derived.Test.YtbpcbemnbelajaaGreatDoorAb24
import Derived.Test.YtbpcbemnbelajaaGreatDoorStrS
import Derived.Shelf.Strings.Cut
import Derived.Shelf.Strings.Split
import Derived.Shelf.Strconv.AtoiAll
import Derived.Shelf.Strconv.Itoa3
import Derived.Lib.SmallJoins
import Derived.WalkKit
import Derived.Shelf.Strings.OnBuilder
import Derived.Test.YtbpcbemnbelajaaGreatDoorSzC
import Derived.Test.YtbpcbemnbelajaaGreatDoorMarkS
namespace Go.Proofs.YtbpcbemnbelajaaGreatDoor
set_option maxRecDepth 20000
set_option linter.unusedSimpArgs false
set_option linter.unusedVariables false

section
open Go Go.Ab

/-! pieces between blanks -/
theorem head_unique : ∀ {a b r s : List UInt8}, 32 ∉ a → 32 ∉ b → (r = [] ∨ ∃ t, r = 32 :: t) → (s = [] ∨ ∃ t, s = 32 :: t) → a ++ r = b ++ s → a = b ∧ r = s
  | [], [], _, _, _, _, _, _, h => ⟨rfl, h⟩
  | [], c :: b, r, s, _, hb, hr, _, h => by
    rcases hr with rfl | ⟨t, rfl⟩
    · cases h
    · simp at h; simp [← h.1] at hb
  | c :: a, [], r, s, ha, _, _, hs, h => by
    rcases hs with rfl | ⟨t, rfl⟩
    · cases h
    · simp at h; simp [h.1] at ha
  | c :: a, e :: b, r, s, ha, hb, hr, hs, h => by
    simp only [List.cons_append, List.cons.injEq] at h
    obtain ⟨h1, h2⟩ := head_unique (fun m => ha (List.mem_cons_of_mem _ m)) (fun m => hb (List.mem_cons_of_mem _ m)) hr hs h.2
    exact ⟨by rw [h.1, h1], h2⟩
/-- the pieces behind the first, each after a blank -/
def jt (r : List (List UInt8)) : List UInt8 := (r.map (32 :: ·)).flatten
theorem jt_cons (x : List UInt8) (r : List (List UInt8)) : jt (x :: r) = 32 :: (x ++ jt r) := by simp [jt]
theorem jt_head (r : List (List UInt8)) : jt r = [] ∨ ∃ t, jt r = 32 :: t := by
  cases r with
  | nil => exact .inl rfl
  | cons x r => exact .inr ⟨_, jt_cons x r⟩
theorem jt_app (r s : List (List UInt8)) : jt (r ++ s) = jt r ++ jt s := by simp [jt]
theorem join_jt (x : List UInt8) (r : List (List UInt8)) : Lib.join (x :: r) [32] = x ++ jt r := by
  rw [Lib.join_cons]; rfl
theorem jt_unique : ∀ {x y : List UInt8} {xs ys : List (List UInt8)}, 32 ∉ x → 32 ∉ y → (∀ z ∈ xs, 32 ∉ z) → (∀ z ∈ ys, 32 ∉ z) → x ++ jt xs = y ++ jt ys → x = y ∧ xs = ys
  | x, y, [], ys, hx, hy, _, _, h => by
    obtain ⟨h1, h2⟩ := head_unique hx hy (jt_head _) (jt_head _) h
    refine ⟨h1, ?_⟩
    cases ys with
    | nil => rfl
    | cons z ys => rw [jt_cons] at h2; cases h2
  | x, y, z :: xs, ys, hx, hy, hX, hY, h => by
    obtain ⟨h1, h2⟩ := head_unique hx hy (jt_head _) (jt_head _) h
    refine ⟨h1, ?_⟩
    cases ys with
    | nil => rw [jt_cons] at h2; cases h2
    | cons w ys =>
      rw [jt_cons, jt_cons] at h2
      injection h2 with _ h2
      obtain ⟨h3, h4⟩ := jt_unique (hX z (.head _)) (hY w (.head _)) (fun v hv => hX v (.tail _ hv)) (fun v hv => hY v (.tail _ hv)) h2
      rw [h3, h4]
/-- what is joined by blanks can be taken apart in one way -/
theorem join_unique {xs ys : List (List UInt8)} (h1 : xs ≠ []) (h2 : ys ≠ []) (hx : ∀ z ∈ xs, 32 ∉ z) (hy : ∀ z ∈ ys, 32 ∉ z) (h : Lib.join xs [32] = Lib.join ys [32]) : xs = ys := by
  cases xs with
  | nil => exact absurd rfl h1
  | cons x xs =>
    cases ys with
    | nil => exact absurd rfl h2
    | cons y ys =>
      rw [join_jt, join_jt] at h
      obtain ⟨h3, h4⟩ := jt_unique (hx x (.head _)) (hy y (.head _)) (fun v hv => hx v (.tail _ hv)) (fun v hv => hy v (.tail _ hv)) h
      rw [h3, h4]

/-! the text of a card -/
/-- a head, and the strips, each behind a blank -/
def tailG (s : ByteArray) (xs : List ByteArray) : Nat → ByteArray
  | 0 => s
  | k + 1 => (tailG s xs k ++ ⟨#[32]⟩) ++ xs.getD k ⟨#[]⟩
theorem tailG_succ {s : ByteArray} {xs : List ByteArray} {k : Nat} {x : ByteArray} (h : xs[k]? = some x) : tailG s xs (k + 1) = (tailG s xs k ++ ⟨#[32]⟩) ++ x := by
  rw [tailG]; simp [List.getD, h]
theorem bsL_app (a b : ByteArray) : bsL (a ++ b) = bsL a ++ bsL b := by simp [bsL, ByteArray.toList_data_append]
theorem tailG_bytes {s : ByteArray} {xs : List ByteArray} : ∀ {k : Nat}, k ≤ xs.length → bsL (tailG s xs k) = bsL s ++ jt ((xs.take k).map bsL)
  | 0, _ => by simp [tailG, jt]
  | k + 1, hk => by
    obtain ⟨x, hx⟩ := some_at (show k < xs.length by omega)
    rw [tailG_succ hx, bsL_app, bsL_app, tailG_bytes (by omega), take_snoc hx, List.map_append, jt_app]
    simp [jt]; rfl
def headB (d f : Nat) : ByteArray := ((numB d ++ ⟨#[120]⟩) ++ numB f) ++ ⟨#[58]⟩
def cardT (d f : Int) (xs : List ByteArray) : ByteArray := if cardB d f xs = true then tailG (headB d.toNat f.toNat) xs xs.length else ⟨#[]⟩
def joinB (xs : List ByteArray) : ByteArray := mkB (Lib.join (xs.map bsL) [32])
theorem cardT_tail {s : ByteArray} {xs : List ByteArray} (h : 1 ≤ xs.length) : tailG (s ++ ⟨#[58]⟩) xs xs.length = (s ++ ⟨#[58, 32]⟩) ++ joinB xs := by
  refine bsL_inj ?_
  rw [tailG_bytes (Nat.le_refl _), List.take_length, bsL_app, bsL_app, bsL_app]
  cases xs with
  | nil => simp at h
  | cons x xs =>
    rw [joinB, bsL_mkB, List.map_cons, join_jt, jt_cons]
    simp [bsL]
theorem num_fig {n : Nat} (h : n < 10) : bsL (numB n) = [UInt8.ofNat (48 + n)] := by rw [numB, if_pos h]; rfl
theorem card_bytes {d f : Int} {xs : List ByteArray} (h : cardB d f xs = true) : bsL (cardT d f xs) = UInt8.ofNat (48 + d.toNat) :: 120 :: UInt8.ofNat (48 + f.toNat) :: 58 :: 32 :: Lib.join (xs.map bsL) [32] := by
  have hc := card_iff.1 h
  rw [cardT, if_pos h, headB, cardT_tail hc.l1.1, bsL_app, bsL_app, bsL_app, bsL_app, num_fig (by have := hc.d1; omega), num_fig (by have := hc.f1; omega), joinB, bsL_mkB]
  rfl
theorem strip_sp {b : ByteArray} (h : Strip b) : 32 ∉ bsL b := fun m => by
  obtain ⟨i, hi, e⟩ := List.mem_iff_getElem.1 m
  have hb := h.byte (i := i) hi
  have : byAt b i = 32 := by
    show (bsL b).getD i 0 = 32
    rw [List.getD_eq_getElem?_getD, List.getElem?_eq_getElem hi, Option.getD_some, e]
  rw [this] at hb
  revert hb; decide
theorem card_sp {d f : Int} {xs : List ByteArray} (h : cardB d f xs = true) : ∀ z ∈ xs.map bsL, 32 ∉ z := fun z hz => by
  obtain ⟨x, hx, rfl⟩ := List.mem_map.1 hz
  exact strip_sp ((card_iff.1 h).str x hx).1
theorem card_ne {d f : Int} {xs : List ByteArray} (h : cardB d f xs = true) : xs.map bsL ≠ [] := fun e => by
  have := (card_iff.1 h).l1
  have hl : (xs.map bsL).length = 0 := by rw [e]; rfl
  rw [List.length_map] at hl; omega
theorem map_bsL {xs ys : List ByteArray} (h : xs.map bsL = ys.map bsL) : xs = ys := by
  have := congrArg (List.map mkB) h
  simpa [List.map_map, Function.comp_def, mkB_bsL] using this
theorem jt_bnd {m : Nat} : ∀ {r : List (List UInt8)}, (∀ z ∈ r, z.length ≤ m) → r.length ≤ (jt r).length ∧ (jt r).length ≤ (m + 1) * r.length
  | [], _ => by simp [jt]
  | x :: r, h => by
    obtain ⟨h1, h2⟩ := jt_bnd (r := r) fun z hz => h z (.tail _ hz)
    have hx := h x (.head _)
    rw [jt_cons, List.length_cons, List.length_cons, List.length_append, Nat.mul_add]
    omega
theorem card_size {d f : Int} {xs : List ByteArray} (h : cardB d f xs = true) : 7 ≤ (cardT d f xs).size ∧ (cardT d f xs).size ≤ 300 := by
  have hc := card_iff.1 h
  have e := congrArg List.length (card_bytes h)
  rw [bsL_len] at e
  obtain ⟨x, r, rfl⟩ : ∃ x r, xs = x :: r := by
    cases xs with
    | nil => exact absurd rfl (card_ne h)
    | cons x r => exact ⟨x, r, rfl⟩
  have hx := (hc.str x (.head _)).1.size
  have hb := jt_bnd (m := 16) (r := r.map bsL) fun z hz => by
    obtain ⟨y, hy, rfl⟩ := List.mem_map.1 hz
    rw [bsL_len]; exact (hc.str y (.tail _ hy)).1.size.2
  have hl := hc.l1
  rw [List.length_map] at hb
  rw [List.length_cons] at hl
  simp only [List.map_cons, List.length_cons, join_jt, List.length_append, bsL_len] at e
  omega

/-! the reference's reading -/
/-- the pieces up to the place 5 + n, and where the next one begins -/
def spG (b : ByteArray) : Nat → List ByteArray × Nat
  | 0 => ([], 5)
  | n + 1 => if 5 + n = b.size ∨ byAt b (5 + n) = 32 then ((spG b n).1 ++ [b.extract (spG b n).2 (5 + n)], 5 + n + 1) else spG b n
theorem spG_cut {b : ByteArray} {n : Nat} (h : 5 + n = b.size ∨ byAt b (5 + n) = 32) : spG b (n + 1) = ((spG b n).1 ++ [b.extract (spG b n).2 (5 + n)], 5 + n + 1) := by rw [spG, if_pos h]
theorem spG_not {b : ByteArray} {n : Nat} (h1 : 5 + n ≠ b.size) (h2 : byAt b (5 + n) ≠ 32) : spG b (n + 1) = spG b n := by rw [spG, if_neg fun e => e.elim h1 h2]
theorem spG_len (b : ByteArray) : ∀ n, (spG b n).1.length ≤ n ∧ 5 ≤ (spG b n).2 ∧ (spG b n).2 ≤ 5 + n
  | 0 => ⟨Nat.le_refl _, Nat.le_refl _, Nat.le_refl _⟩
  | n + 1 => by
    have ih := spG_len b n
    rw [spG]; split
    · rw [List.length_append]; simp; omega
    · omega
def cat (P : List ByteArray) : List UInt8 := (P.map fun p => bsL p ++ [32]).flatten
theorem cat_snoc (P : List ByteArray) (q : ByteArray) : cat (P ++ [q]) = cat P ++ (bsL q ++ [32]) := by simp [cat]
theorem jt_join {r : List (List UInt8)} (h : r ≠ []) : jt r = 32 :: Lib.join r [32] := by
  cases r with
  | nil => exact absurd rfl h
  | cons x r => rw [jt_cons, join_jt]
theorem join_snoc (q : ByteArray) : ∀ P : List ByteArray, Lib.join ((P ++ [q]).map bsL) [32] = cat P ++ bsL q
  | [] => by rw [List.nil_append, List.map_cons, List.map_nil, Lib.join_one]; rfl
  | p :: P => by
    rw [List.cons_append, List.map_cons, join_jt, jt_join (by simp), join_snoc q P]
    simp [cat]
theorem ext_bytes (b : ByteArray) (g k : Nat) : bsL (b.extract g k) = ((bsL b).take k).drop g := by
  rw [bsL, Lib.extract_data]; simp [bsL, List.drop_take]
theorem take_at {b : ByteArray} {k : Nat} (h : k < b.size) : (bsL b).take (k + 1) = (bsL b).take k ++ [byAt b k] := take_succ_getD (bsL b) 0 h
theorem ext_snoc {b : ByteArray} {g k : Nat} (h : k < b.size) (hg : g ≤ k) : bsL (b.extract g (k + 1)) = bsL (b.extract g k) ++ [byAt b k] := by
  rw [ext_bytes, ext_bytes, take_at h, List.drop_append_of_le_length (by rw [List.length_take, bsL_len]; omega)]
theorem ext_nil {b : ByteArray} {g : Nat} : bsL (b.extract g g) = [] := by
  rw [ext_bytes]; exact List.drop_eq_nil_of_le (by rw [List.length_take]; omega)
theorem spG_inv (b : ByteArray) : ∀ n, 5 + n ≤ b.size → bsL (b.extract 5 (5 + n)) = cat (spG b n).1 ++ bsL (b.extract (spG b n).2 (5 + n)) ∧ (∀ p ∈ (spG b n).1, 32 ∉ bsL p) ∧ 32 ∉ bsL (b.extract (spG b n).2 (5 + n))
  | 0, _ => by
    refine ⟨rfl, fun p hp => absurd hp List.not_mem_nil, ?_⟩
    rw [show (spG b 0).2 = 5 + 0 from rfl, ext_nil]; exact List.not_mem_nil
  | n + 1, h => by
    obtain ⟨h1, h2, h3⟩ := spG_inv b n (by omega)
    obtain ⟨_, g1, g2⟩ := spG_len b n
    have e := ext_snoc (b := b) (g := 5) (k := 5 + n) (by omega) (by omega)
    by_cases hb : byAt b (5 + n) = 32
    · rw [spG_cut (.inr hb)]
      refine ⟨?_, fun p hp => ?_, ?_⟩
      · dsimp only
        rw [show 5 + (n + 1) = 5 + n + 1 from rfl, ext_nil, e, h1, hb, cat_snoc, List.append_nil, List.append_assoc]
      · rcases List.mem_append.1 hp with hp | hp
        · exact h2 p hp
        · rw [List.mem_singleton.1 hp]; exact h3
      · dsimp only
        rw [show 5 + (n + 1) = 5 + n + 1 from rfl, ext_nil]; exact List.not_mem_nil
    · rw [spG_not (by omega) hb]
      have e2 := ext_snoc (b := b) (g := (spG b n).2) (k := 5 + n) (by omega) (by omega)
      refine ⟨?_, h2, ?_⟩
      · rw [show 5 + (n + 1) = 5 + n + 1 from rfl, e, h1, e2, List.append_assoc]
      · rw [show 5 + (n + 1) = 5 + n + 1 from rfl, e2]
        intro m
        rcases List.mem_append.1 m with m | m
        · exact h3 m
        · exact hb (List.mem_singleton.1 m).symm
/-- the reference's strips -/
def spP (b : ByteArray) : List ByteArray := (spG b (b.size - 4)).1
theorem spP_ok {b : ByteArray} (h : 5 ≤ b.size) : Lib.join ((spP b).map bsL) [32] = (bsL b).drop 5 ∧ (∀ z ∈ (spP b).map bsL, 32 ∉ z) ∧ (spP b).map bsL ≠ [] := by
  obtain ⟨n, hn⟩ : ∃ n, b.size = 5 + n := ⟨b.size - 5, by omega⟩
  obtain ⟨h1, h2, h3⟩ := spG_inv b n (by omega)
  have e : spP b = (spG b n).1 ++ [b.extract (spG b n).2 (5 + n)] := by
    rw [spP, show b.size - 4 = n + 1 by omega, spG_cut (.inl hn.symm)]
  have e5 : bsL (b.extract 5 (5 + n)) = (bsL b).drop 5 := by
    rw [ext_bytes, List.take_of_length_le (by rw [bsL_len]; omega)]
  rw [e]
  refine ⟨?_, fun z hz => ?_, by simp⟩
  · rw [join_snoc, ← h1, e5]
  · obtain ⟨p, hp, rfl⟩ := List.mem_map.1 hz
    rcases List.mem_append.1 hp with hp | hp
    · exact h2 p hp
    · rw [List.mem_singleton.1 hp]; exact h3
def rdD (b : ByteArray) : Int := byI b 0 - 48
def rdF (b : ByteArray) : Int := byI b 2 - 48
/-- the reference reads a card -/
def okS (b : ByteArray) : Bool := decide (7 ≤ b.size ∧ b.size ≤ 300) && (cardB (rdD b) (rdF b) (spP b) && decide (cardT (rdD b) (rdF b) (spP b) = b))
theorem fig_int {n : Nat} (h : n < 10) : (((UInt8.ofNat (48 + n)).toNat : Nat) : Int) - 48 = n := by
  rw [UInt8.toNat_ofNat_of_lt' (by show 48 + n < 256; omega)]; omega
theorem spec_reads {d f : Int} {xs : List ByteArray} (h : cardB d f xs = true) : okS (cardT d f xs) = true ∧ rdD (cardT d f xs) = d ∧ rdF (cardT d f xs) = f ∧ spP (cardT d f xs) = xs := by
  have hc := card_iff.1 h
  have hd := hc.d1
  have hf := hc.f1
  have hs := card_size h
  have hb := card_bytes h
  have hD : rdD (cardT d f xs) = d := by
    show (((bsL (cardT d f xs)).getD 0 0).toNat : Int) - 48 = d
    rw [hb]
    show (((UInt8.ofNat (48 + d.toNat)).toNat : Nat) : Int) - 48 = d
    rw [fig_int (by omega)]; omega
  have hF : rdF (cardT d f xs) = f := by
    show (((bsL (cardT d f xs)).getD 2 0).toNat : Int) - 48 = f
    rw [hb]
    show (((UInt8.ofNat (48 + f.toNat)).toNat : Nat) : Int) - 48 = f
    rw [fig_int (by omega)]; omega
  have hP : spP (cardT d f xs) = xs := by
    obtain ⟨p1, p2, p3⟩ := spP_ok (b := cardT d f xs) (by omega)
    refine map_bsL (join_unique p3 (card_ne h) p2 (card_sp h) ?_)
    rw [p1, hb]; rfl
  refine ⟨?_, hD, hF, hP⟩
  rw [okS, hD, hF, hP, h, decide_eq_true hs]
  simp
theorem spec_sound {b : ByteArray} (h : okS b = true) : cardB (rdD b) (rdF b) (spP b) = true ∧ cardT (rdD b) (rdF b) (spP b) = b := by
  simp only [okS, Bool.and_eq_true, decide_eq_true_eq] at h
  exact h.2
end

section
open Go Go.Ab

def cutH (b s : ByteArray) : ByteArray := ⟨(Lib.cut b.data.toList s.data.toList).1.toArray⟩
def cutR (b s : ByteArray) : ByteArray := ⟨(Lib.cut b.data.toList s.data.toList).2.1.toArray⟩
def cutO (b s : ByteArray) : Bool := (Lib.cut b.data.toList s.data.toList).2.2
theorem bsL_mk (l : List UInt8) : bsL ⟨l.toArray⟩ = l := by simp [bsL]
theorem prefix_app : ∀ {s l : List UInt8}, s.isPrefixOf l = true → l = s ++ l.drop s.length
  | [], l, _ => by simp
  | a :: s, [], h => by simp at h
  | a :: s, c :: l, h => by
    simp only [List.isPrefixOf_cons_cons, Bool.and_eq_true, beq_iff_eq] at h
    rw [List.length_cons, List.drop_succ_cons, List.cons_append, ← prefix_app h.2, h.1]
theorem cut_bytes {b s : ByteArray} (h : cutO b s = true) : bsL b = bsL (cutH b s) ++ (bsL s ++ bsL (cutR b s)) := by
  unfold cutO cutH cutR at *
  rw [bsL_mk, bsL_mk]
  rcases Lib.index_spec b.data.toList s.data.toList with ⟨h1, _⟩ | ⟨i, h1, h2, h3, _⟩
  · unfold Lib.cut at h
    rw [h1, if_neg (by omega)] at h; cases h
  · unfold Lib.cut
    rw [h1, if_pos (by omega), Int.toNat_natCast]
    have := prefix_app (s := s.data.toList) (l := b.data.toList.drop i) h3
    rw [List.drop_drop] at this
    show b.data.toList = b.data.toList.take i ++ (s.data.toList ++ b.data.toList.drop (i + s.data.toList.length))
    rw [← this, List.take_append_drop]
theorem cutR_size (b s : ByteArray) (h1 : s.size = 2) : (cutR b s).size ≤ b.size := by
  unfold cutR Lib.cut
  split
  · show (List.drop _ _).toArray.size ≤ b.size
    rw [List.size_toArray, List.length_drop]
    show b.size - _ ≤ b.size
    omega
  · exact Nat.zero_le _
theorem cutH_size (b s : ByteArray) : (cutH b s).size ≤ b.size := by
  unfold cutH Lib.cut
  split
  · show (List.take _ _).toArray.size ≤ b.size
    rw [List.size_toArray, List.length_take]
    show min _ b.size ≤ b.size
    omega
  · show b.data.toList.toArray.size ≤ b.size
    rw [List.size_toArray]; exact Nat.le_refl _

/-! the pieces between blanks -/
def blank : ByteArray := ⟨#[32]⟩
def splP (s : ByteArray) : List ByteArray := Lib.splitB blank 0 (Lib.countB s blank) s
theorem count_miss32 {s : ByteArray} (h : Lib.countB s blank = 0) : 32 ∉ bsL s := by
  have e : Lib.count (bsL s) [32] = 0 := h
  rw [Lib.count_one] at e
  exact List.count_eq_zero.1 e
theorem spl_ok : ∀ (k : Nat) (s : ByteArray), Lib.countB s blank = k → Lib.join ((Lib.splitB blank 0 k s).map bsL) [32] = bsL s ∧ ∀ p ∈ Lib.splitB blank 0 k s, 32 ∉ bsL p
  | 0, s, hk => by
    rw [Lib.splitB_zero]
    exact ⟨by rw [List.map_cons, List.map_nil, Lib.join_one], fun p hp => by rw [List.mem_singleton.1 hp]; exact count_miss32 hk⟩
  | k + 1, s, hk => by
    rcases Lib.indexB_cases s blank with hix | ⟨i, hix, hroom⟩
    · rw [Lib.countB_miss s blank hix] at hk; omega
    · have hc := Lib.countB_hit s blank i (by decide) hix
      obtain ⟨h1, h2⟩ := spl_ok k (s.extract (i + blank.size) s.size) (by omega)
      have hi : Lib.indexByte (bsL s) 32 = i := by rw [← Lib.index_one]; exact hix
      obtain ⟨g1, g2⟩ := Lib.indexByte_some hi
      have hlt := some_lt g1
      have e0 : bsL (s.extract 0 (i + 0)) = (bsL s).take i := by rw [ext_bytes, Nat.add_zero, List.drop_zero]
      have e1 : bsL (s.extract (i + blank.size) s.size) = (bsL s).drop (i + 1) := by
        rw [ext_bytes, List.take_of_length_le (by rw [bsL_len]; exact Nat.le_refl _)]; rfl
      have es : bsL s = (bsL s).take i ++ 32 :: (bsL s).drop (i + 1) := by
        have hx : (bsL s)[i] = 32 := by rw [List.getElem?_eq_getElem hlt] at g1; exact Option.some.inj g1
        rw [← hx, ← List.drop_eq_getElem_cons hlt, List.take_append_drop]
      rw [Lib.splitB_hit blank 0 k s i hix]
      refine ⟨?_, fun p hp => ?_⟩
      · rw [List.map_cons, join_jt, jt_join, h1, e0, e1, ← es]
        intro e
        have := congrArg List.length e
        rw [List.length_map, Lib.splitB_all blank (by decide) 0 k _ (by omega)] at this
        simp at this
      · rcases List.mem_cons.1 hp with rfl | hp
        · rw [e0]
          intro m
          obtain ⟨j, hj, e⟩ := List.mem_iff_getElem.1 m
          have hj2 : j < i := by rw [List.length_take] at hj; omega
          refine g2 j hj2 ?_
          rw [List.getElem_take] at e
          rw [List.getElem?_eq_getElem (by omega), e]
        · exact h2 p hp
theorem splP_len (s : ByteArray) : (splP s).length = Lib.countB s blank + 1 := Lib.splitB_all blank (by decide) 0 _ s rfl
theorem splP_ok (s : ByteArray) : Lib.join ((splP s).map bsL) [32] = bsL s ∧ (∀ z ∈ (splP s).map bsL, 32 ∉ z) ∧ (splP s).map bsL ≠ [] := by
  obtain ⟨h1, h2⟩ := spl_ok _ s rfl
  refine ⟨h1, fun z hz => ?_, fun e => ?_⟩
  · obtain ⟨p, hp, rfl⟩ := List.mem_map.1 hz
    exact h2 p hp
  · have := congrArg List.length e
    rw [List.length_map, splP_len] at this
    simp at this

/-! numbers -/
def uV (b : ByteArray) : Int := match Lib.atoiAll (bsL b) with | .ok v => v | _ => 0
def uOk (b : ByteArray) : Bool := match Lib.atoiAll (bsL b) with | .ok v => (decide (0 ≤ v) && decide (v ≤ 1000000000)) && decide ((⟨(Lib.itoa v).toArray⟩ : ByteArray) = b) | _ => false
def uR (b : ByteArray) : Int := if uOk b = true then uV b else 0
theorem itoa_one {n : Nat} (h : n < 10) : Lib.itoa (n : Int) = [UInt8.ofNat (48 + n)] := by
  rw [Lib.itoa, if_neg (by omega), Int.toNat_natCast, Lib.decDigits, dif_pos h]
theorem uR_sound {b : ByteArray} (h : uOk b = true) (h1 : 1 ≤ uR b) (h8 : uR b ≤ 8) : bsL b = [UInt8.ofNat (48 + (uR b).toNat)] := by
  rw [uR, if_pos h] at *
  unfold uOk at h
  unfold uV at *
  cases hv : Lib.atoiAll (bsL b) with
  | ok v =>
    rw [hv] at h h1 h8
    dsimp only at h h1 h8 ⊢
    simp only [Bool.and_eq_true, decide_eq_true_eq] at h
    obtain ⟨n, rfl⟩ : ∃ n : Nat, v = n := ⟨v.toNat, by omega⟩
    rw [← h.2, bsL_mk, itoa_one (by omega), Int.toNat_natCast]
  | _ => rw [hv] at h; cases h
theorem atoi_one : ∀ n, n < 9 → Lib.atoiAll [UInt8.ofNat (48 + n)] = .ok (n : Int) := by decide
theorem uR_fig {b : ByteArray} {n : Nat} (hn : n < 9) (h : bsL b = [UInt8.ofNat (48 + n)]) : uOk b = true ∧ uR b = n := by
  have ha := atoi_one n hn
  have h1 : uOk b = true := by
    unfold uOk
    rw [h, ha]
    simp only [Bool.and_eq_true, decide_eq_true_eq]
    refine ⟨⟨by omega, by omega⟩, bsL_inj ?_⟩
    rw [bsL_mk, itoa_one (by omega), h]
  refine ⟨h1, ?_⟩
  rw [uR, if_pos h1, uV, h, ha]

/-! the program's reading -/
def colonB : ByteArray := ⟨#[58, 32]⟩
def xB : ByteArray := ⟨#[120]⟩
def hdB (b : ByteArray) : ByteArray := cutH b colonB
def rsB (b : ByteArray) : ByteArray := cutR b colonB
def dnB (b : ByteArray) : ByteArray := cutH (hdB b) xB
def fwB (b : ByteArray) : ByteArray := cutR (hdB b) xB
def okI (b : ByteArray) : Bool := (((cutO b colonB && cutO (hdB b) xB) && uOk (dnB b)) && uOk (fwB b)) && cardB (uR (dnB b)) (uR (fwB b)) (splP (rsB b))
theorem impl_sound {b : ByteArray} (h : okI b = true) : cardB (uR (dnB b)) (uR (fwB b)) (splP (rsB b)) = true ∧ cardT (uR (dnB b)) (uR (fwB b)) (splP (rsB b)) = b := by
  simp only [okI, Bool.and_eq_true] at h
  obtain ⟨⟨⟨⟨c1, c2⟩, u1⟩, u2⟩, hc⟩ := h
  refine ⟨hc, bsL_inj ?_⟩
  have hcc := card_iff.1 hc
  have b1 := cut_bytes c1
  have b2 := cut_bytes c2
  have n1 := uR_sound u1 hcc.d1.1 hcc.d1.2
  have n2 := uR_sound u2 hcc.f1.1 hcc.f1.2
  have b3 : bsL (cutH b colonB) = bsL (dnB b) ++ (bsL xB ++ bsL (fwB b)) := b2
  have b4 : bsL b = bsL (cutH b colonB) ++ (bsL colonB ++ bsL (rsB b)) := b1
  rw [card_bytes hc, b4, b3, n1, n2, (splP_ok (rsB b)).1]
  rfl
theorem fig_ne {n : Nat} (h : n < 9) : UInt8.ofNat (48 + n) ≠ 58 ∧ UInt8.ofNat (48 + n) ≠ 120 := by
  have : ∀ n, n < 9 → UInt8.ofNat (48 + n) ≠ 58 ∧ UInt8.ofNat (48 + n) ≠ 120 := by decide
  exact this n h
theorem index_colon {D F : UInt8} (hD : D ≠ 58) (hF : F ≠ 58) (r : List UInt8) : Lib.index (D :: 120 :: F :: 58 :: 32 :: r) [58, 32] = 3 := by
  simp [Lib.index, List.isPrefixOf, hD.symm, hF.symm]
theorem index_x {D F : UInt8} (hD : D ≠ 120) : Lib.index [D, 120, F] [120] = 1 := by
  simp [Lib.index, List.isPrefixOf, hD.symm]
theorem impl_reads {d f : Int} {xs : List ByteArray} (h : cardB d f xs = true) : okI (cardT d f xs) = true ∧ uR (dnB (cardT d f xs)) = d ∧ uR (fwB (cardT d f xs)) = f ∧ splP (rsB (cardT d f xs)) = xs := by
  have hc := card_iff.1 h
  have hd := hc.d1
  have hf := hc.f1
  have hb := card_bytes h
  obtain ⟨n1, n2⟩ := fig_ne (n := d.toNat) (by omega)
  obtain ⟨m1, m2⟩ := fig_ne (n := f.toNat) (by omega)
  have hcut : Lib.cut (cardT d f xs).data.toList colonB.data.toList = ([UInt8.ofNat (48 + d.toNat), 120, UInt8.ofNat (48 + f.toNat)], Lib.join (xs.map bsL) [32], true) := by
    show Lib.cut (bsL (cardT d f xs)) [58, 32] = _
    rw [hb]
    unfold Lib.cut
    rw [index_colon n1 m1]
    rfl
  have hh : bsL (hdB (cardT d f xs)) = [UInt8.ofNat (48 + d.toNat), 120, UInt8.ofNat (48 + f.toNat)] := by
    unfold hdB cutH; rw [hcut, bsL_mk]
  have hr : bsL (rsB (cardT d f xs)) = Lib.join (xs.map bsL) [32] := by
    unfold rsB cutR; rw [hcut, bsL_mk]
  have hcut2 : Lib.cut (hdB (cardT d f xs)).data.toList xB.data.toList = ([UInt8.ofNat (48 + d.toNat)], [UInt8.ofNat (48 + f.toNat)], true) := by
    show Lib.cut (bsL (hdB (cardT d f xs))) [120] = _
    rw [hh]
    unfold Lib.cut
    rw [index_x n2]
    rfl
  have h1 : bsL (dnB (cardT d f xs)) = [UInt8.ofNat (48 + d.toNat)] := by unfold dnB cutH; rw [hcut2, bsL_mk]
  have h2 : bsL (fwB (cardT d f xs)) = [UInt8.ofNat (48 + f.toNat)] := by unfold fwB cutR; rw [hcut2, bsL_mk]
  obtain ⟨u1, u2⟩ := uR_fig (by omega) h1
  obtain ⟨v1, v2⟩ := uR_fig (by omega) h2
  have hP : splP (rsB (cardT d f xs)) = xs := by
    obtain ⟨p1, p2, p3⟩ := splP_ok (rsB (cardT d f xs))
    exact map_bsL (join_unique p3 (card_ne h) p2 (card_sp h) (p1.trans hr))
  have e1 : uR (dnB (cardT d f xs)) = d := by rw [u2]; omega
  have e2 : uR (fwB (cardT d f xs)) = f := by rw [v2]; omega
  refine ⟨?_, e1, e2, hP⟩
  rw [okI, e1, e2, hP, h, u1, v1, show cutO (cardT d f xs) colonB = true from by rw [cutO, hcut], show cutO (hdB (cardT d f xs)) xB = true from by rw [cutO, hcut2]]
  rfl
/-- the program and the reference read alike -/
theorem read_eq (b : ByteArray) : okI b = okS b ∧ (okS b = true → uR (dnB b) = rdD b ∧ uR (fwB b) = rdF b ∧ splP (rsB b) = spP b) := by
  cases hS : okS b with
  | true =>
    obtain ⟨h1, h2⟩ := spec_sound hS
    obtain ⟨g1, g2, g3, g4⟩ := impl_reads h1
    rw [h2] at g1 g2 g3 g4
    exact ⟨g1, fun _ => ⟨g2, g3, g4⟩⟩
  | false =>
    refine ⟨?_, fun h => by cases h⟩
    cases hI : okI b with
    | false => rfl
    | true =>
      obtain ⟨h1, h2⟩ := impl_sound hI
      have := (spec_reads h1).1
      rw [h2, hS] at this; cases this
end

section
open Go Go.Ab Go.Shelf Go.RowKit Go.Sort

def tkRen : Go.Shelf.Ren := ⟨fun | 129 => 94 | 138 => 45 | 143 => 60 | 145 => 19 | 146 => 21 | 171 => 37 | 172 => 42 | 195 => 61 | 197 => 79 | 205 => 91 | 217 => 70 | 218 => 62 | 219 => 56 | 220 => 41 | 221 => 43 | 224 => 72 | 225 => 71 | 243 => 53 | 244 => 57 | 245 => 58 | 246 => 67 | 247 => 74 | 260 => 92 | 266 => 87 | 267 => 73 | 268 => 59 | 279 => 75 | 280 => 76 | 281 => 77 | 282 => 78 | 283 => 83 | 284 => 84 | 285 => 85 | 286 => 86 | 287 => 89 | 314 => 88 | 316 => 90 | 317 => 93 | 318 => 95 | 319 => 96 | 320 => 97 | 321 => 98 | 322 => 99 | 337 => 100 | 338 => 101 | n => n, fun | 0 => 0 | 2 => 2 | 3 => 3 | 4 => 4 | 5 => 5 | 9 => 9 | 20 => 20 | 21 => 21 | 31 => 24 | 37 => 22 | 46 => 78 | 51 => 96 | 53 => 99 | 59 => 44 | 75 => 65 | 76 => 66 | 80 => 68 | 85 => 89 | 105 => 94 | 119 => 121 | 127 => 74 | 138 => 123 | 139 => 124 | 143 => 118 | 145 => 120 | 146 => 97 | 167 => 88 | 168 => 91 | 171 => 102 | 173 => 105 | 175 => 108 | 210 => 111 | 212 => 114 | 213 => 115 | 232 => 126 | 233 => 127 | n => n, fun | 1 => 0 | 3 => 4 | 4 => 5 | 15 => 1 | 16 => 2 | 17 => 3 | 18 => 6 | 19 => 7 | n => n⟩
theorem tk145 : Lays.n145 Tryz.prog tkRen where
  mixed := by kernel_rfl
  f145 := Tryz.func19.trans (congrArg some (by kernel_rfl))
  f217 := Tryz.func70.trans (congrArg some (by kernel_rfl))
  f219 := Tryz.func56.trans (congrArg some (by kernel_rfl))
  f220 := Tryz.func41.trans (congrArg some (by kernel_rfl))
  f224 := Tryz.func72.trans (congrArg some (by kernel_rfl))
  f225 := Tryz.func71.trans (congrArg some (by kernel_rfl))
  f266 := Tryz.func87.trans (congrArg some (by kernel_rfl))
  f267 := Tryz.func73.trans (congrArg some (by kernel_rfl))
  f314 := Tryz.func88.trans (congrArg some (by kernel_rfl))
  t3 := Tryz.underlying3
  a3 := Tryz.isAgg3
  z3 := Tryz.sizeOf3
  v3 := Tryz.zeroValue3
  t4 := Tryz.underlying4
  a4 := Tryz.isAgg4
  z4 := Tryz.sizeOf4
  v4 := Tryz.zeroValue4
  t5 := Tryz.underlying5
  a5 := Tryz.isAgg5
  z5 := Tryz.sizeOf5
  v5 := Tryz.zeroValue5
  t9 := Tryz.underlying9
  a9 := Tryz.isAgg9
  z9 := Tryz.sizeOf9
  v9 := Tryz.zeroValue9
  t46 := Tryz.underlying78
  a46 := Tryz.isAgg78
  z46 := Tryz.sizeOf78
  v46 := Tryz.zeroValue78
  t51 := Tryz.underlying96
  a51 := Tryz.isAgg96
  z51 := Tryz.sizeOf96
  v51 := Tryz.zeroValue96
  t59 := Tryz.underlying44
  a59 := Tryz.isAgg44
  z59 := Tryz.sizeOf44
  v59 := Tryz.zeroValue44
  t146 := Tryz.underlying97
  a146 := Tryz.isAgg97
  z146 := Tryz.sizeOf97
  v146 := Tryz.zeroValue97
  g1 := by kernel_rfl
theorem tk146 : Lays.n146 Tryz.prog tkRen where
  mixed := by kernel_rfl
  f138 := Tryz.func45.trans (congrArg some (by kernel_rfl))
  f143 := Tryz.func60.trans (congrArg some (by kernel_rfl))
  f146 := Tryz.func21.trans (congrArg some (by kernel_rfl))
  f195 := Tryz.func61.trans (congrArg some (by kernel_rfl))
  f197 := Tryz.func79.trans (congrArg some (by kernel_rfl))
  f217 := Tryz.func70.trans (congrArg some (by kernel_rfl))
  f218 := Tryz.func62.trans (congrArg some (by kernel_rfl))
  f219 := Tryz.func56.trans (congrArg some (by kernel_rfl))
  f221 := Tryz.func43.trans (congrArg some (by kernel_rfl))
  f224 := Tryz.func72.trans (congrArg some (by kernel_rfl))
  f225 := Tryz.func71.trans (congrArg some (by kernel_rfl))
  f260 := Tryz.func92.trans (congrArg some (by kernel_rfl))
  f266 := Tryz.func87.trans (congrArg some (by kernel_rfl))
  f267 := Tryz.func73.trans (congrArg some (by kernel_rfl))
  f268 := Tryz.func59.trans (congrArg some (by kernel_rfl))
  f314 := Tryz.func88.trans (congrArg some (by kernel_rfl))
  t0 := Tryz.underlying0
  a0 := Tryz.isAgg0
  z0 := Tryz.sizeOf0
  v0 := Tryz.zeroValue0
  t3 := Tryz.underlying3
  a3 := Tryz.isAgg3
  z3 := Tryz.sizeOf3
  v3 := Tryz.zeroValue3
  t4 := Tryz.underlying4
  a4 := Tryz.isAgg4
  z4 := Tryz.sizeOf4
  v4 := Tryz.zeroValue4
  t5 := Tryz.underlying5
  a5 := Tryz.isAgg5
  z5 := Tryz.sizeOf5
  v5 := Tryz.zeroValue5
  t9 := Tryz.underlying9
  a9 := Tryz.isAgg9
  z9 := Tryz.sizeOf9
  v9 := Tryz.zeroValue9
  t21 := Tryz.underlying21
  a21 := Tryz.isAgg21
  z21 := Tryz.sizeOf21
  v21 := Tryz.zeroValue21
  t31 := Tryz.underlying24
  a31 := Tryz.isAgg24
  z31 := Tryz.sizeOf24
  v31 := Tryz.zeroValue24
  t46 := Tryz.underlying78
  a46 := Tryz.isAgg78
  z46 := Tryz.sizeOf78
  v46 := Tryz.zeroValue78
  t51 := Tryz.underlying96
  a51 := Tryz.isAgg96
  z51 := Tryz.sizeOf96
  v51 := Tryz.zeroValue96
  t105 := Tryz.underlying94
  a105 := Tryz.isAgg94
  z105 := Tryz.sizeOf94
  v105 := Tryz.zeroValue94
  t119 := Tryz.underlying121
  a119 := Tryz.isAgg121
  z119 := Tryz.sizeOf121
  t138 := Tryz.underlying123
  a138 := Tryz.isAgg123
  z138 := Tryz.sizeOf123
  v138 := Tryz.zeroValue123
  t139 := Tryz.underlying124
  a139 := Tryz.isAgg124
  z139 := Tryz.sizeOf124
  v139 := Tryz.zeroValue124
  t146 := Tryz.underlying97
  a146 := Tryz.isAgg97
  z146 := Tryz.sizeOf97
  v146 := Tryz.zeroValue97
  g1 := by kernel_rfl
  g3 := by kernel_rfl
  g4 := by kernel_rfl
theorem tk171 : LaysM.n171 Tryz.prog tkRen where
  mixed := by kernel_rfl
  f129 := Tryz.func94.trans (congrArg some (by kernel_rfl))
  f171 := Tryz.func37.trans (congrArg some (by kernel_rfl))
  f243 := Tryz.func53.trans (congrArg some (by kernel_rfl))
  f246 := Tryz.func67.trans (congrArg some (by kernel_rfl))
  f283 := Tryz.func83.trans (congrArg some (by kernel_rfl))
  f284 := Tryz.func84.trans (congrArg some (by kernel_rfl))
  f285 := Tryz.func85.trans (congrArg some (by kernel_rfl))
  f286 := Tryz.func86.trans (congrArg some (by kernel_rfl))
  f317 := Tryz.func93.trans (congrArg some (by kernel_rfl))
  f318 := Tryz.func95.trans (congrArg some (by kernel_rfl))
  f319 := Tryz.func96.trans (congrArg some (by kernel_rfl))
  f320 := Tryz.func97.trans (congrArg some (by kernel_rfl))
  f337 := Tryz.func100.trans (congrArg some (by kernel_rfl))
  f338 := Tryz.func101.trans (congrArg some (by kernel_rfl))
  t0 := Tryz.underlying0
  a0 := Tryz.isAgg0
  z0 := Tryz.sizeOf0
  v0 := Tryz.zeroValue0
  t2 := Tryz.underlying2
  a2 := Tryz.isAgg2
  z2 := Tryz.sizeOf2
  v2 := Tryz.zeroValue2
  t3 := Tryz.underlying3
  a3 := Tryz.isAgg3
  z3 := Tryz.sizeOf3
  v3 := Tryz.zeroValue3
  t4 := Tryz.underlying4
  a4 := Tryz.isAgg4
  z4 := Tryz.sizeOf4
  v4 := Tryz.zeroValue4
  t5 := Tryz.underlying5
  a5 := Tryz.isAgg5
  z5 := Tryz.sizeOf5
  v5 := Tryz.zeroValue5
  t9 := Tryz.underlying9
  a9 := Tryz.isAgg9
  z9 := Tryz.sizeOf9
  v9 := Tryz.zeroValue9
  t20 := Tryz.underlying20
  a20 := Tryz.isAgg20
  z20 := Tryz.sizeOf20
  v20 := Tryz.zeroValue20
  t37 := Tryz.underlying22
  a37 := Tryz.isAgg22
  z37 := Tryz.sizeOf22
  v37 := Tryz.zeroValue22
  t46 := Tryz.underlying78
  a46 := Tryz.isAgg78
  z46 := Tryz.sizeOf78
  v46 := Tryz.zeroValue78
  t51 := Tryz.underlying96
  a51 := Tryz.isAgg96
  z51 := Tryz.sizeOf96
  v51 := Tryz.zeroValue96
  t53 := Tryz.underlying99
  a53 := Tryz.isAgg99
  z53 := Tryz.sizeOf99
  v53 := Tryz.zeroValue99
  t171 := Tryz.underlying102
  a171 := Tryz.isAgg102
  z171 := Tryz.sizeOf102
  v171 := Tryz.zeroValue102
  t173 := Tryz.underlying105
  a173 := Tryz.isAgg105
  z173 := Tryz.sizeOf105
  v173 := Tryz.zeroValue105
  t212 := Tryz.underlying114
  a212 := Tryz.isAgg114
  z212 := Tryz.sizeOf114
  v212 := Tryz.zeroValue114
  t213 := Tryz.underlying115
  a213 := Tryz.isAgg115
  z213 := Tryz.sizeOf115
  t232 := Tryz.underlying126
  a232 := Tryz.isAgg126
  z232 := Tryz.sizeOf126
  v232 := Tryz.zeroValue126
  t233 := Tryz.underlying127
  a233 := Tryz.isAgg127
  z233 := Tryz.sizeOf127
  v233 := Tryz.zeroValue127
  g17 := by kernel_rfl
  g18 := by kernel_rfl
  g19 := by kernel_rfl
  i0 := by kernel_rfl
  i2 := by kernel_rfl
  i3 := by kernel_rfl
  i4 := by kernel_rfl
  i5 := by kernel_rfl
  i9 := by kernel_rfl
  i20 := by kernel_rfl
  i37 := by kernel_rfl
  i46 := by kernel_rfl
  i51 := by kernel_rfl
  i53 := by kernel_rfl
  i171 := by kernel_rfl
  i173 := by kernel_rfl
  i212 := by kernel_rfl
  i232 := by kernel_rfl
  i233 := by kernel_rfl
  m17 := by kernel_rfl
  m18 := by kernel_rfl
  m19 := by kernel_rfl
theorem tk172 : LaysC.n172 Tryz.prog tkRen where
  mixed := by kernel_rfl
  f129 := Tryz.func94.trans (congrArg some (by kernel_rfl))
  f171 := Tryz.func37.trans (congrArg some (by kernel_rfl))
  f172 := Tryz.func42.trans (congrArg some (by kernel_rfl))
  f205 := Tryz.func91.trans (congrArg some (by kernel_rfl))
  f243 := Tryz.func53.trans (congrArg some (by kernel_rfl))
  f244 := Tryz.func57.trans (congrArg some (by kernel_rfl))
  f245 := Tryz.func58.trans (congrArg some (by kernel_rfl))
  f246 := Tryz.func67.trans (congrArg some (by kernel_rfl))
  f247 := Tryz.func74.trans (congrArg some (by kernel_rfl))
  f279 := Tryz.func75.trans (congrArg some (by kernel_rfl))
  f280 := Tryz.func76.trans (congrArg some (by kernel_rfl))
  f281 := Tryz.func77.trans (congrArg some (by kernel_rfl))
  f282 := Tryz.func78.trans (congrArg some (by kernel_rfl))
  f283 := Tryz.func83.trans (congrArg some (by kernel_rfl))
  f284 := Tryz.func84.trans (congrArg some (by kernel_rfl))
  f285 := Tryz.func85.trans (congrArg some (by kernel_rfl))
  f286 := Tryz.func86.trans (congrArg some (by kernel_rfl))
  f287 := Tryz.func89.trans (congrArg some (by kernel_rfl))
  f316 := Tryz.func90.trans (congrArg some (by kernel_rfl))
  f317 := Tryz.func93.trans (congrArg some (by kernel_rfl))
  f318 := Tryz.func95.trans (congrArg some (by kernel_rfl))
  f319 := Tryz.func96.trans (congrArg some (by kernel_rfl))
  f320 := Tryz.func97.trans (congrArg some (by kernel_rfl))
  f321 := Tryz.func98.trans (congrArg some (by kernel_rfl))
  f322 := Tryz.func99.trans (congrArg some (by kernel_rfl))
  f337 := Tryz.func100.trans (congrArg some (by kernel_rfl))
  f338 := Tryz.func101.trans (congrArg some (by kernel_rfl))
  t0 := Tryz.underlying0
  a0 := Tryz.isAgg0
  z0 := Tryz.sizeOf0
  v0 := Tryz.zeroValue0
  t2 := Tryz.underlying2
  a2 := Tryz.isAgg2
  z2 := Tryz.sizeOf2
  v2 := Tryz.zeroValue2
  t3 := Tryz.underlying3
  a3 := Tryz.isAgg3
  z3 := Tryz.sizeOf3
  v3 := Tryz.zeroValue3
  t4 := Tryz.underlying4
  a4 := Tryz.isAgg4
  z4 := Tryz.sizeOf4
  v4 := Tryz.zeroValue4
  t5 := Tryz.underlying5
  a5 := Tryz.isAgg5
  z5 := Tryz.sizeOf5
  v5 := Tryz.zeroValue5
  t9 := Tryz.underlying9
  a9 := Tryz.isAgg9
  z9 := Tryz.sizeOf9
  v9 := Tryz.zeroValue9
  t20 := Tryz.underlying20
  a20 := Tryz.isAgg20
  z20 := Tryz.sizeOf20
  v20 := Tryz.zeroValue20
  t21 := Tryz.underlying21
  a21 := Tryz.isAgg21
  z21 := Tryz.sizeOf21
  v21 := Tryz.zeroValue21
  t37 := Tryz.underlying22
  a37 := Tryz.isAgg22
  z37 := Tryz.sizeOf22
  v37 := Tryz.zeroValue22
  t46 := Tryz.underlying78
  a46 := Tryz.isAgg78
  z46 := Tryz.sizeOf78
  v46 := Tryz.zeroValue78
  t51 := Tryz.underlying96
  a51 := Tryz.isAgg96
  z51 := Tryz.sizeOf96
  v51 := Tryz.zeroValue96
  t53 := Tryz.underlying99
  a53 := Tryz.isAgg99
  z53 := Tryz.sizeOf99
  v53 := Tryz.zeroValue99
  t75 := Tryz.underlying65
  a75 := Tryz.isAgg65
  z75 := Tryz.sizeOf65
  v75 := Tryz.zeroValue65
  t76 := Tryz.underlying66
  a76 := Tryz.isAgg66
  z76 := Tryz.sizeOf66
  v76 := Tryz.zeroValue66
  t85 := Tryz.underlying89
  a85 := Tryz.isAgg89
  z85 := Tryz.sizeOf89
  v85 := Tryz.zeroValue89
  t127 := Tryz.underlying74
  a127 := Tryz.isAgg74
  z127 := Tryz.sizeOf74
  v127 := Tryz.zeroValue74
  t143 := Tryz.underlying118
  a143 := Tryz.isAgg118
  z143 := Tryz.sizeOf118
  v143 := Tryz.zeroValue118
  t145 := Tryz.underlying120
  a145 := Tryz.isAgg120
  z145 := Tryz.sizeOf120
  v145 := Tryz.zeroValue120
  t167 := Tryz.underlying88
  a167 := Tryz.isAgg88
  z167 := Tryz.sizeOf88
  v167 := Tryz.zeroValue88
  t168 := Tryz.underlying91
  a168 := Tryz.isAgg91
  z168 := Tryz.sizeOf91
  v168 := Tryz.zeroValue91
  t171 := Tryz.underlying102
  a171 := Tryz.isAgg102
  z171 := Tryz.sizeOf102
  v171 := Tryz.zeroValue102
  t173 := Tryz.underlying105
  a173 := Tryz.isAgg105
  z173 := Tryz.sizeOf105
  v173 := Tryz.zeroValue105
  t175 := Tryz.underlying108
  a175 := Tryz.isAgg108
  z175 := Tryz.sizeOf108
  v175 := Tryz.zeroValue108
  t210 := Tryz.underlying111
  a210 := Tryz.isAgg111
  z210 := Tryz.sizeOf111
  v210 := Tryz.zeroValue111
  t212 := Tryz.underlying114
  a212 := Tryz.isAgg114
  z212 := Tryz.sizeOf114
  v212 := Tryz.zeroValue114
  t213 := Tryz.underlying115
  a213 := Tryz.isAgg115
  z213 := Tryz.sizeOf115
  t232 := Tryz.underlying126
  a232 := Tryz.isAgg126
  z232 := Tryz.sizeOf126
  v232 := Tryz.zeroValue126
  t233 := Tryz.underlying127
  a233 := Tryz.isAgg127
  z233 := Tryz.sizeOf127
  v233 := Tryz.zeroValue127
  g15 := by kernel_rfl
  g16 := by kernel_rfl
  g17 := by kernel_rfl
  g18 := by kernel_rfl
  g19 := by kernel_rfl
  t80 := Tryz.underlying68
  a80 := Tryz.isAgg68
  z80 := Tryz.sizeOf68
  v80 := Tryz.zeroValue68
  i0 := by kernel_rfl
  i2 := by kernel_rfl
  i3 := by kernel_rfl
  i4 := by kernel_rfl
  i5 := by kernel_rfl
  i9 := by kernel_rfl
  i20 := by kernel_rfl
  i21 := by kernel_rfl
  i37 := by kernel_rfl
  i46 := by kernel_rfl
  i51 := by kernel_rfl
  i53 := by kernel_rfl
  i75 := by kernel_rfl
  i76 := by kernel_rfl
  i80 := by kernel_rfl
  i85 := by kernel_rfl
  i127 := by kernel_rfl
  i143 := by kernel_rfl
  i145 := by kernel_rfl
  i167 := by kernel_rfl
  i168 := by kernel_rfl
  i171 := by kernel_rfl
  i173 := by kernel_rfl
  i175 := by kernel_rfl
  i210 := by kernel_rfl
  i212 := by kernel_rfl
  i232 := by kernel_rfl
  i233 := by kernel_rfl
  m15 := by kernel_rfl
  m16 := by kernel_rfl
  m17 := by kernel_rfl
  m18 := by kernel_rfl
  m19 := by kernel_rfl
  c0 := by kernel_rfl
  c2 := by kernel_rfl
  c3 := by kernel_rfl
  c4 := by kernel_rfl
  c5 := by kernel_rfl
  c9 := by kernel_rfl
  c20 := by kernel_rfl
  c21 := by kernel_rfl
  c37 := by kernel_rfl
  c46 := by kernel_rfl
  c51 := by kernel_rfl
  c53 := by kernel_rfl
  c75 := by kernel_rfl
  c76 := by kernel_rfl
  c80 := by kernel_rfl
  c85 := by kernel_rfl
  c127 := by kernel_rfl
  c143 := by kernel_rfl
  c145 := by kernel_rfl
  c167 := by kernel_rfl
  c168 := by kernel_rfl
  c171 := by kernel_rfl
  c173 := by kernel_rfl
  c175 := by kernel_rfl
  c210 := by kernel_rfl
  c212 := by kernel_rfl
  c213 := by kernel_rfl
  c232 := by kernel_rfl
  c233 := by kernel_rfl

theorem drewN_below (w : World) (n : Nat) : Below w.heap.size w (w.drewN n) := ⟨rfl, rfl, rfl, Nat.le_refl _, fun _ _ => rfl⟩
theorem cut_ok (s sep : ByteArray) (hs : s.size ≤ 1048576) (h : Heap) : AC Tryz.prog 19 [VS s, VS sep] h fun r h' => r = .tup [VS (cutH s sep), VS (cutR s sep), VB (cutO s sep)] ∧ h' = h :=
  (AC_plainG (vs := [.string s, .string sep]) (Q := fun us => us = [.string (cutH s sep), .string (cutR s sep), .bool (cutO s sep)]) (entered_of Tryz.func19 (by decide) (by kernel_rfl)) fun w0 w hG hb => by
    obtain ⟨⟨m, hm⟩, _⟩ := hG.keep hb
    exact (Any.strings_Cut tk145 s sep m w (by omega) hm).mono fun e w' ⟨he, n, hw⟩ => ⟨_, rfl, he, by rw [hw]; exact drewN_below w n⟩).mono fun c h' ⟨us, hu, hc, hh⟩ => by subst hu; exact ⟨hc, hh⟩
theorem split_ok (s : ByteArray) (hs : s.size ≤ 1048576) (h : Heap) : AC Tryz.prog 21 [VS s, VS ⟨#[32]⟩] h fun r h' => r = .own h.length 1 (splP s).length ∧ h' = h ++ [rowT (splP s)] := by
  have e : ((splP s).map Value.string).map AV.raw = rowS (splP s) := by simp [rowS]
  have hle := Lib.countB_le blank (by decide) s.size s (Nat.le_refl _)
  have := AC_rowG (h := h) (vs := [.string s, .string ⟨#[32]⟩]) (e := 9) (es := 1) (n := (splP s).length) (cells := (splP s).map Value.string) (entered_of Tryz.func21 (by decide) (by kernel_rfl)) (fun u hu => by
      obtain ⟨x, _, rfl⟩ := List.mem_map.1 hu; rfl) fun w0 w hG hb => by
    obtain ⟨⟨m, hm⟩, _⟩ := hG.keep hb
    refine (Any.strings_Split tk146 (by kernel_rfl) s ⟨#[32]⟩ m w (by omega) hm (by decide)).mono fun e w' ⟨he, hw⟩ => ⟨_, he, ?_, by rw [hw]; exact (Below.refl _ _).alloc (Nat.le_refl _) _⟩
    have hl : Lib.countB s ⟨#[32]⟩ + 1 = (splP s).length := (splP_len s).symm
    rw [hl, hw]
    refine ⟨by simp, .inr ⟨w.heap.size, (splP s).length, ((splP s).map Value.string).toArray, rfl, Nat.le_refl _, Go.heap_alloc_new w _, Nat.le_refl _, ?_, by simp, ?_⟩⟩
    · have : Lib.countB s blank ≤ s.size := hle
      rw [splP_len]; unfold maxLen; omega
    · show _ = (splP s).map Value.string
      rw [List.toList_toArray, List.take_of_length_le (by simp)]
  rw [e] at this
  exact this

theorem grow_below (w : World) (k : Nat) (os : Array Obj) : Below w.heap.size w (grow (w.drewN k) os) :=
  ⟨rfl, rfl, rfl, by show w.heap.size ≤ (w.heap ++ os).size; simp, fun i hi => by show (w.heap ++ os)[i]? = w.heap[i]?; exact Array.getElem?_append_left hi⟩
theorem itoa_any (n : Int) (h0 : 0 ≤ n) (h1 : n ≤ 1000000000) (w : World) (hG : Glob w) : Calls Tryz.prog 37 #[.int .i64 n] w fun e w' => e = .returned (.string ⟨(Lib.itoa n).toArray⟩) ∧ Below w.heap.size w w' := by
  obtain ⟨_, _, _, t, f, hh⟩ := hG
  have htab : Lib.TabIs Tryz.prog w ((Tryz.prog.globals.getD 3 default).name) .u64 Lib.pow10Tab := by
    unfold Lib.TabIs World.var?
    rw [show Tryz.prog.globalNamed ((Tryz.prog.globals.getD 3 default).name) = some 3 by kernel_rfl]
    simp only [Option.bind_some, hh]
  exact (Any.strconv_Itoa tk171 n (by omega) (by omega) w htab).mono fun e w' ⟨he, k, os, hw⟩ => ⟨he, by rw [hw]; exact grow_below w k os⟩
theorem atoi_yes (s : ByteArray) (hs : s.size ≤ 1048576) (v : Int) (ha : Lib.atoiAll s.data.toList = .ok v) (w : World) : Calls Tryz.prog 42 #[.string s] w fun e w' => e = .returned (.tuple #[.int .i64 v, .nilIface]) ∧ Below w.heap.size w w' :=
  (Any.strconv_Atoi_ok tk172 s (by omega) v ha w).mono fun e w' ⟨he, hw⟩ => ⟨he, by
    rcases hw with rfl | ⟨t, rfl⟩
    · exact Below.refl _ _
    · exact Lib.bytesWorld_below _ _ _⟩
theorem atoi_no (s : ByteArray) (hs : s.size ≤ 1048576) (ha : ∀ v, Lib.atoiAll s.data.toList ≠ .ok v) (w : World) (hG : Glob w) : Calls Tryz.prog 42 #[.string s] w fun e w' => ∃ x t p, e = .returned (.tuple #[.int .i64 x, .iface t (.pointer p)]) ∧ Below w.heap.size w w' := by
  obtain ⟨_, ⟨t1, p1, h1⟩, ⟨t2, p2, h2⟩, _⟩ := hG
  cases hx : Lib.atoiAll s.data.toList with
  | ok v => exact absurd hx (ha v)
  | range => exact (Any.strconv_Atoi_range tk172 s (by omega) hx _ w h2 (.inr ⟨_, _, rfl⟩)).mono fun e w' ⟨N, he, _, _, hb⟩ => ⟨_, _, _, he, hb⟩
  | _ => exact (Any.strconv_Atoi_syntax tk172 s (by omega) hx _ w h1 (.inr ⟨_, _, rfl⟩)).mono fun e w' ⟨N, he, _, _, hb⟩ => ⟨_, _, _, he, hb⟩

theorem uOk_yes {s : ByteArray} {v : Int} (ha : Lib.atoiAll s.data.toList = .ok v) : uOk s = ((decide (0 ≤ v) && decide (v ≤ 1000000000)) && decide ((⟨(Lib.itoa v).toArray⟩ : ByteArray) = s)) ∧ uV s = v := by
  unfold uOk uV
  rw [show Lib.atoiAll (bsL s) = .ok v from ha]
  exact ⟨rfl, rfl⟩
theorem uOk_no {s : ByteArray} (ha : ∀ v, Lib.atoiAll s.data.toList ≠ .ok v) : uOk s = false := by
  unfold uOk
  split
  · rename_i v hv; exact absurd hv (ha v)
  · rfl
theorem uR_no {s : ByteArray} (h : uOk s = false) : uR s = 0 := if_neg (by rw [h]; decide)
theorem uR_yes {s : ByteArray} (h : uOk s = true) : uR s = uV s := if_pos h

set_option maxRecDepth 100000 in
set_option maxHeartbeats 2000000 in
theorem parse_any (s : ByteArray) (hs : s.size ≤ 1048576) (w : World) (hG : Glob w) : Calls Tryz.prog 20 #[.string s] w fun e w' => e = .returned (.tuple #[.int .i64 (uR s), .bool (uOk s)]) ∧ Below w.heap.size w w' := by
  have eA := entered_of (P := Tryz.prog) Tryz.func42 (by decide) (by kernel_rfl)
  have eI := entered_of (P := Tryz.prog) Tryz.func37 (by decide) (by kernel_rfl)
  unfold Entered at eA eI
  have tE := Tryz.underlying65
  by_cases hx : ∀ v, Lib.atoiAll s.data.toList ≠ .ok v
  · have hu := uOk_no hx
    rw [hu, uR_no hu]
    go_enter Tryz.func20, Tryz.ntmps20
    go_wp2_with (first
      | (go_at_call 42; refine (atoi_no s hs hx _ hG).mono ?_; rintro e W1 ⟨x, t, p, rfl, hb1⟩)
      | go_in)
    go_ret2
    exact ⟨rfl, hb1⟩
  · obtain ⟨v, hv⟩ : ∃ v, Lib.atoiAll s.data.toList = .ok v := Classical.byContradiction fun h => hx fun v hv => h ⟨v, hv⟩
    clear hx
    obtain ⟨hu, hV⟩ := uOk_yes hv
    by_cases h0 : 0 ≤ v
    · by_cases h1 : v ≤ 1000000000
      · have hI := fun w hG => itoa_any v h0 h1 w hG
        generalize (⟨(Lib.itoa v).toArray⟩ : ByteArray) = T at hu hI
        by_cases he : T = s
        · have huT : uOk s = true := by rw [hu, decide_eq_true h0, decide_eq_true h1, decide_eq_true he]; rfl
          rw [huT, uR_yes huT, hV]
          have hle : (T.toList == s.toList) = true := by rw [he]; exact beq_self_eq_true _
          clear hu he hV huT
          go_enter Tryz.func20, Tryz.ntmps20
          go_wp2_with (first
            | (go_at_call 42; refine (atoi_yes s hs v hv _).mono ?_; rintro e W1 ⟨rfl, hb1⟩; have hG1 := hG.keep hb1)
            | (go_at_call 37; refine (hI _ (by assumption)).mono ?_; rintro e W2 ⟨rfl, hb2⟩)
            | go_in)
          go_ret2
          exact ⟨rfl, hb1.trans (hb2.mono hb1.size)⟩
        · have huF : uOk s = false := by rw [hu, decide_eq_false he, Bool.and_false]
          rw [huF, uR_no huF]
          have hle : (T.toList == s.toList) = false := bEq_ne he
          clear hu he hV huF
          go_enter Tryz.func20, Tryz.ntmps20
          go_wp2_with (first
            | (go_at_call 42; refine (atoi_yes s hs v hv _).mono ?_; rintro e W1 ⟨rfl, hb1⟩; have hG1 := hG.keep hb1)
            | (go_at_call 37; refine (hI _ (by assumption)).mono ?_; rintro e W2 ⟨rfl, hb2⟩)
            | go_in)
          go_ret2
          exact ⟨rfl, hb1.trans (hb2.mono hb1.size)⟩
      · have huF : uOk s = false := by rw [hu, decide_eq_false h1]; simp
        rw [huF, uR_no huF]
        clear hu hV huF
        go_enter Tryz.func20, Tryz.ntmps20
        go_wp2_with (first
          | (go_at_call 42; refine (atoi_yes s hs v hv _).mono ?_; rintro e W1 ⟨rfl, hb1⟩)
          | go_in)
        go_ret2
        exact ⟨rfl, hb1⟩
    · have huF : uOk s = false := by rw [hu, decide_eq_false h0]; simp
      rw [huF, uR_no huF]
      clear hu hV huF
      go_enter Tryz.func20, Tryz.ntmps20
      go_wp2_with (first
        | (go_at_call 42; refine (atoi_yes s hs v hv _).mono ?_; rintro e W1 ⟨rfl, hb1⟩)
        | go_in)
      go_ret2
      exact ⟨rfl, hb1⟩
theorem parse_ok (s : ByteArray) (hs : s.size ≤ 1048576) (h : Heap) : AC Tryz.prog 20 [VS s] h fun r h' => r = .tup [VI (uR s), VB (uOk s)] ∧ h' = h :=
  (AC_plainG (vs := [.string s]) (Q := fun us => us = [.int .i64 (uR s), .bool (uOk s)]) (entered_of Tryz.func20 (by decide) (by kernel_rfl)) fun w0 w hG hb =>
    (parse_any s hs w (hG.keep hb)).mono fun e w' ⟨he, hb⟩ => ⟨_, rfl, he, hb⟩).mono fun c h' ⟨us, hu, hc, hh⟩ => by subst hu; exact ⟨hc, hh⟩
end

section
open Go Go.Ab Go.Shelf Go.RowKit

def jnRen : Go.Shelf.Ren := ⟨fun | 156 => 18 | 165 => 38 | 166 => 39 | 169 => 40 | 240 => 54 | 241 => 55 | 276 => 68 | 277 => 69 | n => n, fun | 0 => 0 | 3 => 3 | 4 => 4 | 5 => 5 | 9 => 9 | 20 => 20 | 31 => 24 | 37 => 22 | 70 => 60 | 72 => 62 | 75 => 65 | 76 => 66 | 80 => 68 | 127 => 74 | 164 => 84 | n => n, fun  | n => n⟩
theorem jn156 : Lays.n156 Tryz.prog jnRen where
  mixed := by kernel_rfl
  f156 := Tryz.func18.trans (congrArg some (by kernel_rfl))
  f165 := Tryz.func38.trans (congrArg some (by kernel_rfl))
  f166 := Tryz.func39.trans (congrArg some (by kernel_rfl))
  f169 := Tryz.func40.trans (congrArg some (by kernel_rfl))
  f240 := Tryz.func54.trans (congrArg some (by kernel_rfl))
  f241 := Tryz.func55.trans (congrArg some (by kernel_rfl))
  f276 := Tryz.func68.trans (congrArg some (by kernel_rfl))
  f277 := Tryz.func69.trans (congrArg some (by kernel_rfl))
  t0 := Tryz.underlying0
  a0 := Tryz.isAgg0
  z0 := Tryz.sizeOf0
  v0 := Tryz.zeroValue0
  t3 := Tryz.underlying3
  a3 := Tryz.isAgg3
  z3 := Tryz.sizeOf3
  v3 := Tryz.zeroValue3
  t4 := Tryz.underlying4
  a4 := Tryz.isAgg4
  z4 := Tryz.sizeOf4
  v4 := Tryz.zeroValue4
  t9 := Tryz.underlying9
  a9 := Tryz.isAgg9
  z9 := Tryz.sizeOf9
  v9 := Tryz.zeroValue9
  t20 := Tryz.underlying20
  a20 := Tryz.isAgg20
  z20 := Tryz.sizeOf20
  v20 := Tryz.zeroValue20
  t31 := Tryz.underlying24
  a31 := Tryz.isAgg24
  z31 := Tryz.sizeOf24
  v31 := Tryz.zeroValue24
  t37 := Tryz.underlying22
  a37 := Tryz.isAgg22
  z37 := Tryz.sizeOf22
  v37 := Tryz.zeroValue22
  t70 := Tryz.underlying60
  a70 := Tryz.isAgg60
  z70 := Tryz.sizeOf60
  v70 := Tryz.zeroValue60
  t72 := Tryz.underlying62
  a72 := Tryz.isAgg62
  z72 := Tryz.sizeOf62
  v72 := Tryz.zeroValue62
  t75 := Tryz.underlying65
  a75 := Tryz.isAgg65
  z75 := Tryz.sizeOf65
  v75 := Tryz.zeroValue65
  t76 := Tryz.underlying66
  a76 := Tryz.isAgg66
  z76 := Tryz.sizeOf66
  v76 := Tryz.zeroValue66
  t127 := Tryz.underlying74
  a127 := Tryz.isAgg74
  z127 := Tryz.sizeOf74
  v127 := Tryz.zeroValue74
  t164 := Tryz.underlying84
  a164 := Tryz.isAgg84
  z164 := Tryz.sizeOf84
  v164 := Tryz.zeroValue84
theorem jnX : Builder.Extra Tryz.prog jnRen where
  sizeBuilder := by kernel_rfl
  liesBuilder := by kernel_rfl
  t5 := Tryz.underlying5
  a5 := Tryz.isAgg5
  z5 := Tryz.sizeOf5
  v5 := Tryz.zeroValue5
  infoByte := by kernel_rfl
  cellsByte := by kernel_rfl
  sizeByte := by kernel_rfl
  neB5 := by decide

theorem join_ok (xs : List ByteArray) (id : Nat) (h1 : 1 ≤ xs.length) (hn : xs.length ≤ 1048576) (hz : (Lib.join (xs.map bsL) [32]).length ≤ 140737488355328) (h : Heap) (hw : wr h id xs.length = some (9, 1, rowS xs)) :
    AC Tryz.prog 18 [.own id 1 xs.length, VS ⟨#[32]⟩] h fun r h' => r = VS (joinB xs) ∧ h' = h := by
  intro w0 μ w args H hv hk
  obtain ⟨hl, hb, hsz⟩ := wr_spec hw
  obtain ⟨x, y, rfl⟩ : ∃ x y, args = #[x, y] := by
    have hl := hv.1
    simp at hl
    obtain ⟨l⟩ := args
    match l, hl with
    | [x, y], _ => exact ⟨x, y, rfl⟩
  have hx := hv.2 0 _ x rfl rfl
  have hy := raw_val (hv.2 1 _ y rfl rfl)
  subst hy
  have hxe := hx.own_get (by rw [Nat.mul_one]; exact hsz)
  obtain ⟨g, n, cap, cur, hmu, hg, hh, hnc, hcm, hcs, hcl, hcr⟩ := H.row_at hb (by rw [rowS_len]; omega)
  rw [hmu] at hxe
  subst hxe
  rw [rowS_len, Nat.mul_one] at hcl
  subst hcl
  have hgl : g < w.heap.size := by
    rcases Nat.lt_or_ge g w.heap.size with h' | h'
    · exact h'
    · rw [Array.getElem?_eq_none h'] at hh; cases hh
  unfold CallOK
  rw [entered_of Tryz.func18 (by decide) (by kernel_rfl)]
  refine ⟨rfl, (Any.strings_Join jn156 jnX g 0 cap xs ⟨#[32]⟩ w (fun j x hj => ?_) hgl (by omega) hnc hz).mono fun e w' ⟨he, hbel⟩ => ⟨_, he, μ, VS (joinB xs), h, ⟨rfl, rfl⟩, .raw _, rfl, H.world hbel, Ext.refl _ _, Heap.le_refl _⟩⟩
  have hjl := some_lt hj
  have hc1 : (rowS xs)[j]? = some (VS x) := by rw [rowS_at, hj]; rfl
  have hjc : j < cur.size := by omega
  have hc2 : (cur.toList.take (xs.length * 1))[j]? = some cur[j] := by
    rw [Nat.mul_one, List.getElem?_take_of_lt hjl, Array.getElem?_toList, Array.getElem?_eq_getElem hjc]
  have := raw_val (hcr.2 j _ _ hc1 hc2).1
  simp [World.cell?, hh, Array.getElem?_eq_getElem hjc, this]
end

section
open Go Go.Ab

theorem tailG_size {s : ByteArray} {xs : List ByteArray} (h : ∀ x ∈ xs, x.size ≤ 16) : ∀ {k : Nat}, k ≤ xs.length → (tailG s xs k).size ≤ s.size + 17 * k
  | 0, _ => Nat.le_refl _
  | k + 1, hk => by
    obtain ⟨x, hx⟩ := some_at (show k < xs.length by omega)
    have hb := h x (List.mem_of_getElem? hx)
    have ih := tailG_size (s := s) h (k := k) (by omega)
    rw [tailG_succ hx, ByteArray.size_append, ByteArray.size_append]
    have : (⟨#[32]⟩ : ByteArray).size = 1 := rfl
    omega
theorem card_small {d f : Int} {xs : List ByteArray} (h : Card d f xs) : ∀ x ∈ xs, x.size ≤ 16 := fun x hx => (h.str x hx).1.size.2
theorem cardT_yes {d f : Nat} {xs : List ByteArray} (h : cardB d f xs = true) : cardT d f xs = tailG (headB d f) xs xs.length := by
  rw [cardT, if_pos h]; rfl
theorem cardT_no {d f : Int} {xs : List ByteArray} (h : cardB d f xs = false) : cardT d f xs = ⟨#[]⟩ := if_neg (by rw [h]; decide)
theorem nats {d f : Int} {xs : List ByteArray} (h : Card d f xs) : ∃ n m : Nat, d = n ∧ f = m ∧ n < 9 ∧ m < 9 := ⟨d.toNat, f.toNat, by have := h.d1; omega, by have := h.f1; omega, by have := h.d1; omega, by have := h.f1; omega⟩

theorem join_len {xs : List ByteArray} (h : ∀ x ∈ xs, x.size ≤ 16) (hl : xs.length ≤ 10) : (Lib.join (xs.map bsL) [32]).length ≤ 200 := by
  cases xs with
  | nil => exact Nat.zero_le _
  | cons x r =>
    have hx := h x (.head _)
    have hb := jt_bnd (m := 16) (r := r.map bsL) fun z hz => by
      obtain ⟨y, hy, rfl⟩ := List.mem_map.1 hz
      rw [bsL_len]; exact h y (.tail _ hy)
    rw [List.length_map] at hb
    rw [List.length_cons] at hl
    rw [List.map_cons, join_jt, List.length_append, bsL_len]
    omega
theorem implCardT_ok (d f : Int) (xs : List ByteArray) (id : Nat) (hn : xs.length ≤ 1048576) (hz : ∀ x ∈ xs, x.size ≤ 1048576) (h : Heap) (hw : wr h id xs.length = some (9, 1, rowS xs)) (hr : rd h id xs.length = some (rowS xs)) :
    AC Tryz.prog 6 [cdV d f id xs.length] h fun r h' => r = VS (cardT d f xs) ∧ h' = h := by
  refine AC.plain ?_
  refine AC_go mixed ok6 (by simp) fun hc _ => ?_
  unfold L6
  have hrd : ∀ l, rd (h ++ l) id xs.length = some (rowS xs) := fun l => rd_old hr l
  have hsd : ∀ l, sz (h ++ l) id = some xs.length := fun l => sz_old hr l
  have hwd : ∀ l, wr (h ++ l) id xs.length = some (9, 1, rowS xs) := fun l => wr_old hw l
  have cC := fun H hH => implCardOk_ok d f xs id hn hz H hH
  cases e : cardB d f xs with
  | false =>
    rw [e] at cC
    have hB := cardT_no e
    repeat' (first | simp -implicitDefEqProofs only [Ab.R1, Ab.R2, Ab.R3, Ab.R4, Ab.R5, Ab.RH, Ab.RM, Ab.binV, Ab.binC, Nat.reduceLT, Nat.reduceBEq, Nat.reduceAdd, Nat.reduceMul, Nat.reduceEqDiff, Nat.reduceLeDiff, Nat.reduceSub, List.getElem?_cons_zero, List.getElem?_cons_succ, List.getElem?_nil, Option.getD_some, Option.getD_none, if_true, if_false, reduceIte, Option.map_some, Option.map_none, Option.bind_some, Option.bind_none, Option.isSome_some, List.map_cons, List.map_nil, AV.cells, List.length_cons, List.length_nil, List.all_cons, List.all_nil, AV.one, Value.oneCell', ne_eq, reduceCtorEq, Int.reduceNeg, Int.reduceEq, Int.reduceNe, Int.reduceAdd, Int.reduceSub, Int.reduceMul, Int.reduceLT, Int.reduceLE, Int.reduceToNat, List.drop_zero, List.take_zero, List.drop_succ_cons, List.take_succ_cons, List.nil_append, List.cons_append, List.append_nil, List.replicate_zero, List.flatten_nil, List.flatten_cons, List.reduceReplicate, ge_iff_le, gt_iff_lt, eq_self, Nat.add_assoc, facts, *] | simp (disch := omega) only [Ab.wrap_i64] | ((with_reducible refine Ab.gd_ndec (fun _ => ?_) (fun _ => ?_)) <;> try (exfalso; omega)) | ((with_reducible refine Ab.br_ndec (fun _ => ?_) (fun _ => ?_)) <;> try (exfalso; omega)) | ((with_reducible refine Ab.gd_dec (fun _ => ?_) (fun _ => ?_)) <;> try (exfalso; omega)) | ((with_reducible refine Ab.br_dec (fun _ => ?_) (fun _ => ?_)) <;> try (exfalso; omega)) | (with_reducible refine Ab.run_alt ?_ ?_) | (refine And.intro (by omega) ?_) | (refine gd_split (fun _ => ?_) (fun _ => ?_)) | (refine br_split (fun _ => ?_) (fun _ => ?_)) | (refine cl_same (cC _ (hrd _)) ?_) | omega)
    all_goals exact ⟨_, rfl⟩
  | true =>
    have hcc := card_iff.1 e
    have h16 := card_small hcc
    have hl1 := hcc.l1
    obtain ⟨n, m, rfl, rfl, hn9, hm9⟩ := nats hcc
    have hB : cardT n m xs = (((numB n ++ ⟨#[120]⟩) ++ numB m) ++ ⟨#[58, 32]⟩) ++ joinB xs := by rw [cardT_yes e, headB, cardT_tail hl1.1]
    rw [e] at cC
    rw [hB]
    have hjl := join_len h16 hl1.2
    have hj := fun H hH => join_ok xs id hl1.1 hn (by omega) H hH
    have hjz : (joinB xs).size ≤ 200 := by rw [joinB, mkB_size]; exact hjl
    have f1 := fun H => implFmt_ok n (by omega) H
    have f2 := fun H => implFmt_ok m (by omega) H
    have n1 := numB_size (n := n) (by omega)
    have n2 := numB_size (n := m) (by omega)
    generalize numB n = A at *
    generalize numB m = B at *
    generalize joinB xs = J at *
    clear e hcc hB hjl
    have z1 : (⟨#[120]⟩ : ByteArray).size = 1 := rfl
    have z2 : (⟨#[58, 32]⟩ : ByteArray).size = 2 := rfl
    repeat' (first | simp -implicitDefEqProofs only [Ab.R1, Ab.R2, Ab.R3, Ab.R4, Ab.R5, Ab.RH, Ab.RM, Ab.binV, Ab.binC, Nat.reduceLT, Nat.reduceBEq, Nat.reduceAdd, Nat.reduceMul, Nat.reduceEqDiff, Nat.reduceLeDiff, Nat.reduceSub, List.getElem?_cons_zero, List.getElem?_cons_succ, List.getElem?_nil, Option.getD_some, Option.getD_none, if_true, if_false, reduceIte, Option.map_some, Option.map_none, Option.bind_some, Option.bind_none, Option.isSome_some, List.map_cons, List.map_nil, AV.cells, List.length_cons, List.length_nil, List.all_cons, List.all_nil, AV.one, Value.oneCell', ne_eq, reduceCtorEq, Int.reduceNeg, Int.reduceEq, Int.reduceNe, Int.reduceAdd, Int.reduceSub, Int.reduceMul, Int.reduceLT, Int.reduceLE, Int.reduceToNat, List.drop_zero, List.take_zero, List.drop_succ_cons, List.take_succ_cons, List.nil_append, List.cons_append, List.append_nil, List.replicate_zero, List.flatten_nil, List.flatten_cons, List.reduceReplicate, ge_iff_le, gt_iff_lt, eq_self, Nat.add_assoc, facts, *, ByteArray.size_append] | simp (disch := omega) only [Ab.wrap_i64] | ((with_reducible refine Ab.gd_ndec (fun _ => ?_) (fun _ => ?_)) <;> try (exfalso; omega)) | ((with_reducible refine Ab.br_ndec (fun _ => ?_) (fun _ => ?_)) <;> try (exfalso; omega)) | ((with_reducible refine Ab.gd_dec (fun _ => ?_) (fun _ => ?_)) <;> try (exfalso; omega)) | ((with_reducible refine Ab.br_dec (fun _ => ?_) (fun _ => ?_)) <;> try (exfalso; omega)) | (with_reducible refine Ab.run_alt ?_ ?_) | (refine And.intro (by omega) ?_) | (refine gd_split (fun _ => ?_) (fun _ => ?_)) | (refine br_split (fun _ => ?_) (fun _ => ?_)) | (refine cl_same (cC _ (hrd _)) ?_) | (refine cl_same (f1 _) ?_) | (refine cl_same (f2 _) ?_) | (refine cl_same (hj _ (hwd _)) ?_) | omega)
    all_goals exact ⟨_, rfl⟩

end

section
open Go Go.Ab

/-- a result whose card holds nil -/
theorem AC_nilcard {P : Program} {g : FuncId} {args : List AV} {h : Heap} {a b d : Value} (e : TypeId) (es : Nat)
    (hc : AC P g args h fun c h' => c = .tup [.agg [.raw a, .raw b, .raw (.slice none 0 0)], .raw d] ∧ ∃ ext, h' = h ++ ext) :
    AC P g args h fun c h' => c = .tup [.agg [.raw a, .raw b, .own h.length es 0], .raw d] ∧ h' = h ++ [⟨.row e es, []⟩] := by
  have h1 : AC P g args h fun c h' => c = .tup [.agg [.raw a, .raw b, .raw (.slice none 0 0)], .raw d] ∧ h' = h :=
    hc.front fun hcl c h' ⟨hce, ext, he⟩ => ⟨h, ext, he, hcl, Heap.le_refl _, by rw [hce]; rfl, hce, rfl⟩
  intro w0 μ w xs H hv hk
  refine (h1 w0 μ w xs H hv hk).mono fun x w' ⟨μ', c, h', ⟨q1, q2⟩, hvx, hck, H', hE, hL⟩ => ?_
  subst q1; subst q2
  refine ⟨_, _, _, ⟨rfl, rfl⟩, ?_, ?_, H'.nilrow e es, hE.trans hL (Ext.grow _ _), Heap.le_trans hL (Heap.le_append _ _)⟩
  · cases hvx with
    | tup hl hp =>
      refine .tup (by simpa using hl) fun i c y hi hy => ?_
      match i, hi with
      | 0, hi =>
        simp at hi; subst hi
        have hq := hp 0 _ y rfl hy
        cases hq with
        | agg hl2 hp2 =>
          refine .agg (by simpa using hl2) fun j c z hj hz => ?_
          match j, hj with
          | 0, hj => simp at hj; subst hj; rw [raw_val (hp2 0 _ z rfl hz)]; exact .raw _
          | 1, hj => simp at hj; subst hj; rw [raw_val (hp2 1 _ z rfl hz)]; exact .raw _
          | 2, hj => simp at hj; subst hj; rw [raw_val (hp2 2 _ z rfl hz)]; exact vr_nilrow e es
          | j + 3, hj => simp at hj
      | 1, hi => simp at hi; subst hi; rw [raw_val (hp 1 _ y rfl hy)]; exact .raw _
      | i + 2, hi => simp at hi
  · simp [AV.ok, okAll, refOk, csz]
/-- Of the rows that a call has made one, of plain cells, is kept: whichever it was. -/
theorem AC_row1x {P : Program} {g : FuncId} {args : List AV} {h : Heap} (F : Nat → AV) (b : Blk) (hF : ∀ ρ i, (F i).ren ρ = F (ρ i)) (hok : (F h.length).ok (h ++ [b]) = true) (hb : ∀ h, okAll h b.cells = true) (hr : ∀ ρ, renL ρ b.cells = b.cells)
    (hc : AC P g args h fun c h' => ∃ p junk, c = F (h.length + p) ∧ h' = h ++ junk ∧ junk[p]? = some b) : AC P g args h fun c h' => c = F h.length ∧ h' = h ++ [b] :=
  hc.keep fun hcl c h' ⟨p, junk, hce, hh, hp⟩ => by
    subst hh; subst hce
    refine ⟨plc h [p], h ++ [b], F h.length, keeps_list hcl (by simp) rfl (fun j b' p' hb' hp' => ?_), closedH_append hcl (fun b' hb' => ?_), Heap.le_append _ _, hok, ?_, rfl, rfl⟩
    · cases j with
      | zero => simp at hb' hp'; subst hb'; subst hp'; rw [hp, hr]
      | succ j => simp at hb'
    · simp at hb'; subst hb'; exact hb _
    · rw [hF]; simp [plc]
abbrev resC (d f : Int) (i n : Nat) (b : Bool) : AV := .tup [cdV d f i n, VB b]
def pickL (b : Bool) (xs : List ByteArray) : List ByteArray := if b = true then xs else []
def pickI (b : Bool) (d : Int) : Int := if b = true then d else 0theorem rowT_nil : (⟨.row 9 1, []⟩ : Blk) = rowT [] := rfl
theorem treeP_mono {P : Program} {n : Nat} : ∀ (t : LT) {s : S} {h : Heap} {K K' : S → Heap → Prop}, treeP P n t s h K → (∀ s' h', K s' h' → K' s' h') → treeP P n t s h K'
  | .fin, _, _, _, _, hp, hk => hk _ _ hp
  | .op _ r, _, _, _, _, hp, hk => preF_mono hp fun hp => oneC_mono hp fun _ _ hp' => treeP_mono r hp' hk
  | .alt a b, _, _, _, _, hp, hk => ⟨treeP_mono a hp.1 hk, treeP_mono b hp.2 hk⟩
/-- a tree that the walk does not look into -/
def hideT (t : LT) : LC := .tree t
theorem hideT_eq (t : LT) : hideT t = .tree t := rfl
/-- behind a tree of orders, whichever was taken -/
theorem run_join {P : Program} {n : Nat} {h0 : Heap} {t : LT} {k : List It} {Q : Exit → S → Heap → Prop} {s : S} {h : Heap} (M : S → Heap → Prop) (h1 : run P n h0 [.tr t] (fun _ s h => M s h) s h) (h2 : ∀ s' h', M s' h' → run P n h0 k Q s' h') : run P n h0 (.code (hideT t) :: k) Q s h :=
  treeP_mono t h1 h2

attribute [irreducible] hideT

/-- the heap by a name -/
theorem run_heap {P : Program} {n : Nat} {h0 : Heap} {k : List It} {Q : Exit → S → Heap → Prop} {s : S} {h : Heap} (hh : ∀ H, H = h → run P n h0 k Q s H) : run P n h0 k Q s h := hh h rfl
theorem cB_same (b : Bool) : (!(b == b)) = false := by cases b <;> rfl
end

section
open Go Go.Ab

/-- what the reading leaves: nothing, or the card -/
def rdQ (ok : Bool) (D F : Int) (P : List ByteArray) (h : Heap) (c : AV) (h' : Heap) : Prop :=
  (ok = false ∧ c = .tup [.agg [VI 0, VI 0, .raw (.slice none 0 0)], VB false] ∧ ∃ ext, h' = h ++ ext) ∨ (ok = true ∧ ∃ p junk, c = resC D F (h.length + p) P.length true ∧ h' = h ++ junk ∧ junk[p]? = some (rowT P))
theorem rdQ_no {ok : Bool} {D F : Int} {P : List ByteArray} {h ext : Heap} (e : ok = false) : rdQ ok D F P h (.tup [.agg [VI 0, VI 0, .raw (.slice none 0 0)], VB false]) (h ++ ext) := .inl ⟨e, rfl, _, rfl⟩
theorem read_of {g : FuncId} {args : List AV} {ok : Bool} {D F : Int} {P : List ByteArray} {h : Heap} (hc : AC Tryz.prog g args h fun c h' => rdQ ok D F P h c h') :
    AC Tryz.prog g args h fun c h' => c = resC (pickI ok D) (pickI ok F) h.length (pickL ok P).length ok ∧ h' = h ++ [rowT (pickL ok P)] := by
  cases ok with
  | false =>
    refine AC.mono (AC_nilcard (a := .int .i64 0) (b := .int .i64 0) (d := .bool false) 9 1 (hc.mono fun c h' hq => ?_)) fun c h' ⟨q1, q2⟩ => ⟨by rw [q1]; rfl, by rw [q2]; rfl⟩
    rcases hq with ⟨_, h1, h2⟩ | ⟨h1, _⟩
    · exact ⟨h1, h2⟩
    · cases h1
  | true =>
    refine AC_row1x (fun i => resC D F i P.length true) (rowT P) (fun _ _ => rfl) (by simp [AV.ok, okAll, refOk, csz, rowS_len]) (fun h => rowS_ok h _) (fun ρ => ren_rowS ρ _) (hc.mono fun c h' hq => ?_)
    rcases hq with ⟨h1, _⟩ | ⟨_, h2⟩
    · cases h1
    · exact h2
end

section
open Go Go.Ab

theorem jt_mem : ∀ {r : List (List UInt8)} {z : List UInt8}, z ∈ r → z.length ≤ (jt r).length
  | x :: r, z, h => by
    rw [jt_cons, List.length_cons, List.length_append]
    rcases List.mem_cons.1 h with rfl | h
    · omega
    · have := jt_mem h; omega
theorem join_mem {xs : List (List UInt8)} {z : List UInt8} (h : z ∈ xs) : z.length ≤ (Lib.join xs [32]).length := by
  cases xs with
  | nil => cases h
  | cons x r =>
    rw [join_jt, List.length_append]
    rcases List.mem_cons.1 h with rfl | h
    · omega
    · have := jt_mem h; omega
theorem splP_sz {s p : ByteArray} (h : p ∈ splP s) : p.size ≤ s.size := by
  have := join_mem (List.mem_map_of_mem (f := bsL) h)
  rw [(splP_ok s).1] at this
  exact this
theorem splP_le (s : ByteArray) : (splP s).length ≤ s.size + 1 := by
  have := Lib.countB_le blank (by decide) s.size s (Nat.le_refl _)
  rw [splP_len]; omega
theorem rsB_size (b : ByteArray) : (rsB b).size ≤ b.size - 2 := by
  unfold rsB cutR Lib.cut
  split
  · show (List.drop _ _).toArray.size ≤ b.size - 2
    rw [List.size_toArray, List.length_drop]
    show b.size - _ ≤ b.size - 2
    have : colonB.data.toList.length = 2 := rfl
    omega
  · exact Nat.zero_le _
theorem fwB_size (b : ByteArray) : (fwB b).size ≤ (hdB b).size := by
  unfold fwB cutR Lib.cut
  split
  · show (List.drop _ _).toArray.size ≤ (hdB b).size
    rw [List.size_toArray, List.length_drop]
    show (hdB b).size - _ ≤ (hdB b).size
    omega
  · exact Nat.zero_le _

set_option maxHeartbeats 2000000 in
theorem implReadQ (b : ByteArray) (hb : b.size ≤ 1048576) (h : Heap) : AC Tryz.prog 7 [VS b] h fun c h' => rdQ (okI b) (uR (dnB b)) (uR (fwB b)) (splP (rsB b)) h c h' := by
  refine AC_go mixed ok7 (by simp) fun hc _ => ?_
  unfold L7
  have c1 : ∀ H, AC Tryz.prog 19 [VS b, VS ⟨#[58, 32]⟩] H fun r h' => r = .tup [VS (hdB b), VS (rsB b), VB (cutO b colonB)] ∧ h' = H := fun H => cut_ok b colonB hb H
  have s1 : (hdB b).size ≤ b.size := cutH_size b colonB
  have c2 : ∀ H, AC Tryz.prog 19 [VS (hdB b), VS ⟨#[120]⟩] H fun r h' => r = .tup [VS (dnB b), VS (fwB b), VB (cutO (hdB b) xB)] ∧ h' = H := fun H => cut_ok (hdB b) xB (by omega) H
  have s2 : (dnB b).size ≤ (hdB b).size := cutH_size (hdB b) xB
  have s3 := fwB_size b
  have s4 := rsB_size b
  have c3 := fun H => parse_ok (dnB b) (by omega) H
  have c4 := fun H => parse_ok (fwB b) (by omega) H
  have c5 := fun H => split_ok (rsB b) (by omega) H
  have pl := splP_le (rsB b)
  have pz : ∀ p ∈ splP (rsB b), p.size ≤ 1048576 := fun p hp => by have := splP_sz hp; omega
  have c6 := fun id H hr => implCardOk_ok (uR (dnB b)) (uR (fwB b)) (splP (rsB b)) id (by omega) pz H hr
  have hO : okI b = ((((cutO b colonB && cutO (hdB b) xB) && uOk (dnB b)) && uOk (fwB b)) && cardB (uR (dnB b)) (uR (fwB b)) (splP (rsB b))) := rfl
  have q1 := rowS_len (splP (rsB b))
  generalize okI b = ok at *
  generalize cardB (uR (dnB b)) (uR (fwB b)) (splP (rsB b)) = cb at *
  generalize splP (rsB b) = P at *
  generalize uR (dnB b) = A at *
  generalize uR (fwB b) = B at *
  generalize uOk (dnB b) = u1 at *
  generalize uOk (fwB b) = u2 at *
  generalize cutO b colonB = o1 at *
  generalize cutO (hdB b) xB = o2 at *
  generalize hdB b = HD at *
  generalize rsB b = RS at *
  generalize dnB b = DN at *
  generalize fwB b = FW at *
  clear s1 s2 s3 s4 pl pz
  subst hO
  repeat' (first | simp -implicitDefEqProofs only [Ab.R1, Ab.R2, Ab.R3, Ab.R4, Ab.R5, Ab.RH, Ab.RM, Ab.binV, Ab.binC, Nat.reduceLT, Nat.reduceBEq, Nat.reduceAdd, Nat.reduceMul, Nat.reduceEqDiff, Nat.reduceLeDiff, Nat.reduceSub, List.getElem?_cons_zero, List.getElem?_cons_succ, List.getElem?_nil, Option.getD_some, Option.getD_none, if_true, if_false, reduceIte, Option.map_some, Option.map_none, Option.bind_some, Option.bind_none, Option.isSome_some, List.map_cons, List.map_nil, AV.cells, List.length_cons, List.length_nil, List.all_cons, List.all_nil, AV.one, Value.oneCell', ne_eq, reduceCtorEq, Int.reduceNeg, Int.reduceEq, Int.reduceNe, Int.reduceAdd, Int.reduceSub, Int.reduceMul, Int.reduceLT, Int.reduceLE, Int.reduceToNat, List.drop_zero, List.take_zero, List.drop_succ_cons, List.take_succ_cons, List.nil_append, List.cons_append, List.append_nil, List.replicate_zero, List.flatten_nil, List.flatten_cons, List.reduceReplicate, ge_iff_le, gt_iff_lt, eq_self, Nat.add_assoc, facts, *] | simp (disch := omega) only [Ab.wrap_i64] | ((with_reducible refine Ab.gd_ndec (fun _ => ?_) (fun _ => ?_)) <;> try (exfalso; omega)) | ((with_reducible refine Ab.br_ndec (fun _ => ?_) (fun _ => ?_)) <;> try (exfalso; omega)) | ((with_reducible refine Ab.gd_dec (fun _ => ?_) (fun _ => ?_)) <;> try (exfalso; omega)) | ((with_reducible refine Ab.br_dec (fun _ => ?_) (fun _ => ?_)) <;> try (exfalso; omega)) | (with_reducible refine Ab.run_alt ?_ ?_) | (refine And.intro (by omega) ?_) | (refine gd_split (fun _ => ?_) (fun _ => ?_)) | (refine br_split (fun _ => ?_) (fun _ => ?_)) | (refine cl_same (c1 _) ?_) | (refine cl_same (c2 _) ?_) | (refine cl_same (c3 _) ?_) | (refine cl_same (c4 _) ?_) | (refine cl_more ( c5 _) ?_) | (refine cl_same (c6 _ _ (by simp -implicitDefEqProofs only [Ab.app_assoc, Ab.len_app, Ab.sz_newk, Ab.sz_new0, Ab.rd_newk, Ab.rd_new0, Ab.wr_newk, Ab.wr_new0, Ab.set_newk, Ab.set_new0, Ab.sz_cons, Ab.sz_row0, Ab.sz_ro0, Ab.rd_cons, Ab.rd_row, Ab.rd_ro0, Ab.wr_cons, Ab.wr_row, Ab.set_cons_zero, Ab.set_cons_succ, Ab.rowI_len, Ab.rowB_len, Ab.rowS_len, Ab.rowU_len, Nat.add_assoc, List.cons_append, List.nil_append, List.append_nil, List.length_cons, List.length_nil, Nat.reduceAdd, Nat.reduceSub, Nat.reduceEqDiff, Nat.zero_add, Nat.add_zero, Nat.mul_one, Nat.one_mul, if_true, if_false, reduceIte, reduceCtorEq, eq_self, q1])) ?_) | omega)
  all_goals first
    | exact rdQ_no (by simp_all)
    | exact .inr ⟨by simp_all, 1, _, rfl, rfl, rfl⟩
end

section
open Go Go.Ab

/-- the pieces ahead of the place k, and where the next one begins -/
def spK (b : ByteArray) (k : Nat) : List ByteArray × Nat := spG b (k - 5)
theorem spK_cut {b : ByteArray} {k : Nat} (h5 : 5 ≤ k) (h : k = b.size ∨ byAt b k = 32) : spK b (k + 1) = ((spK b k).1 ++ [b.extract (spK b k).2 k], k + 1) := by
  obtain ⟨n, rfl⟩ : ∃ n, k = 5 + n := ⟨k - 5, by omega⟩
  unfold spK
  rw [show 5 + n + 1 - 5 = n + 1 by omega, show 5 + n - 5 = n by omega, spG_cut h]
theorem spK_not {b : ByteArray} {k : Nat} (h5 : 5 ≤ k) (h1 : k ≠ b.size) (h2 : byAt b k ≠ 32) : spK b (k + 1) = spK b k := by
  obtain ⟨n, rfl⟩ : ∃ n, k = 5 + n := ⟨k - 5, by omega⟩
  unfold spK
  rw [show 5 + n + 1 - 5 = n + 1 by omega, show 5 + n - 5 = n by omega, spG_not h1 h2]
theorem spK_bnd {b : ByteArray} {k : Nat} (h5 : 5 ≤ k) : (spK b k).1.length ≤ k ∧ (spK b k).2 ≤ k := by
  have := spG_len b (k - 5)
  unfold spK; omega
theorem spG_sz (b : ByteArray) : ∀ n, ∀ p ∈ (spG b n).1, p.size ≤ b.size
  | 0, p, hp => absurd hp List.not_mem_nil
  | n + 1, p, hp => by
    rw [spG] at hp
    split at hp
    · rcases List.mem_append.1 hp with hp | hp
      · exact spG_sz b n p hp
      · rw [List.mem_singleton.1 hp, ByteArray.size_extract]; omega
    · exact spG_sz b n p hp
theorem spK_end {b : ByteArray} (h : 5 ≤ b.size) : (spK b (b.size + 1)).1 = spP b := by
  unfold spK spP
  rw [show b.size + 1 - 5 = b.size - 4 by omega]

abbrev cd00 : Blk := ⟨.row 26 3, [VI 0, VI 0, .raw (.slice none 0 0)]⟩
/-- what stands behind the tree -/
def afterS (b : ByteArray) (h : Heap) (D F : Int) (s' : S) (h' : Heap) : Prop := s' 0 = VS b ∧ s' 2 = .ptr h.length 3 0 ∧ s' 4 = .ptr (h.length + 1) 3 0 ∧ h' = h ++ [cd00, ⟨.row 26 3, [VI D, VI F, .raw (.slice none 0 0)]⟩]
theorem afterS_mk {b : ByteArray} {h : Heap} {D F : Int} {s' : S} {h' : Heap} (e : h' = h ++ [cd00, ⟨.row 26 3, [VI D, VI F, .raw (.slice none 0 0)]⟩]) (t0 : s' 0 = VS b) (t2 : s' 2 = .ptr h.length 3 0) (t4 : s' 4 = .ptr (h.length + 1) 3 0) : afterS b h D F s' h' := ⟨t0, t2, t4, e⟩
end

section
open Go Go.Ab

theorem impl_is_spec (b : ByteArray) : okI b = okS b ∧ pickI (okI b) (uR (dnB b)) = pickI (okS b) (rdD b) ∧ pickI (okI b) (uR (fwB b)) = pickI (okS b) (rdF b) ∧ pickL (okI b) (splP (rsB b)) = pickL (okS b) (spP b) := by
  obtain ⟨h1, h2⟩ := read_eq b
  rw [h1]
  cases e : okS b with
  | false => exact ⟨rfl, rfl, rfl, rfl⟩
  | true =>
    obtain ⟨e1, e2, e3⟩ := h2 e
    rw [e1, e2, e3]
    exact ⟨rfl, rfl, rfl, rfl⟩
theorem pick_len {b : ByteArray} (hb : b.size ≤ 1048576) : (pickL (okS b) (spP b)).length ≤ 4194304 := by
  unfold pickL
  split
  · have := (spG_len b (b.size - 4)).1
    unfold spP; omega
  · exact Nat.zero_le _

end
end Go.Proofs.YtbpcbemnbelajaaGreatDoor
