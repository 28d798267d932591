/- Loops that count upwards; tests with a stated condition. Plain library text, no statement. -/
import Derived.Test.YtbpcbemnbelajaaDoorAb19
namespace Go.Ab
open Go Go.RowKit

section
variable {P : Program} {n : Nat} {h0 h : Heap} {s : S} {Q : Exit → S → Heap → Prop} {k : List It} {dr : Bool} {l : List LO} {d : Option Nat}

/-- A loop with a counter; rows that a round makes stay. -/
theorem lw_up {c : LC} (J : Nat → S → Heap → Prop) (B i0 : Nat) (hJ : J i0 s h)
    (round : ∀ i s h, J i s h → LW P n h0 c (thenQ (fun s' h' => i < B ∧ J (i + 1) s' h') Q) s h) : LW P n h0 (.loop c) Q s h :=
  lw_loop (fun k s h => ∃ i, k = B - i ∧ J i s h) (B - i0) ⟨i0, rfl, hJ⟩ fun k s h ⟨i, hk, hj⟩ => by
    refine (round i s h hj).mono fun e s' h' hq => ?_
    cases e with
    | normal => exact ⟨B - (i + 1), by have := hq.1; omega, i + 1, rfl, hq.2⟩
    | _ => exact hq

/-- A loop with a counter; what a round makes for itself is forgotten. -/
theorem lw_upD {c : LC} (J : Nat → S → Heap → Prop) (B i0 : Nat) (hJ : J i0 s h)
    (round : ∀ i s h, J i s h → closedH h → h0.le h → LW P n h0 c (thenQ (fun s' h' => i < B ∧ Drop h0 s' h' (J (i + 1))) Q) s h) : LW P n h0 (.loop c) Q s h :=
  lw_loopD (fun k s h => ∃ i, k = B - i ∧ J i s h) (B - i0) ⟨i0, rfl, hJ⟩ fun k s h ⟨i, hk, hj⟩ hc hl => by
    refine (round i s h hj hc hl).mono fun e s' h' hq => ?_
    cases e with
    | normal =>
      obtain ⟨h1, h2, ext, h3, h4, h5, h6⟩ := hq
      exact ⟨B - (i + 1), by omega, h2, ext, h3, h4, h5, i + 1, rfl, h6⟩
    | _ => exact hq

theorem br_dec {p : Prop} [Decidable p] {a b : LC} (h1 : p → run P n h0 (.code a :: k) Q s h) (h2 : ¬ p → run P n h0 (.code b :: k) Q s h) : brR P n h0 (decide p) a b k Q s h :=
  ⟨fun ht => h1 (of_decide_eq_true ht), fun hf => h2 (of_decide_eq_false hf)⟩
theorem gd_dec {p : Prop} [Decidable p] {b : Bool} {o : Op} {F : List Operand} (h1 : p → gdR P n h0 true b dr d o F l k Q s h) (h2 : ¬ p → gdR P n h0 false b dr d o F l k Q s h) : gdR P n h0 (decide p) b dr d o F l k Q s h :=
  gd_split (fun ht => h1 (of_decide_eq_true ht)) (fun hf => h2 (of_decide_eq_false hf))
theorem br_ndec {p : Prop} [Decidable p] {a b : LC} (h1 : ¬ p → run P n h0 (.code a :: k) Q s h) (h2 : p → run P n h0 (.code b :: k) Q s h) : brR P n h0 (decide (¬ p)) a b k Q s h :=
  br_dec h1 fun hp => h2 (Decidable.not_not.1 hp)
theorem gd_ndec {p : Prop} [Decidable p] {b : Bool} {o : Op} {F : List Operand} (h1 : ¬ p → gdR P n h0 true b dr d o F l k Q s h) (h2 : p → gdR P n h0 false b dr d o F l k Q s h) : gdR P n h0 (decide (¬ p)) b dr d o F l k Q s h :=
  gd_dec h1 fun hp => h2 (Decidable.not_not.1 hp)
theorem lw_at {c : LC} (H : LW P n h0 c Q s h) : LW P n h0 c Q s h := H

theorem clean_raw {h : Heap} {s : S} {t : Nat} {v : Value} (hs : s t = .raw v) : clean h s t = .raw v := by unfold clean; rw [hs]; rfl
theorem clean_ok {h : Heap} {s : S} {t : Nat} {c : AV} (hs : s t = c) (hk : c.ok h = true) : clean h s t = c := by unfold clean; rw [hs, if_pos hk]
end

theorem beq_dec (a b : Int) : (a == b) = decide (a = b) := by
  by_cases h : a = b <;> simp [h]
theorem not_dec {p : Prop} [Decidable p] : (!decide p) = decide (¬ p) := by
  by_cases h : p <;> simp [h]
theorem bne_dec (a b : Int) : (a != b) = decide (¬ a = b) := by
  by_cases h : a = b <;> simp [h]

/-! ### literals and sources, step by step -/

theorem parts_nil {s : S} : parts s [] = [] := rfl
theorem parts_cons {s : S} {i : Nat} {o : Operand} {ps : List (Nat × Operand)} : parts s ((i, o) :: ps) = (i, ev s o) :: parts s ps := rfl
theorem fill_nil {place : Nat → Option (Nat × Nat)} {cells : List AV} : fillA place cells [] = some cells := rfl
/-- where an element of a row goes -/
def rowPl (sz : Nat) : Nat → Option (Nat × Nat) := fun i => some (i * sz, sz)
theorem bs_ty2 {P : Program} {n : Nat} {h0 h : Heap} {dr : Bool} {t : Nat} {l : List LO} {k : List It} {Q : Exit → S → Heap → Prop} {s : S} {len : Nat} {ps : List (Nat × Operand)} {e : TypeId} {sz by_ : Nat} {g : Bool} {z : List Value} : bs2 P ⟨n, h0, dr, t, l, k, Q, s⟩ h e len ps (some ⟨sz, g, z, by_⟩) = (len * sz ≤ 16777216 ∧ (ps.all fun p => ((ev s p.2).cells.all AV.one)) = true ∧
      bs3 P ⟨n, h0, dr, t, l, k, Q, s⟩ h e sz len (fillA (rowPl sz) (List.replicate len (z.map AV.raw)).flatten (parts s ps))) := rfl
theorem fill_row {sz i : Nat} {cells : List AV} {c : AV} {rest : List (Nat × AV)} : fillA (rowPl sz) cells ((i, c) :: rest) =
    if c.cells.length = sz ∧ i * sz + c.cells.length ≤ cells.length then fillA (rowPl sz) (cells.take (i * sz) ++ c.cells ++ cells.drop (i * sz + c.cells.length)) rest else none := rfl
def fl1 (place : Nat → Option (Nat × Nat)) (cells : List AV) (c : AV) (rest : List (Nat × AV)) : Option (Nat × Nat) → Option (List AV)
  | some (off, size) => if c.cells.length = size ∧ off + c.cells.length ≤ cells.length then fillA place (cells.take off ++ c.cells ++ cells.drop (off + c.cells.length)) rest else none
  | none => none
theorem fill_fld {P : Program} {T : TypeId} {i : Nat} {cells : List AV} {c : AV} {rest : List (Nat × AV)} : fillA (fldOf P T) cells ((i, c) :: rest) = fl1 (fldOf P T) cells c rest (fldOf P T i) := by
  rw [fillA]
  unfold fl1
  cases fldOf P T i <;> rfl
theorem fl_some {place : Nat → Option (Nat × Nat)} {cells : List AV} {c : AV} {rest : List (Nat × AV)} {off size : Nat} : fl1 place cells c rest (some (off, size)) =
    if c.cells.length = size ∧ off + c.cells.length ≤ cells.length then fillA place (cells.take off ++ c.cells ++ cells.drop (off + c.cells.length)) rest else none := rfl
def sr2 (m : Nat) : Option (List AV) → Option (Nat × List AV)
  | some cells => some (m, cells)
  | none => none
def sr3 (lo es m : Nat) : Option (List AV) → Option (Nat × List AV)
  | some cells => some (m, (cells.drop (lo * es)).take (m * es))
  | none => none
theorem src_own {h : Heap} {size id es m : Nat} : srcOf h size (.own id es m) = if es = size then sr2 m (rd h id (m * es)) else none := by
  unfold srcOf sr2
  rfl
theorem src_sub {h : Heap} {size id st es lo m : Nat} : srcOf h size (.sub id st es lo m) = if es = size ∧ (lo + m) * es ≤ st then sr3 lo es m (rd h id st) else none := by
  unfold srcOf sr3
  rfl
theorem src_nil {h : Heap} {size : Nat} : srcOf h size (.raw (.slice none 0 0)) = some (0, []) := rfl
theorem sr2_some {m : Nat} {cells : List AV} : sr2 m (some cells) = some (m, cells) := rfl
theorem sr3_some {lo es m : Nat} {cells : List AV} : sr3 lo es m (some cells) = some (m, (cells.drop (lo * es)).take (m * es)) := rfl
end Go.Ab
