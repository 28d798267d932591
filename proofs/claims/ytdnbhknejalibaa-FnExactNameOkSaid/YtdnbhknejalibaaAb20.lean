/- Loops that count upwards; tests with a stated condition. Plain library text, no statement. -/
import Derived.Test.YtdnbhknejalibaaAb19
namespace Go.Ab
open Go Go.RowKit

section
variable {P : Program} {n : Nat} {h0 h : Heap} {s : S} {Q : Exit → S → Heap → Prop} {k : List It} {dr : Bool} {l : List LO} {d : Option Nat}

/-- A loop with a counter; rows that a round makes stay. -/
theorem lw_up {c : LC} (J : Nat → S → Heap → Prop) (B i0 : Nat) (hJ : J i0 s h)
    (round : ∀ i s h, J i s h → LW P n h0 c (thenQ (fun s' h' => i < B ∧ J (i + 1) s' h') Q) s h) : LW P n h0 (.loop c) Q s h :=
  lw_loop (fun k s h => ∃ i, k = B - i ∧ J i s h) (B - i0) ⟨i0, rfl, hJ⟩ fun k s h ⟨i, hk, hj⟩ => by
    refine (round i s h hj).mono fun e s' h' hq => ?_
    cases e with
    | normal => exact ⟨B - (i + 1), by have := hq.1; omega, i + 1, rfl, hq.2⟩
    | _ => exact hq

/-- A loop with a counter; what a round makes for itself is forgotten. -/
theorem lw_upD {c : LC} (J : Nat → S → Heap → Prop) (B i0 : Nat) (hJ : J i0 s h)
    (round : ∀ i s h, J i s h → closedH h → h0.le h → LW P n h0 c (thenQ (fun s' h' => i < B ∧ Drop h0 s' h' (J (i + 1))) Q) s h) : LW P n h0 (.loop c) Q s h :=
  lw_loopD (fun k s h => ∃ i, k = B - i ∧ J i s h) (B - i0) ⟨i0, rfl, hJ⟩ fun k s h ⟨i, hk, hj⟩ hc hl => by
    refine (round i s h hj hc hl).mono fun e s' h' hq => ?_
    cases e with
    | normal =>
      obtain ⟨h1, h2, ext, h3, h4, h5, h6⟩ := hq
      exact ⟨B - (i + 1), by omega, h2, ext, h3, h4, h5, i + 1, rfl, h6⟩
    | _ => exact hq

theorem br_dec {p : Prop} [Decidable p] {a b : LC} (h1 : p → run P n h0 (.code a :: k) Q s h) (h2 : ¬ p → run P n h0 (.code b :: k) Q s h) : brR P n h0 (decide p) a b k Q s h :=
  ⟨fun ht => h1 (of_decide_eq_true ht), fun hf => h2 (of_decide_eq_false hf)⟩
theorem gd_dec {p : Prop} [Decidable p] {b : Bool} {o : Op} (h1 : p → gdR P n h0 true b dr d o l k Q s h) (h2 : ¬ p → gdR P n h0 false b dr d o l k Q s h) : gdR P n h0 (decide p) b dr d o l k Q s h :=
  gd_split (fun ht => h1 (of_decide_eq_true ht)) (fun hf => h2 (of_decide_eq_false hf))
theorem lw_at {c : LC} (H : LW P n h0 c Q s h) : LW P n h0 c Q s h := H

theorem clean_raw {h : Heap} {s : S} {t : Nat} {v : Value} (hs : s t = .raw v) : clean h s t = .raw v := by unfold clean; rw [hs]; rfl
theorem clean_ok {h : Heap} {s : S} {t : Nat} {c : AV} (hs : s t = c) (hk : c.ok h = true) : clean h s t = c := by unfold clean; rw [hs, if_pos hk]
end
end Go.Ab
