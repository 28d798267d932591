/- What is asked of the world in which a law begins: the package's variables hold what they should. Plain library text, no statement. -/
import Derived.Below
import Derived.Lib.ItoaNum
namespace Go.Ab
open Go Go.RowKit

def Glob (w : World) : Prop :=
  (∃ m, w.cell? ⟨0, 0, none⟩ = some (.int .i64 m)) ∧ (∃ te pe, w.cell? ⟨1, 0, none⟩ = some (.iface te pe)) ∧ (∃ te pe, w.cell? ⟨2, 0, none⟩ = some (.iface te pe)) ∧
  ∃ t f, w.heap[3]? = some (.cells (Lib.pow10Tab.map fun z => Value.int .u64 z).toArray t f)
theorem Glob.keep {w0 w : World} (hG : Glob w0) (hb : Below w0.heap.size w0 w) : Glob w := by
  obtain ⟨⟨m, h1⟩, ⟨t2, p2, h2⟩, ⟨t3, p3, h3⟩, t4, f4, h4⟩ := hG
  have lt : ∀ {p : Addr} {x : Value}, w0.cell? p = some x → p.block < w0.heap.size := fun {p x} h => by
    rcases Nat.lt_or_ge p.block w0.heap.size with h' | h'
    · exact h'
    · simp [World.cell?, Array.getElem?_eq_none h'] at h
  refine ⟨⟨m, (hb.cell (lt h1)).trans h1⟩, ⟨t2, p2, (hb.cell (lt h2)).trans h2⟩, ⟨t3, p3, (hb.cell (lt h3)).trans h3⟩, t4, f4, (hb.block _ ?_).trans h4⟩
  rcases Nat.lt_or_ge 3 w0.heap.size with h' | h'
  · exact h'
  · rw [Array.getElem?_eq_none h'] at h4; cases h4
end Go.Ab
