/- What a list of cards among the arguments is. -/
import Derived.Test.YtppjagbdpmopdaaCards
import Derived.Test.YtppjagbdpmopdaaSayC
namespace Go.Proofs.Ytppjagbdpmopdaa
set_option maxRecDepth 20000
set_option linter.unusedSimpArgs false
set_option linter.unusedVariables false
open Go Go.Ab

theorem say_nestP {α : Type} {g : α × Nat → List AV} {inn : α → List AV} {es : Nat} {P : α → Prop} (hpos : 0 < es) (hg : ∀ p, (g p).length = es) {R : Say} {h : Heap}
    (hR : ∀ cs, R h cs → ∃ a i, cs = g (a, i) ∧ rd h i (inn a).length = some (inn a) ∧ P a) {av : List AV} (hs : (SaySl es fun _ => R) h av) :
    ∃ (xs : List α) (id : Nat), av = [.sub id (xs.length * es) es 0 xs.length] ∧ xs.length ≤ maxLen ∧ NOk g inn es h id xs ∧ ∀ a ∈ xs, P a := by
  obtain ⟨id, cells, len, h1, h2, h3, h4⟩ := hs
  have key : ∃ ps : List { p : α × Nat // rd h p.2 (inn p.1).length = some (inn p.1) ∧ P p.1 }, ps.length = len ∧ cells = rowOf (fun p => g p.1) ps :=
    rows_of_each (f := fun p : { p : α × Nat // rd h p.2 (inn p.1).length = some (inn p.1) ∧ P p.1 } => g p.1) hpos (fun p => hg p.1) (fun cs hcs => by
      obtain ⟨a, i, rfl, hr, hm⟩ := hR cs hcs
      exact ⟨⟨(a, i), hr, hm⟩, rfl⟩) len cells (rd_spec h2).1 h4
  obtain ⟨ps, rfl, rfl⟩ := key
  refine ⟨ps.map (·.1.1), id, by simpa using h1, by simpa using h3, ⟨ps.map (·.1.2), by simp, ?_, fun k a i hk hi => ?_⟩, fun a ha => ?_⟩
  · rw [List.length_map, h2]
    congr 1
    clear h1 h2 h3 h4
    induction ps with
    | nil => rfl
    | cons p ps ih => rw [rowOf_cons, List.map_cons, List.map_cons, List.zip_cons_cons, rowOf_cons, ih]
  · simp only [List.getElem?_map, Option.map_eq_some_iff] at hk hi
    obtain ⟨p, hp, rfl⟩ := hk
    obtain ⟨q, hq, rfl⟩ := hi
    rw [hp] at hq; injection hq with hq; subst hq
    exact p.2.1
  · simp only [List.mem_map] at ha
    obtain ⟨p, _, rfl⟩ := ha
    exact p.2.2
theorem say_cards {h : Heap} {c : AV} (hs : (SaySl 3 fun _ => SayF [(1, SayI .i64), (1, SayI .i64), (1, SaySl 1 fun _ => SayS)]) h [c]) :
    ∃ (cs : List Cd) (id : Nat), c = .sub id (cs.length * 3) 3 0 cs.length ∧ cs.length ≤ maxLen ∧ NOk gC inC 3 h id cs ∧ ∀ a ∈ cs, a.2.2.length ≤ maxLen ∧ ∀ x ∈ a.2.2, x.size ≤ maxLen := by
  obtain ⟨cs, id, h1, h2, h3, h4⟩ := say_nestP (g := gC) (inn := inC) (P := fun a : Cd => a.2.2.length ≤ maxLen ∧ ∀ x ∈ a.2.2, x.size ≤ maxLen) (by decide) gC_len (fun cs hcs => by
    obtain ⟨d, f, xs, i, e, m, z, r⟩ := say_card hcs
    injection e with e
    exact ⟨(d, f, xs), i, e, by rw [rowS_len]; exact r, m, z⟩) hs
  exact ⟨cs, id, List.head_eq_of_cons_eq h1, h2, h3, h4⟩
end Go.Proofs.Ytppjagbdpmopdaa
