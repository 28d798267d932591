/- What a law's arguments are, as lists. Plain library text, no statement. -/
import Derived.Test.YtbpcbemnbelajaaDoorAb24
namespace Go.Ab
open Go Go.RowKit

theorem rows_of_each {α : Type} {f : α → List AV} {es : Nat} (hpos : 0 < es) (hf : ∀ a, (f a).length = es) {R : Say} {h : Heap} (hR : ∀ cs, R h cs → ∃ a, cs = f a) :
    ∀ (len : Nat) (cells : List AV), cells.length = len * es → Each es len (fun _ => R) h cells → ∃ ws : List α, ws.length = len ∧ cells = rowOf f ws := by
  intro len
  induction len with
  | zero => intro cells hcl _; exact ⟨[], rfl, by simpa [rowOf] using hcl⟩
  | succ n ih =>
    intro cells hcl h4
    have h0 := h4 0 (by omega)
    simp only [Nat.zero_mul, List.drop_zero] at h0
    obtain ⟨a, ha⟩ := hR _ h0
    rw [Nat.add_mul, Nat.one_mul] at hcl
    obtain ⟨ws, hw1, hw2⟩ := ih (cells.drop es) (by simp; omega) (fun i hi => by
      have := h4 (i + 1) (by omega)
      rwa [show (i + 1) * es = es + i * es by rw [Nat.add_mul]; omega, ← List.drop_drop] at this)
    refine ⟨a :: ws, by simp [hw1], ?_⟩
    rw [rowOf_cons, ← hw2, ← ha, List.take_append_drop]

theorem say_rows {α : Type} {f : α → List AV} {es : Nat} (hpos : 0 < es) (hf : ∀ a, (f a).length = es) {R : Say} {h : Heap} (hR : ∀ cs, R h cs → ∃ a, cs = f a) {av : List AV} (hs : (SaySl es fun _ => R) h av) :
    ∃ (ws : List α) (id : Nat), av = [.sub id (ws.length * es) es 0 ws.length] ∧ ws.length ≤ maxLen ∧ rd h id (ws.length * es) = some (rowOf f ws) := by
  obtain ⟨id, cells, len, h1, h2, h3, h4⟩ := hs
  obtain ⟨ws, rfl, rfl⟩ := rows_of_each hpos hf hR len cells (rd_spec h2).1 h4
  exact ⟨ws, id, h1, h3, h2⟩

theorem rowI_of (xs : List Int) : rowI xs = rowOf (fun n => [VI n]) xs := by
  induction xs with
  | nil => rfl
  | cons a xs ih => rw [rowOf_cons, ← ih]; rfl
theorem rowS_of (xs : List ByteArray) : rowS xs = rowOf (fun n => [VS n]) xs := by
  induction xs with
  | nil => rfl
  | cons a xs ih => rw [rowOf_cons, ← ih]; rfl
theorem rowU_of (xs : List UInt8) : rowU xs = rowOf (fun b => [.raw (.int .u8 b.toNat)]) xs := by
  induction xs with
  | nil => rfl
  | cons a xs ih => rw [rowOf_cons, ← ih]; rfl

/-- ints of the range of int -/
def int64 (n : Int) : Prop := -9223372036854775808 ≤ n ∧ n ≤ 9223372036854775807
theorem int64_of {n : Int} (h : (Lit.int .i64 n).wf = true) : int64 n := by
  unfold int64
  simp only [Lit.wf] at h
  simp [IntKind.signed, IntKind.min, IntKind.max, IntKind.bits] at h
  omega

theorem say_int {h : Heap} {c : AV} (hs : (SayI .i64) h [c]) : ∃ n, c = VI n ∧ int64 n := by
  obtain ⟨n, hn, hw⟩ := hs
  exact ⟨n, List.head_eq_of_cons_eq hn, int64_of hw⟩
theorem say_str {h : Heap} {c : AV} (hs : SayS h [c]) : ∃ b : ByteArray, c = VS b ∧ b.size ≤ maxLen := by
  obtain ⟨b, hb, hw⟩ := hs
  exact ⟨b, List.head_eq_of_cons_eq hb, hw⟩
theorem say_bool {h : Heap} {c : AV} (hs : SayB h [c]) : ∃ b, c = VB b := by
  obtain ⟨b, hb⟩ := hs
  exact ⟨b, List.head_eq_of_cons_eq hb⟩
theorem say_ints {h : Heap} {c : AV} (hs : (SaySl 1 fun _ => SayI .i64) h [c]) : ∃ (xs : List Int) (id : Nat), c = .sub id xs.length 1 0 xs.length ∧ xs.length ≤ maxLen ∧ rd h id xs.length = some (rowI xs) ∧ ∀ x ∈ xs, int64 x := by
  obtain ⟨id, cells, len, h1, h2, h3, h4⟩ := hs
  have key : ∃ xs : List { n : Int // int64 n }, xs.length = len ∧ cells = rowOf (fun n => [VI n.1]) xs :=
    rows_of_each (es := 1) (f := fun n : { n : Int // int64 n } => [VI n.1]) (R := SayI .i64) (by decide) (fun _ => rfl) (fun cs ⟨n, hn, hw⟩ => ⟨⟨n, int64_of hw⟩, hn⟩) len cells (rd_spec h2).1 h4
  obtain ⟨xs, rfl, rfl⟩ := key
  simp only [Nat.mul_one] at h1 h2
  refine ⟨xs.map (·.1), id, by simpa using List.head_eq_of_cons_eq h1, by simpa using h3, ?_, fun x hx => ?_⟩
  · rw [List.length_map, h2, rowI_of]
    congr 1
    clear h1 h2 h3 h4
    induction xs with
    | nil => rfl
    | cons a xs ih => rw [rowOf_cons, ih]; rfl
  · simp at hx; exact hx.1
theorem say_strs {h : Heap} {c : AV} (hs : (SaySl 1 fun _ => SayS) h [c]) : ∃ (xs : List ByteArray) (id : Nat), c = .sub id xs.length 1 0 xs.length ∧ xs.length ≤ maxLen ∧ rd h id xs.length = some (rowS xs) ∧ ∀ x ∈ xs, x.size ≤ maxLen := by
  obtain ⟨id, cells, len, h1, h2, h3, h4⟩ := hs
  have key : ∃ xs : List { b : ByteArray // b.size ≤ maxLen }, xs.length = len ∧ cells = rowOf (fun n => [VS n.1]) xs :=
    rows_of_each (es := 1) (f := fun n : { b : ByteArray // b.size ≤ maxLen } => [VS n.1]) (R := SayS) (by decide) (fun _ => rfl) (fun cs ⟨n, hn, hw⟩ => ⟨⟨n, hw⟩, hn⟩) len cells (rd_spec h2).1 h4
  obtain ⟨xs, rfl, rfl⟩ := key
  simp only [Nat.mul_one] at h1 h2
  refine ⟨xs.map (·.1), id, by simpa using List.head_eq_of_cons_eq h1, by simpa using h3, ?_, fun x hx => ?_⟩
  · rw [List.length_map, h2, rowS_of]
    congr 1
    clear h1 h2 h3 h4
    induction xs with
    | nil => rfl
    | cons a xs ih => rw [rowOf_cons, ih]; rfl
  · simp at hx; exact hx.1
theorem say_bytes {h : Heap} {c : AV} (hs : (SaySl 1 fun _ => SayI .u8) h [c]) : ∃ (xs : List UInt8) (id : Nat), c = .sub id xs.length 1 0 xs.length ∧ xs.length ≤ maxLen ∧ rd h id xs.length = some (rowU xs) := by
  obtain ⟨xs, id, h1, h2, h3⟩ := say_rows (es := 1) (f := fun b : UInt8 => [.raw (.int .u8 b.toNat)]) (by decide) (fun _ => rfl) (fun cs ⟨n, hn, hw⟩ => by
    refine ⟨UInt8.ofNat n.toNat, ?_⟩
    simp only [Lit.wf] at hw
    simp [IntKind.signed, IntKind.min, IntKind.max, IntKind.bits] at hw
    rw [hn]
    have : ((UInt8.ofNat n.toNat).toNat : Int) = n := by
      rw [UInt8.toNat_ofNat']
      omega
    rw [this]) hs
  simp only [Nat.mul_one] at h1 h3
  exact ⟨xs, id, List.head_eq_of_cons_eq h1, h2, by rw [h3, rowU_of]⟩

end Go.Ab
