/- What one operation does on the abstract heap, and that the model does it so. Plain library text, no statement. -/
import Derived.Test.YtbpcbemnbelajaaGreatDoorAb3
import Derived.Laws.Small
namespace Go.Ab
open Go Go.RowKit

/-- arithmetic and tests on two integers of one kind -/
def binI (op : BinOp) (k : IntKind) (a b : Int) (K : AV → Prop) : Prop :=
  match op with
  | .add => K (.raw (.int k (k.wrap (a + b))))
  | .sub => K (.raw (.int k (k.wrap (a - b))))
  | .mul => K (.raw (.int k (k.wrap (a * b))))
  | .quo => b ≠ 0 ∧ K (.raw (.int k (k.wrap (a.tdiv b))))
  | .rem => b ≠ 0 ∧ K (.raw (.int k (a.tmod b)))
  | .eql => K (.raw (.bool (a == b)))
  | .neq => K (.raw (.bool (a != b)))
  | .lss => K (.raw (.bool (decide (a < b))))
  | .leq => K (.raw (.bool (decide (a ≤ b))))
  | .gtr => K (.raw (.bool (decide (a > b))))
  | .geq => K (.raw (.bool (decide (a ≥ b))))
  | .and => K (.raw (.int k (k.wrap (BitVec.ofInt k.bits a &&& BitVec.ofInt k.bits b).toNat)))
  | .or => K (.raw (.int k (k.wrap (BitVec.ofInt k.bits a ||| BitVec.ofInt k.bits b).toNat)))
  | .xor => K (.raw (.int k (k.wrap (BitVec.ofInt k.bits a ^^^ BitVec.ofInt k.bits b).toNat)))
  | .shl => 0 ≤ b ∧ K (.raw (.int k (k.wrap (a * 2 ^ (min b.toNat k.bits)))))
  | .shr => 0 ≤ b ∧ K (.raw (.int k (a.fdiv (2 ^ (min b.toNat k.bits)))))
  | _ => False

/-- the two operands of a shift may be of two kinds -/
def shiftB : BinOp → Bool
  | .shl | .shr => true
  | _ => false

def binS (op : BinOp) (a b : ByteArray) (K : AV → Prop) : Prop :=
  match op with
  | .add => a.size + b.size ≤ 9223372036854775807 ∧ K (.raw (.string (a ++ b)))
  | .eql => K (.raw (.bool (a.toList == b.toList)))
  | .neq => K (.raw (.bool (!(a.toList == b.toList))))
  | .lss => K (.raw (.bool (Op.bytesLess a.toList b.toList)))
  | .leq => K (.raw (.bool (Op.bytesLess a.toList b.toList || a.toList == b.toList)))
  | .gtr => K (.raw (.bool (!(Op.bytesLess a.toList b.toList || a.toList == b.toList))))
  | .geq => K (.raw (.bool (!(Op.bytesLess a.toList b.toList))))
  | _ => False

def isBool (P : Program) (t : TypeId) : Bool := match P.underlying t with | some .bool => true | _ => false
theorem isBool_spec {P : Program} {t : TypeId} (h : isBool P t = true) : P.underlying t = some .bool := by
  unfold isBool at h; split at h
  · assumption
  · cases h

def binP (P : Program) (t : TypeId) (op : BinOp) (x y : AV) (K : AV → Prop) : Prop :=
  match x, y with
  | .raw (.int k a), .raw (.int k' b) => (shiftB op = true ∨ k = k') ∧ binI op k a b K
  | .raw (.string a), .raw (.string b) => binS op a b K
  | .raw (.bool a), .raw (.bool b) => match op with
    | .eql => isBool P t = true ∧ K (.raw (.bool (a == b)))
    | .neq => isBool P t = true ∧ K (.raw (.bool (!(a == b))))
    | _ => False
  | _, _ => False

/-- the place i of a slice, with its element's size -/
def idxP (es : Nat) (x : AV) (i : Int) (K : AV → Prop) : Prop :=
  match x with
  | .own id es' len => es' = es ∧ 0 ≤ i ∧ i < len ∧ K (.ptr id (len * es') (i.toNat * es))
  | .sub id st es' lo len => es' = es ∧ 0 ≤ i ∧ i < len ∧ K (.ptr id st (lo * es' + i.toNat * es))
  | _ => False

section
variable {P : Program} {w0 w : World} {μ : Mu} {h : Heap}

theorem run_binI {op k k' a b} {K : AV → Prop} (hk : shiftB op = true ∨ k = k') (hb : binI op k a b K) (t : TypeId) (x y : Operand) :
    ∃ v, K (.raw v) ∧ (do eqGuard op t x y (.int k a) (.int k' b); binOp op t (.int k a) (.int k' b) : Sem Value).run P w = .ok v w := by
  cases op <;> simp only [binI] at hb
  case shl => exact ⟨_, hb.2, by have : ¬ b < 0 := by omega
                                 simp [eqGuard, binOp, Op.shift, this]⟩
  case shr => exact ⟨_, hb.2, by have : ¬ b < 0 := by omega
                                 simp [eqGuard, binOp, Op.shift, this]⟩
  all_goals (obtain rfl : k = k' := by simpa [shiftB] using hk)
  case quo => exact ⟨_, hb.2, by simp [eqGuard, binOp, Op.intDiv, hb.1]⟩
  case rem => exact ⟨_, hb.2, by simp [eqGuard, binOp, Op.intDiv, hb.1]⟩
  all_goals first
    | exact hb.elim
    | exact ⟨_, hb, by simp [eqGuard, binOp, Op.intArith, Op.intCmp, Op.intBits]⟩

theorem run_binS {op a b} {K : AV → Prop} (hb : binS op a b K) (t : TypeId) (x y : Operand) :
    ∃ v, K (.raw v) ∧ (do eqGuard op t x y (.string a) (.string b); binOp op t (.string a) (.string b) : Sem Value).run P w = .ok v w := by
  cases op <;> simp only [binS] at hb
  case add =>
    refine ⟨_, hb.2, ?_⟩
    have : ¬ ((9223372036854775807 : Int) < (a.size : Int) + (b.size : Int)) := by omega
    simp [eqGuard, binOp, Op.stringOp, IntKind.max, IntKind.signed, IntKind.bits, this]
  all_goals first
    | exact hb.elim
    | exact ⟨_, hb, by simp [eqGuard, binOp, Op.stringOp]⟩

theorem run_binP {t op c d} {K : AV → Prop} (hb : binP P t op c d K) {x y : Value} (hx : VR μ h c x) (hy : VR μ h d y) (ox oy : Operand) :
    ∃ v, K (.raw v) ∧ (do eqGuard op t ox oy x y; binOp op t x y : Sem Value).run P w = .ok v w := by
  unfold binP at hb
  split at hb
  · cases hx; cases hy
    exact run_binI hb.1 hb.2 t ox oy
  · cases hx; cases hy
    exact run_binS hb t ox oy
  · cases hx; cases hy
    split at hb
    · exact ⟨_, hb.2, by simp [eqGuard, run_eql_bool w t _ _ (isBool_spec hb.1)]⟩
    · exact ⟨_, hb.2, by simp [eqGuard, run_neq_bool w t _ _ (isBool_spec hb.1)]⟩
    · exact hb.elim
  · exact hb.elim

end

/-- the parts of a literal, laid into a zero value: the abstract way -/
def fillA (place : Nat → Option (Nat × Nat)) (cells : List AV) : List (Nat × AV) → Option (List AV)
  | [] => some cells
  | (i, c) :: rest =>
    match place i with
    | none => none
    | some (off, size) =>
      if c.cells.length = size ∧ off + c.cells.length ≤ cells.length then fillA place (cells.take off ++ c.cells ++ cells.drop (off + c.cells.length)) rest else none

/-- every field's type is known -/
def fldsOk (P : Program) (t : TypeId) : Bool :=
  match P.underlying t with
  | some (.struct fs) => fs.toList.all fun f => (P.info? f.type).isSome
  | _ => false

def parts (s : S) (ps : List (Nat × Operand)) : List (Nat × AV) := ps.map fun p => (p.1, ev s p.2)

/-- what is appended: its length and its cells -/
def srcOf (h : Heap) (size : Nat) (y : AV) : Option (Nat × List AV) :=
  match y with
  | .own id es m => if es = size then (match rd h id (m * es) with | some cells => some (m, cells) | none => none) else none
  | .sub id st es lo m => if es = size ∧ (lo + m) * es ≤ st then (match rd h id st with | some cells => some (m, (cells.drop (lo * es)).take (m * es)) | none => none) else none
  | .raw (.slice none 0 0) => some (0, [])
  | _ => none

def appP (h : Heap) (e : TypeId) (ty : Ty) (x : AV) (m : Nat) (news : List AV) (K : AV → Heap → Prop) : Prop :=
  match x with
  | .own id es n => es = ty.size ∧ (n + m) * ty.bytes ≤ 140737488355328 ∧ n + m ≤ 140737488355328 ∧
    (match wr h id (n * es) with
    | some (e', es', cells) => e' = e ∧ es' = es ∧ K (.own id es (n + m)) (h.set id ⟨.row e es, cells ++ news⟩)
    | none => False)
  | .raw (.slice none 0 0) => m * ty.bytes ≤ 140737488355328 ∧ m ≤ 140737488355328 ∧ K (.own h.length ty.size m) (h ++ [⟨.row e ty.size, news⟩])
  | _ => False

/-- the element's type is a byte's -/
def isU8s (P : Program) (t : TypeId) : Bool := match elemT P t with | some e => (match P.underlying e with | some (.int .u8) => true | _ => false) | none => false
/-- cells that hold bytes -/
def bytesA : List AV → Option (List UInt8)
  | [] => some []
  | .raw (.int .u8 n) :: l => match bytesA l with | some bs => some (UInt8.ofNat n.toNat :: bs) | none => none
  | _ :: _ => none
/-- a row of bytes as a string -/
def strP (P : Program) (src dst : TypeId) (h : Heap) (K : AV → Heap → Prop) : Option (Nat × List AV) → Prop
  | some (_, news) => match bytesA news with
    | some bs => isU8s P src = true ∧ isStr P dst = true ∧ K (.raw (.string ⟨bs.toArray⟩)) h
    | none => False
  | none => False

/-- the bounds of a slice expression -/
def bndP (n : Nat) : Option AV → Option AV → (Nat → Nat → Prop) → Prop
  | none, none, K => K 0 n
  | some (.raw (.int _ l)), none, K => 0 ≤ l ∧ l ≤ n ∧ K l.toNat n
  | none, some (.raw (.int _ u)), K => 0 ≤ u ∧ u ≤ n ∧ K 0 u.toNat
  | some (.raw (.int _ l)), some (.raw (.int _ u)), K => 0 ≤ l ∧ l ≤ u ∧ u ≤ n ∧ K l.toNat u.toNat
  | _, _, _ => False

/-- **One operation on the abstract heap**: what must hold, and what stands behind it. Calls of functions are not among them. -/
def opP (P : Program) (s : S) (h : Heap) (o : Op) (K : AV → Heap → Prop) : Prop :=
  match o with
  | .move x | .assign x => K (ev s x) h
  | .pick c a b => match ev s c with
    | .raw (.bool t) => K (if t then ev s a else ev s b) h
    | _ => False
  | .alloc T => match tyOf P T with
    | some y => K (.ptr h.length y.size 0) (h ++ [⟨.row T y.size, y.zero.map .raw⟩])
    | none => False
  | .box T x => match tyOf P T with
    | some y => (ev s x).cells.length = y.size ∧ (ev s x).cells.all AV.one = true ∧ K (.ptr h.length y.size 0) (h ++ [⟨.row T y.size, (ev s x).cells⟩])
    | none => False
  | .load T a => match ev s a, tyOf P T with
    | .ptr id st off, some y => match rd h id st with
      | some cells => if y.agg then off + y.size ≤ cells.length ∧ K (.agg ((cells.drop off).take y.size)) h else
        match cells[off]? with
        | some c => K c h
        | none => False
      | none => False
    | _, _ => False
  | .store T a v => match ev s a, tyOf P T with
    | .ptr id st off, some y => match wr h id st with
      | some (e, es, cells) => (ev s v).cells.length = y.size ∧ (ev s v).cells.all AV.one = true ∧ off + y.size ≤ cells.length ∧
          K (.raw undef) (h.set id ⟨.row e es, cells.take off ++ (ev s v).cells ++ cells.drop (off + y.size)⟩)
      | none => False
    | _, _ => False
  | .nilCheck x => match ev s x with
    | .ptr id st off => (sz h id).isSome = true ∧ sz h id = some st ∧ K (.ptr id st off) h
    | .fn (.func f) cs => K (.fn (.func f) cs) h
    | _ => False
  | .binOp op t x y _ => binP P t op (ev s x) (ev s y) (fun c => K c h)
  | .unOp op _ x => match op, ev s x with
    | .not, .raw (.bool b) => K (.raw (.bool (!b))) h
    | .neg, .raw (.int k n) => K (.raw (.int k (k.wrap (0 - n)))) h
    | _, _ => False
  | .convert src dst x => match ev s x with
    | .raw (.int _ n) => match intK P src, intK P dst with
      | some _, some k => K (.raw (.int k (k.wrap n))) h
      | _, _ => False
    | .own id es m => strP P src dst h K (srcOf h 1 (.own id es m))
    | .sub id st es lo m => strP P src dst h K (srcOf h 1 (.sub id st es lo m))
    | _ => False
  | .makeFunc fn first captured => first = #[] ∧ K (.fn fn (captured.toList.map (ev s))) h
  | .makeSlice t l c => match ev s l, ev s c, elemT P t with
    | .raw (.int _ n), .raw (.int _ m), some e => match tyOf P e with
      | some y => n = m ∧ 0 ≤ n ∧ n ≤ 281474976710656 ∧ n * y.bytes ≤ 281474976710656 ∧
          K (.own h.length y.size n.toNat) (h ++ [⟨.row e y.size, (List.replicate n.toNat (y.zero.map AV.raw)).flatten⟩])
      | none => False
    | _, _, _ => False
  | .buildSlice t len ps => match elemT P t with
    | some e => match tyOf P e with
      | some y => len * y.size ≤ 16777216 ∧ (ps.toList.all fun p => ((ev s p.2).cells.all AV.one)) = true ∧
          match fillA (fun i => some (i * y.size, y.size)) (List.replicate len (y.zero.map AV.raw)).flatten (parts s ps.toList) with
          | some cells => K (.own h.length y.size len) (h ++ [⟨.row e y.size, cells⟩])
          | none => False
      | none => False
    | none => False
  | .build t ps => fldsOk P t = true ∧ match tyOf P t with
    | some y => (ps.toList.all fun p => ((ev s p.2).cells.all AV.one)) = true ∧ match fillA (fldOf P t) (y.zero.map AV.raw) (parts s ps.toList) with
      | some cells => K (.agg cells) h
      | none => False
    | none => False
  | .fieldAddr t x f => match ev s x, fldOf P t f with
    | .ptr id st off, some (o, _) => sz h id = some st ∧ K (.ptr id st (off + o)) h
    | _, _ => False
  | .indexAddr t x i => match elemT P t with
    | some e => match tyOf P e, ev s i with
      | some y, .raw (.int _ n) => idxP y.size (ev s x) n fun c => (match c with | .ptr id st _ => sz h id = some st | _ => False) ∧ K c h
      | _, _ => False
    | none => False
  | .index t x i => match ev s x, ev s i with
    | .raw (.string b), .raw (.int _ n) => isStr P t = true ∧ 0 ≤ n ∧ n < b.size ∧ K (.raw (.int .u8 (b.data.toList.getD n.toNat 0).toNat)) h
    | _, _ => False
  | .slice t x lo hi mx => mx = none ∧ match ev s x with
    | .raw (.string b) => isStr P t = true ∧ match lo.map (ev s), hi.map (ev s) with
      | none, none => K (.raw (.string (b.extract 0 b.size))) h
      | some (.raw (.int _ l)), none => 0 ≤ l ∧ l ≤ b.size ∧ K (.raw (.string (b.extract l.toNat b.size))) h
      | none, some (.raw (.int _ u)) => 0 ≤ u ∧ u ≤ b.size ∧ K (.raw (.string (b.extract 0 u.toNat))) h
      | some (.raw (.int _ l)), some (.raw (.int _ u)) => 0 ≤ l ∧ l ≤ u ∧ u ≤ b.size ∧ K (.raw (.string (b.extract l.toNat u.toNat))) h
      | _, _ => False
    | .own id es len => match elemT P t with
      | some e => match tyOf P e with
        | some y => es = y.size ∧ (wr h id (len * es)).map (fun r => r.2.1) = some es ∧ bndP len (lo.map (ev s)) (hi.map (ev s)) fun l u => K (.sub id (len * es) es l (u - l)) h
        | none => False
      | none => False
    | _ => False
  | .extract x i => match ev s x with
    | .tup cs => match cs[i]? with
      | some c => K c h
      | none => False
    | _ => False
  | .call c => match c.callee with
    | .builtin .len => match c.args.toList, c.argTypes.toList with
      | [x], [t] => match ev s x with
        | .raw (.string b) => isStr P t = true ∧ K (.raw (.int .i64 b.size)) h
        | .own id es len => (elemT P t).isSome = true ∧ sz h id = some (len * es) ∧ K (.raw (.int .i64 len)) h
        | .sub id st _ _ len => (elemT P t).isSome = true ∧ sz h id = some st ∧ K (.raw (.int .i64 len)) h
        | .raw (.slice none 0 0) => (elemT P t).isSome = true ∧ K (.raw (.int .i64 0)) h
        | _ => False
      | _, _ => False
    | .builtin .append => match c.args.toList, c.argTypes.toList with
      | [x, y], [t, t'] => t = t' ∧ match elemT P t with
        | some e => match tyOf P e with
          | some ty => match srcOf h ty.size (ev s y) with
            | some (m, news) => appP h e ty (ev s x) m news K
            | none => False
          | none => False
        | none => False
      | _, _ => False
    | .builtin .min => match c.args.toList with
      | [x, y] => match ev s x, ev s y with
        | .raw (.int k a), .raw (.int _ b) => K (.raw (.int k (if b < a then b else a))) h
        | _, _ => False
      | _ => False
    | .builtin .max => match c.args.toList with
      | [x, y] => match ev s x, ev s y with
        | .raw (.int k a), .raw (.int _ b) => K (.raw (.int k (if b > a then b else a))) h
        | _, _ => False
      | _ => False
    | _ => False
  | _ => False

end Go.Ab
