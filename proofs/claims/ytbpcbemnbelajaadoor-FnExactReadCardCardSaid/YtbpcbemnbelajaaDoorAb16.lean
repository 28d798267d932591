/- The machine's code as one formula; helpers for contracts. Plain library text, no statement. -/
import Derived.Test.YtbpcbemnbelajaaDoorAb15
namespace Go.Ab
open Go Go.RowKit

/-- what must hold for the code to end as Q says: all computed but loops (and calls, which ask for contracts) -/
def wpc (P : Program) (n : Nat) (h0 : Heap) : LC → (Exit → S → Heap → Prop) → S → Heap → Prop
  | .nop, Q, s, h => Q .normal s h
  | .reg dr l, Q, s, h => allP P n dr l s h (Q .normal)
  | .tree t, Q, s, h => treeP P n t s h (Q .normal)
  | .seq a b, Q, s, h => wpc P n h0 a (thenQ (wpc P n h0 b Q) Q) s h
  | .ite x a b, Q, s, h => match ev s x with
    | .raw (.bool t) => (t = true → wpc P n h0 a Q s h) ∧ (t = false → wpc P n h0 b Q s h)
    | _ => False
  | .block id c, Q, s, h => wpc P n h0 c (blockQ id Q) s h
  | .loop c, Q, s, h => LW P n h0 (.loop c) Q s h
  | .exit id, Q, s, h => Q (.exit id) s h
  | .ret, Q, s, h => Q .ret s h

section
variable {P : Program} {n : Nat} {h0 h : Heap} {s : S}

theorem lw_of_wpc (hm : P.follows .mixedOrders = true) : ∀ (c : LC) (Q : Exit → S → Heap → Prop) (s : S) (h : Heap), wpc P n h0 c Q s h → LW P n h0 c Q s h := by
  intro c
  induction c with
  | nop => intro Q s h hp; exact lw_nop hp
  | reg dr l => intro Q s h hp; exact lw_reg hm hp
  | tree t => intro Q s h hp; exact lw_tree hm hp
  | seq a b iha ihb =>
    intro Q s h hp
    refine lw_seq ((iha _ s h hp).mono fun e s h hq => ?_)
    cases e with
    | normal => exact ihb Q s h hq
    | _ => exact hq
  | ite x a b iha ihb =>
    intro Q s h hp
    simp only [wpc] at hp
    split at hp
    · rename_i t ht
      exact lw_ite ht (fun h1 => iha Q s h (hp.1 h1)) (fun h1 => ihb Q s h (hp.2 h1))
    · exact hp.elim
  | block id c ih => intro Q s h hp; exact lw_block (ih _ s h hp)
  | loop c ih => intro Q s h hp; exact hp
  | exit id => intro Q s h hp; exact lw_exit hp
  | ret => intro Q s h hp; exact lw_ret hp

theorem AC_wpc (hm : P.follows .mixedOrders = true) {g : FuncId} {c : LC} {m : Nat} {rs : List ResultVar} (hok : FnOk P g c m rs) {args : List AV} {Q : AV → Heap → Prop} (hlen : args.length ≤ m) (H : wpc P m h c (retQ P rs Q) (entry args) h) : AC P g args h Q :=
  AC_of hok hlen (lw_of_wpc hm _ _ _ _ H)

/-- a contract with one outcome, used -/
theorem AC.use {g : FuncId} {args : List AV} {v : AV} {h1 : Heap} {Q : AV → Heap → Prop} (hc : AC P g args h fun c h' => c = v ∧ h' = h1) (hq : Q v h1) : AC P g args h Q :=
  hc.mono fun c h' ⟨e1, e2⟩ => by subst e1; subst e2; exact hq

end

/-! ### the machine with a stack of what is still to do: every step an equation -/

/-- the value of a binary operation -/
def binV : BinOp → AV → AV → Option AV
  | .add, .raw (.int k a), .raw (.int _ b) => some (.raw (.int k (k.wrap (a + b))))
  | .sub, .raw (.int k a), .raw (.int _ b) => some (.raw (.int k (k.wrap (a - b))))
  | .mul, .raw (.int k a), .raw (.int _ b) => some (.raw (.int k (k.wrap (a * b))))
  | .quo, .raw (.int k a), .raw (.int _ b) => some (.raw (.int k (k.wrap (a.tdiv b))))
  | .rem, .raw (.int k a), .raw (.int _ b) => some (.raw (.int k (a.tmod b)))
  | .eql, .raw (.int _ a), .raw (.int _ b) => some (.raw (.bool (a == b)))
  | .neq, .raw (.int _ a), .raw (.int _ b) => some (.raw (.bool (a != b)))
  | .lss, .raw (.int _ a), .raw (.int _ b) => some (.raw (.bool (decide (a < b))))
  | .leq, .raw (.int _ a), .raw (.int _ b) => some (.raw (.bool (decide (a ≤ b))))
  | .gtr, .raw (.int _ a), .raw (.int _ b) => some (.raw (.bool (decide (a > b))))
  | .geq, .raw (.int _ a), .raw (.int _ b) => some (.raw (.bool (decide (a ≥ b))))
  | .and, .raw (.int k a), .raw (.int _ b) => some (.raw (.int k (k.wrap (BitVec.ofInt k.bits a &&& BitVec.ofInt k.bits b).toNat)))
  | .or, .raw (.int k a), .raw (.int _ b) => some (.raw (.int k (k.wrap (BitVec.ofInt k.bits a ||| BitVec.ofInt k.bits b).toNat)))
  | .xor, .raw (.int k a), .raw (.int _ b) => some (.raw (.int k (k.wrap (BitVec.ofInt k.bits a ^^^ BitVec.ofInt k.bits b).toNat)))
  | .shl, .raw (.int k a), .raw (.int _ b) => some (.raw (.int k (k.wrap (a * 2 ^ (min b.toNat k.bits)))))
  | .shr, .raw (.int k a), .raw (.int _ b) => some (.raw (.int k (a.fdiv (2 ^ (min b.toNat k.bits)))))
  | .add, .raw (.string a), .raw (.string b) => some (.raw (.string (a ++ b)))
  | .eql, .raw (.string a), .raw (.string b) => some (.raw (.bool (a.toList == b.toList)))
  | .neq, .raw (.string a), .raw (.string b) => some (.raw (.bool (!(a.toList == b.toList))))
  | .lss, .raw (.string a), .raw (.string b) => some (.raw (.bool (Op.bytesLess a.toList b.toList)))
  | .leq, .raw (.string a), .raw (.string b) => some (.raw (.bool (Op.bytesLess a.toList b.toList || a.toList == b.toList)))
  | .gtr, .raw (.string a), .raw (.string b) => some (.raw (.bool (!(Op.bytesLess a.toList b.toList || a.toList == b.toList))))
  | .geq, .raw (.string a), .raw (.string b) => some (.raw (.bool (!(Op.bytesLess a.toList b.toList))))
  | .eql, .raw (.bool a), .raw (.bool b) => some (.raw (.bool (a == b)))
  | .neq, .raw (.bool a), .raw (.bool b) => some (.raw (.bool (!(a == b))))
  | _, _, _ => none

/-- what a binary operation asks -/
def binC (P : Program) (T : TypeId) : BinOp → AV → AV → Prop
  | .quo, .raw (.int k _), .raw (.int k' b) => k = k' ∧ b ≠ 0
  | .rem, .raw (.int k _), .raw (.int k' b) => k = k' ∧ b ≠ 0
  | .shl, .raw (.int _ _), .raw (.int _ b) => 0 ≤ b
  | .shr, .raw (.int _ _), .raw (.int _ b) => 0 ≤ b
  | _, .raw (.int k _), .raw (.int k' _) => k = k'
  | .add, .raw (.string a), .raw (.string b) => a.size + b.size ≤ 9223372036854775807
  | _, .raw (.string _), .raw (.string _) => True
  | _, .raw (.bool _), .raw (.bool _) => isBool P T = true
  | _, _, _ => False

theorem binP_eq (P : Program) (T : TypeId) (op : BinOp) (x y : AV) (K : AV → Prop) : binP P T op x y K = match binV op x y with
    | some c => binC P T op x y ∧ K c
    | none => False := by
  unfold binP
  split
  · cases op <;> simp [binV, binC, binI, shiftB, and_assoc]
  · cases op <;> simp [binV, binC, binS]
  · cases op <;> simp [binV, binC]
  · rename_i h1 h2 h3
    split
    · rename_i c hc
      exfalso
      unfold binV at hc
      split at hc <;> first
        | (cases hc; done)
        | exact h1 _ _ _ _ rfl rfl
        | exact h2 _ _ rfl rfl
        | exact h3 _ _ rfl rfl
    · rfl

inductive It where
  | code (c : LC)
  | ops (dr : Bool) (l : List LO)
  | tr (t : LT)
  | blk (id : Nat)

def contQ (P : Program) (n : Nat) (h0 : Heap) : List It → (Exit → S → Heap → Prop) → Exit → S → Heap → Prop
  | [], Q => Q
  | .code c :: k, Q => thenQ (wpc P n h0 c (contQ P n h0 k Q)) (contQ P n h0 k Q)
  | .ops dr l :: k, Q => thenQ (fun s h => allP P n dr l s h (contQ P n h0 k Q .normal)) (contQ P n h0 k Q)
  | .tr t :: k, Q => thenQ (fun s h => treeP P n t s h (contQ P n h0 k Q .normal)) (contQ P n h0 k Q)
  | .blk id :: k, Q => blockQ id (contQ P n h0 k Q)

def run (P : Program) (n : Nat) (h0 : Heap) (k : List It) (Q : Exit → S → Heap → Prop) (s : S) (h : Heap) : Prop := contQ P n h0 k Q .normal s h

/-- a test whose outcome is not known yet -/
def brR (P : Program) (n : Nat) (h0 : Heap) (t : Bool) (a b : LC) (k : List It) (Q : Exit → S → Heap → Prop) (s : S) (h : Heap) : Prop :=
  (t = true → run P n h0 (.code a :: k) Q s h) ∧ (t = false → run P n h0 (.code b :: k) Q s h)

/-- a guard whose outcome is not known yet -/
def gdR (P : Program) (n : Nat) (h0 : Heap) (c b : Bool) (dr : Bool) (d : Option Nat) (o : Op) (F : List Operand) (l : List LO) (k : List It) (Q : Exit → S → Heap → Prop) (s : S) (h : Heap) : Prop :=
  if c = b then run P n h0 (.ops dr (⟨d, o, none, F⟩ :: l) :: k) Q s h else putK n d s (fun s h => run P n h0 (.ops dr l :: k) Q s h) (.raw undef) h

def gvR (P : Program) (n : Nat) (h0 : Heap) (v : AV) (b : Bool) (dr : Bool) (d : Option Nat) (o : Op) (F : List Operand) (l : List LO) (k : List It) (Q : Exit → S → Heap → Prop) (s : S) (h : Heap) : Prop := match v with
  | .raw (.bool c) => gdR P n h0 c b dr d o F l k Q s h
  | .raw _ => putK n d s (fun s h => run P n h0 (.ops dr l :: k) Q s h) (.raw undef) h
  | _ => False

/-- a call of a function -/
def clR (P : Program) (n : Nat) (h0 : Heap) (dr : Bool) (d : Option Nat) (f : AV) (args : List AV) (F : List Operand) (l : List LO) (k : List It) (Q : Exit → S → Heap → Prop) (s : S) (h : Heap) : Prop :=
  match f with
  | .fn (.func g) cap => AC P g (args ++ cap) h (fun c h' => (dr = true → KeepL s F h h') ∧ putK n d s (fun s h => run P n h0 (.ops dr l :: k) Q s h) c h')
  | _ => False

/-- where an operation's value goes, and what is still to do -/
structure Cx where
  n : Nat
  h0 : Heap
  dr : Bool
  t : Nat
  l : List LO
  k : List It
  Q : Exit → S → Heap → Prop
  s : S

/-- go on with a value -/
def nx (P : Program) (x : Cx) (h : Heap) (c : AV) : Prop := x.t < x.n ∧ run P x.n x.h0 (.ops x.dr x.l :: x.k) x.Q (upd x.s x.t c) h

def itR (P : Program) (n : Nat) (h0 : Heap) (v : AV) (a b : LC) (k : List It) (Q : Exit → S → Heap → Prop) (s : S) (h : Heap) : Prop := match v with
  | .raw (.bool t) => (t = true → run P n h0 (.code a :: k) Q s h) ∧ (t = false → run P n h0 (.code b :: k) Q s h)
  | _ => False
def pkR (P : Program) (x : Cx) (h : Heap) (v a b : AV) : Prop := match v with
  | .raw (.bool t) => nx P x h (if t then a else b)
  | _ => False
def alR (P : Program) (x : Cx) (h : Heap) (T : TypeId) : Option Ty → Prop
  | some y => nx P x (h ++ [⟨.row T y.size, y.zero.map .raw⟩]) (.ptr h.length y.size 0)
  | none => False
def bxR (P : Program) (x : Cx) (h : Heap) (T : TypeId) (c : AV) : Option Ty → Prop
  | some y => c.cells.length = y.size ∧ c.cells.all AV.one = true ∧ nx P x (h ++ [⟨.row T y.size, c.cells⟩]) (.ptr h.length y.size 0)
  | none => False
def ld3 (P : Program) (x : Cx) (h : Heap) : Option AV → Prop
  | some c => nx P x h c
  | none => False
def ld2 (P : Program) (x : Cx) (h : Heap) (agg : Bool) (size off : Nat) : Option (List AV) → Prop
  | some cells => if agg then off + size ≤ cells.length ∧ nx P x h (.agg ((cells.drop off).take size)) else ld3 P x h cells[off]?
  | none => False
def ldR (P : Program) (x : Cx) (h : Heap) : AV → Option Ty → Prop
  | .ptr id st off, some y => ld2 P x h y.agg y.size off (rd h id st)
  | _, _ => False
def st2 (P : Program) (n : Nat) (h0 : Heap) (dr : Bool) (l : List LO) (k : List It) (Q : Exit → S → Heap → Prop) (s : S) (h : Heap) (id off size : Nat) (c : AV) : Option (TypeId × Nat × List AV) → Prop
  | some (e, es, cells) => c.cells.length = size ∧ c.cells.all AV.one = true ∧ off + size ≤ cells.length ∧
      run P n h0 (.ops dr l :: k) Q s (h.set id ⟨.row e es, cells.take off ++ c.cells ++ cells.drop (off + size)⟩)
  | none => False
def stR (P : Program) (n : Nat) (h0 : Heap) (dr : Bool) (l : List LO) (k : List It) (Q : Exit → S → Heap → Prop) (s : S) (h : Heap) (c : AV) : AV → Option Ty → Prop
  | .ptr id st off, some y => st2 P n h0 dr l k Q s h id off y.size c (wr h id st)
  | _, _ => False
def bnR (P : Program) (x : Cx) (h : Heap) (asks : Prop) : Option AV → Prop
  | some c => asks ∧ nx P x h c
  | none => False
def ntR (P : Program) (x : Cx) (h : Heap) (v : AV) : Prop := match v with
  | .raw (.bool b) => nx P x h (.raw (.bool (!b)))
  | _ => False
def ngR (P : Program) (x : Cx) (h : Heap) (v : AV) : Prop := match v with
  | .raw (.int k m) => nx P x h (.raw (.int k (k.wrap (0 - m))))
  | _ => False
def cv3 (P : Program) (x : Cx) (h : Heap) (A : Prop) : Option (List UInt8) → Prop
  | some bs => A ∧ nx P x h (.raw (.string ⟨bs.toArray⟩))
  | none => False
def cv2 (P : Program) (x : Cx) (h : Heap) (A : Prop) : Option (Nat × List AV) → Prop
  | some (_, news) => cv3 P x h A (bytesA news)
  | none => False
def cvR (P : Program) (x : Cx) (h : Heap) (v : AV) (src dst : TypeId) (a b : Option IntKind) : Prop := match v with
  | .raw (.int _ m) => match a, b with
    | some _, some kk => nx P x h (.raw (.int kk (kk.wrap m)))
    | _, _ => False
  | .own id es m => cv2 P x h (isU8s P src = true ∧ isStr P dst = true) (srcOf h 1 (.own id es m))
  | .sub id st es lo m => cv2 P x h (isU8s P src = true ∧ isStr P dst = true) (srcOf h 1 (.sub id st es lo m))
  | _ => False
def ms2 (P : Program) (x : Cx) (h : Heap) (a b : Int) (e : TypeId) : Option Ty → Prop
  | some ty => a = b ∧ 0 ≤ a ∧ a ≤ 281474976710656 ∧ a * ty.bytes ≤ 281474976710656 ∧
      nx P x (h ++ [⟨.row e ty.size, (List.replicate a.toNat (ty.zero.map AV.raw)).flatten⟩]) (.own h.length ty.size a.toNat)
  | none => False
def msR (P : Program) (x : Cx) (h : Heap) (v u : AV) (e : Option TypeId) : Prop := match v, u, e with
  | .raw (.int _ a), .raw (.int _ b), some e => ms2 P x h a b e (tyOf P e)
  | _, _, _ => False
def bs3 (P : Program) (x : Cx) (h : Heap) (e : TypeId) (size len : Nat) : Option (List AV) → Prop
  | some cells => nx P x (h ++ [⟨.row e size, cells⟩]) (.own h.length size len)
  | none => False
def bs2 (P : Program) (x : Cx) (h : Heap) (e : TypeId) (len : Nat) (ps : List (Nat × Operand)) : Option Ty → Prop
  | some y => len * y.size ≤ 16777216 ∧ (ps.all fun p => ((ev x.s p.2).cells.all AV.one)) = true ∧
      bs3 P x h e y.size len (fillA (fun i => some (i * y.size, y.size)) (List.replicate len (y.zero.map AV.raw)).flatten (parts x.s ps))
  | none => False
def bsR (P : Program) (x : Cx) (h : Heap) (len : Nat) (ps : List (Nat × Operand)) : Option TypeId → Prop
  | some e => bs2 P x h e len ps (tyOf P e)
  | none => False
def bd2 (P : Program) (x : Cx) (h : Heap) : Option (List AV) → Prop
  | some cells => nx P x h (.agg cells)
  | none => False
def bdR (P : Program) (x : Cx) (h : Heap) (T : TypeId) (ps : List (Nat × Operand)) : Option Ty → Prop
  | some y => (ps.all fun p => ((ev x.s p.2).cells.all AV.one)) = true ∧ bd2 P x h (fillA (fldOf P T) (y.zero.map AV.raw) (parts x.s ps))
  | none => False
def faR (P : Program) (x : Cx) (h : Heap) : AV → Option (Nat × Nat) → Prop
  | .ptr id st off, some (o, _) => sz h id = some st ∧ nx P x h (.ptr id st (off + o))
  | _, _ => False
def ix2 (P : Program) (x : Cx) (h : Heap) (size : Nat) (i : Int) : AV → Prop
  | .own id es' len => es' = size ∧ 0 ≤ i ∧ i < len ∧ sz h id = some (len * es') ∧ nx P x h (.ptr id (len * es') (i.toNat * size))
  | .sub id st es' lo len => es' = size ∧ 0 ≤ i ∧ i < len ∧ sz h id = some st ∧ nx P x h (.ptr id st (lo * es' + i.toNat * size))
  | _ => False
def ix1 (P : Program) (x : Cx) (h : Heap) (c v : AV) : Option Ty → Prop
  | some ty => match v with
    | .raw (.int _ i) => ix2 P x h ty.size i c
    | _ => False
  | none => False
def ixR (P : Program) (x : Cx) (h : Heap) (c v : AV) : Option TypeId → Prop
  | some e => ix1 P x h c v (tyOf P e)
  | none => False
def isR (P : Program) (x : Cx) (h : Heap) (str : Bool) (c v : AV) : Prop := match c, v with
  | .raw (.string b), .raw (.int _ i) => str = true ∧ 0 ≤ i ∧ i < b.size ∧ nx P x h (.raw (.int .u8 (b.data.toList.getD i.toNat 0).toNat))
  | _, _ => False
def ex2 (P : Program) (x : Cx) (h : Heap) : Option AV → Prop
  | some c => nx P x h c
  | none => False
def exR (P : Program) (x : Cx) (h : Heap) (i : Nat) (v : AV) : Prop := match v with
  | .tup cs => ex2 P x h cs[i]?
  | _ => False
def sl3 (P : Program) (x : Cx) (h : Heap) (id es len : Nat) (lo hi : Option AV) : Option Ty → Prop
  | some y => es = y.size ∧ (wr h id (len * es)).map (fun r => r.2.1) = some es ∧ bndP len lo hi fun l u => nx P x h (.sub id (len * es) es l (u - l))
  | none => False
def sl2 (P : Program) (x : Cx) (h : Heap) (id es len : Nat) (lo hi : Option AV) : Option TypeId → Prop
  | some e => sl3 P x h id es len lo hi (tyOf P e)
  | none => False
def slR (P : Program) (x : Cx) (h : Heap) (T : TypeId) (str : Bool) (c : AV) (lo hi : Option AV) : Prop := match c with
  | .raw (.string b) => str = true ∧ match lo, hi with
    | none, none => nx P x h (.raw (.string (b.extract 0 b.size)))
    | some (.raw (.int _ u)), none => 0 ≤ u ∧ u ≤ b.size ∧ nx P x h (.raw (.string (b.extract u.toNat b.size)))
    | none, some (.raw (.int _ u)) => 0 ≤ u ∧ u ≤ b.size ∧ nx P x h (.raw (.string (b.extract 0 u.toNat)))
    | some (.raw (.int _ v)), some (.raw (.int _ u)) => 0 ≤ v ∧ v ≤ u ∧ u ≤ b.size ∧ nx P x h (.raw (.string (b.extract v.toNat u.toNat)))
    | _, _ => False
  | .own id es len => sl2 P x h id es len lo hi (elemT P T)
  | _ => False
def lnR (P : Program) (x : Cx) (h : Heap) (T : TypeId) : AV → Prop
  | .raw (.string b) => isStr P T = true ∧ nx P x h (.raw (.int .i64 b.size))
  | .own id es len => (elemT P T).isSome = true ∧ sz h id = some (len * es) ∧ nx P x h (.raw (.int .i64 len))
  | .sub id st _ _ len => (elemT P T).isSome = true ∧ sz h id = some st ∧ nx P x h (.raw (.int .i64 len))
  | .raw (.slice none 0 0) => (elemT P T).isSome = true ∧ nx P x h (.raw (.int .i64 0))
  | _ => False
def ap4 (P : Program) (x : Cx) (h : Heap) (e : TypeId) (id es q m : Nat) (news : List AV) : Option (TypeId × Nat × List AV) → Prop
  | some (e', es', cells) => e' = e ∧ es' = es ∧ nx P x (h.set id ⟨.row e es, cells ++ news⟩) (.own id es (q + m))
  | none => False
def ap3 (P : Program) (x : Cx) (h : Heap) (e : TypeId) (size bytes m : Nat) (news : List AV) : AV → Prop
  | .own id es q => es = size ∧ (q + m) * bytes ≤ 140737488355328 ∧ q + m ≤ 140737488355328 ∧ ap4 P x h e id es q m news (wr h id (q * es))
  | .raw (.slice none 0 0) => m * bytes ≤ 140737488355328 ∧ m ≤ 140737488355328 ∧ nx P x (h ++ [⟨.row e size, news⟩]) (.own h.length size m)
  | _ => False
def ap2 (P : Program) (x : Cx) (h : Heap) (e : TypeId) (size bytes : Nat) (c : AV) : Option (Nat × List AV) → Prop
  | some (m, news) => ap3 P x h e size bytes m news c
  | none => False
def ap1 (P : Program) (x : Cx) (h : Heap) (e : TypeId) (c d : AV) : Option Ty → Prop
  | some ty => ap2 P x h e ty.size ty.bytes c (srcOf h ty.size d)
  | none => False
def apR (P : Program) (x : Cx) (h : Heap) (c d : AV) : Option TypeId → Prop
  | some e => ap1 P x h e c d (tyOf P e)
  | none => False
def mnR (P : Program) (x : Cx) (h : Heap) (c d : AV) : Prop := match c, d with
  | .raw (.int kk a), .raw (.int _ b) => nx P x h (.raw (.int kk (if b < a then b else a)))
  | _, _ => False
def mxR (P : Program) (x : Cx) (h : Heap) (c d : AV) : Prop := match c, d with
  | .raw (.int kk a), .raw (.int _ b) => nx P x h (.raw (.int kk (if b > a then b else a)))
  | _, _ => False
def ncR (P : Program) (x : Cx) (h : Heap) : AV → Prop
  | .ptr id st off => (sz h id).isSome = true ∧ sz h id = some st ∧ nx P x h (.ptr id st off)
  | .fn (.func f) cs => nx P x h (.fn (.func f) cs)
  | _ => False
/-- where a struct result is read -/
def rc2 (s : Bool) (size off : Nat) (K : AV → Prop) : Option (List AV) → Prop
  | some cells => if s then off + size ≤ cells.length ∧ K (.agg ((cells.drop off).take size)) else match cells[off]? with
    | some c => K c
    | none => False
  | none => False
def rcR (h : Heap) (K : AV → Prop) : AV → Option Ty → Prop
  | .ptr id st off, some y => rc2 y.agg y.size off K (rd h id st)
  | _, _ => False

section
variable {P : Program} {n : Nat} {h0 h : Heap} {s : S} {Q : Exit → S → Heap → Prop} {k : List It} {dr : Bool} {l : List LO} {d : Option Nat}

theorem run_nil : run P n h0 [] Q s h = Q .normal s h := rfl
theorem run_nop : run P n h0 (.code .nop :: k) Q s h = run P n h0 k Q s h := rfl
theorem run_reg : run P n h0 (.code (.reg dr l) :: k) Q s h = run P n h0 (.ops dr l :: k) Q s h := rfl
theorem run_seq {a b : LC} : run P n h0 (.code (.seq a b) :: k) Q s h = run P n h0 (.code a :: .code b :: k) Q s h := rfl
theorem run_block {id : Nat} {c : LC} : run P n h0 (.code (.block id c) :: k) Q s h = run P n h0 (.code c :: .blk id :: k) Q s h := rfl
theorem run_blk {id : Nat} : run P n h0 (.blk id :: k) Q s h = run P n h0 k Q s h := rfl
theorem run_exit {id : Nat} : run P n h0 (.code (.exit id) :: k) Q s h = contQ P n h0 k Q (.exit id) s h := rfl
theorem run_ret : run P n h0 (.code .ret :: k) Q s h = contQ P n h0 k Q .ret s h := rfl
theorem run_loop {c : LC} : run P n h0 (.code (.loop c) :: k) Q s h = LW P n h0 (.loop c) (contQ P n h0 k Q) s h := rfl
theorem run_ops_nil : run P n h0 (.ops dr [] :: k) Q s h = run P n h0 k Q s h := rfl
theorem run_tree {t : LT} : run P n h0 (.code (.tree t) :: k) Q s h = run P n h0 (.tr t :: k) Q s h := rfl
theorem run_tr_fin : run P n h0 (.tr .fin :: k) Q s h = run P n h0 k Q s h := rfl
theorem run_tr_op {o : LO} {r : LT} : run P n h0 (.tr (.op o r) :: k) Q s h = run P n h0 (.ops true [o] :: .tr r :: k) Q s h := rfl
/-- both of two orders -/
theorem run_alt {a b : LT} (h1 : run P n h0 (.tr a :: k) Q s h) (h2 : run P n h0 (.tr b :: k) Q s h) : run P n h0 (.tr (.alt a b) :: k) Q s h := ⟨h1, h2⟩
theorem exit_tr {id : Nat} {t : LT} : contQ P n h0 (.tr t :: k) Q (.exit id) s h = contQ P n h0 k Q (.exit id) s h := rfl
theorem ret_tr {t : LT} : contQ P n h0 (.tr t :: k) Q .ret s h = contQ P n h0 k Q .ret s h := rfl
theorem exit_nil {id : Nat} : contQ P n h0 [] Q (.exit id) s h = Q (.exit id) s h := rfl
theorem exit_code {id : Nat} {c : LC} : contQ P n h0 (.code c :: k) Q (.exit id) s h = contQ P n h0 k Q (.exit id) s h := rfl
theorem exit_ops {id : Nat} : contQ P n h0 (.ops dr l :: k) Q (.exit id) s h = contQ P n h0 k Q (.exit id) s h := rfl
theorem exit_blk {id id' : Nat} : contQ P n h0 (.blk id' :: k) Q (.exit id) s h = if id = id' then run P n h0 k Q s h else contQ P n h0 k Q (.exit id) s h := rfl
theorem ret_nil : contQ P n h0 [] Q .ret s h = Q .ret s h := rfl
theorem ret_code {c : LC} : contQ P n h0 (.code c :: k) Q .ret s h = contQ P n h0 k Q .ret s h := rfl
theorem ret_ops : contQ P n h0 (.ops dr l :: k) Q .ret s h = contQ P n h0 k Q .ret s h := rfl
theorem ret_blk {id' : Nat} : contQ P n h0 (.blk id' :: k) Q .ret s h = contQ P n h0 k Q .ret s h := rfl
theorem thenQ_normal {K : S → Heap → Prop} : thenQ K Q .normal s h = K s h := rfl
theorem thenQ_exit {K : S → Heap → Prop} {id : Nat} : thenQ K Q (.exit id) s h = Q (.exit id) s h := rfl
theorem thenQ_ret {K : S → Heap → Prop} : thenQ K Q .ret s h = Q .ret s h := rfl
theorem normal_run : contQ P n h0 k Q .normal s h = run P n h0 k Q s h := rfl
theorem retQ_ret {rs : List ResultVar} {R : AV → Heap → Prop} : retQ P rs R .ret s h = retP P rs s h fun c => R c h := rfl
theorem retQ_normal {rs : List ResultVar} {R : AV → Heap → Prop} : retQ P rs R .normal s h = retP P rs s h fun c => R c h := rfl
theorem retP_one {t : Nat} {K : AV → Prop} : retP P [.tmp t] s h K = K (s t) := rfl
theorem retP_cell {t : Nat} {T : TypeId} {K : AV → Prop} : retP P [.cell t T] s h K = rcR h K (s t) (tyOf P T) := by
  simp only [retP, resAll, resP, List.nil_append, List.append_nil, List.cons_append, opP, ev]
  unfold rcR rc2
  rfl
theorem retP_two {t u : Nat} {K : AV → Prop} : retP P [.tmp t, .tmp u] s h K = K (.tup [s t, s u]) := rfl
theorem retP_three {t u v : Nat} {K : AV → Prop} : retP P [.tmp t, .tmp u, .tmp v] s h K = K (.tup [s t, s u, s v]) := rfl
theorem retP_cell_tmp {t u : Nat} {T : TypeId} {K : AV → Prop} : retP P [.cell t T, .tmp u] s h K = rcR h (fun c => K (.tup [c, s u])) (s t) (tyOf P T) := by
  simp only [retP, resAll, resP, List.nil_append, List.append_nil, List.cons_append, opP, ev]
  unfold rcR rc2
  rfl
theorem run_ite {x : Operand} {a b : LC} : run P n h0 (.code (.ite x a b) :: k) Q s h = itR P n h0 (ev s x) a b k Q s h := rfl
theorem it_bool {t : Bool} {a b : LC} : itR P n h0 (.raw (.bool t)) a b k Q s h = brR P n h0 t a b k Q s h := rfl
theorem br_true {a b : LC} : brR P n h0 true a b k Q s h = run P n h0 (.code a :: k) Q s h := by simp [brR]
theorem br_false {a b : LC} : brR P n h0 false a b k Q s h = run P n h0 (.code b :: k) Q s h := by simp [brR]
theorem br_split {t : Bool} {a b : LC} (h1 : t = true → run P n h0 (.code a :: k) Q s h) (h2 : t = false → run P n h0 (.code b :: k) Q s h) : brR P n h0 t a b k Q s h := ⟨h1, h2⟩

theorem run_fl_store {T : TypeId} {x v : Operand} {g : Option (Nat × Bool)} {y : Operand} {f : List Operand} : run P n h0 (.ops dr (⟨d, .store T x v, g, y :: f⟩ :: l) :: k) Q s h = (ApartF s (.store T x v) (y :: f) ∧ run P n h0 (.ops dr (⟨d, .store T x v, g, []⟩ :: l) :: k) Q s h) := rfl
theorem run_fl_blt {b : Builtin} {xs : Array Operand} {tys : Array TypeId} {g : Option (Nat × Bool)} {y : Operand} {f : List Operand} : run P n h0 (.ops dr (⟨d, .call ⟨.builtin b, xs, tys⟩, g, y :: f⟩ :: l) :: k) Q s h = (ApartF s (.call ⟨.builtin b, xs, tys⟩) (y :: f) ∧ run P n h0 (.ops dr (⟨d, .call ⟨.builtin b, xs, tys⟩, g, []⟩ :: l) :: k) Q s h) := rfl
theorem apart_store {T : TypeId} {x v : Operand} {f : List Operand} : ApartF s (.store T x v) f = ApartV (ev s x) (f.map (ev s)) := rfl
theorem apart_append {b : Builtin} {x : Operand} {xs : List Operand} {tys : Array TypeId} {f : List Operand} : ApartF s (.call ⟨.builtin b, (x :: xs).toArray, tys⟩) f = ApartV (ev s x) (f.map (ev s)) := rfl
theorem apv_ptr {id st off : Nat} {m : List AV} : ApartV (.ptr id st off) m = ApartL id m := rfl
theorem apv_own {id es len : Nat} {m : List AV} : ApartV (.own id es len) m = ApartL id m := rfl
theorem apv_raw {v : Value} {m : List AV} : ApartV (.raw v) m = True := rfl
theorem apl_nil {id : Nat} : ApartL id [] = True := rfl
theorem apl_ptr {id id' st off : Nat} {m : List AV} : ApartL id (.ptr id' st off :: m) = (id' ≠ id ∧ ApartL id m) := rfl
theorem apl_own {id id' es len : Nat} {m : List AV} : ApartL id (.own id' es len :: m) = (id' ≠ id ∧ ApartL id m) := rfl
theorem apl_sub {id id' st es lo len : Nat} {m : List AV} : ApartL id (.sub id' st es lo len :: m) = (id' ≠ id ∧ ApartL id m) := rfl
theorem apl_raw {id : Nat} {v : Value} {m : List AV} : ApartL id (.raw v :: m) = ApartL id m := rfl
theorem apl_dead {id : Nat} {m : List AV} : ApartL id (.dead :: m) = ApartL id m := rfl
theorem apl_agg {id : Nat} {cs : List AV} {m : List AV} : ApartL id (.agg cs :: m) = ApartL id m := rfl
theorem apl_tup {id : Nat} {cs : List AV} {m : List AV} : ApartL id (.tup cs :: m) = ApartL id m := rfl
theorem apl_fn {id : Nat} {f : Fn} {cs : List AV} {m : List AV} : ApartL id (.fn f cs :: m) = ApartL id m := rfl
theorem new_ne {m : Nat} {j : Nat} : (m = m + (j + 1)) = False := by simp
theorem new_ne' {m : Nat} {j : Nat} : (m + (j + 1) = m) = False := by simp

theorem run_guard {o : Op} {g : Nat} {b : Bool} : run P n h0 (.ops dr (⟨d, o, some (g, b), []⟩ :: l) :: k) Q s h =
    (g < n ∧ gvR P n h0 (s g) b dr d o [] l k Q s h) := rfl
theorem run_guardf {x : Operand} {args : Array Operand} {tys : Array TypeId} {g : Nat} {b : Bool} {y : Operand} {F : List Operand} : run P n h0 (.ops dr (⟨d, .call ⟨.value x, args, tys⟩, some (g, b), y :: F⟩ :: l) :: k) Q s h =
    (g < n ∧ gvR P n h0 (s g) b dr d (.call ⟨.value x, args, tys⟩) (y :: F) l k Q s h) := rfl
section
variable {F : List Operand}
theorem gv_bool {c b : Bool} {o : Op} : gvR P n h0 (.raw (.bool c)) b dr d o F l k Q s h = gdR P n h0 c b dr d o F l k Q s h := rfl
theorem gv_undef {b : Bool} {o : Op} {t : Nat} : gvR P n h0 (.raw undef) b dr (some t) o F l k Q s h = (t < n ∧ run P n h0 (.ops dr l :: k) Q (upd s t (.raw undef)) h) := rfl
theorem gd_tt {o : Op} : gdR P n h0 true true dr d o F l k Q s h = run P n h0 (.ops dr (⟨d, o, none, F⟩ :: l) :: k) Q s h := by simp [gdR]
theorem gd_ff {o : Op} : gdR P n h0 false false dr d o F l k Q s h = run P n h0 (.ops dr (⟨d, o, none, F⟩ :: l) :: k) Q s h := by simp [gdR]
theorem gd_tf {o : Op} {t : Nat} : gdR P n h0 true false dr (some t) o F l k Q s h = (t < n ∧ run P n h0 (.ops dr l :: k) Q (upd s t (.raw undef)) h) := by simp [gdR, putK]
theorem gd_ft {o : Op} {t : Nat} : gdR P n h0 false true dr (some t) o F l k Q s h = (t < n ∧ run P n h0 (.ops dr l :: k) Q (upd s t (.raw undef)) h) := by simp [gdR, putK]
theorem gd_split {c b : Bool} {o : Op} (h1 : c = true → gdR P n h0 true b dr d o F l k Q s h) (h2 : c = false → gdR P n h0 false b dr d o F l k Q s h) : gdR P n h0 c b dr d o F l k Q s h := by
  cases c
  · exact h2 rfl
  · exact h1 rfl

theorem run_call {f : Operand} {args : List Operand} {tys : Array TypeId} : run P n h0 (.ops dr (⟨d, .call ⟨.value f, args.toArray, tys⟩, none, []⟩ :: l) :: k) Q s h =
    clR P n h0 dr d (ev s f) (args.map (ev s)) [] l k Q s h := rfl
theorem run_callf {f : Operand} {args : List Operand} {tys : Array TypeId} {y : Operand} : run P n h0 (.ops dr (⟨d, .call ⟨.value f, args.toArray, tys⟩, none, y :: F⟩ :: l) :: k) Q s h =
    clR P n h0 dr d (ev s f) (args.map (ev s)) (y :: F) l k Q s h := rfl

theorem keepL_sub {h1 : Heap} (hs : h.sub h1) : KeepL s F h h1 := fun _ _ => KeepR.of_sub hs
theorem cl_useK {g : FuncId} {args cap : List AV} {v : AV} {h1 : Heap} {t : Nat} (hc : AC P g (args ++ cap) h fun c h' => c = v ∧ h' = h1) (hs : dr = true → KeepL s F h h1) (hq : t < n ∧ run P n h0 (.ops dr l :: k) Q (upd s t v) h1) :
    clR P n h0 dr (some t) (.fn (.func g) cap) args F l k Q s h := by
  unfold clR
  exact hc.use ⟨hs, hq⟩
theorem cl_use {g : FuncId} {args : List AV} {v : AV} {h1 : Heap} {t : Nat} (hc : AC P g args h fun c h' => c = v ∧ h' = h1) (hs : dr = true → h.sub h1) (hq : t < n ∧ run P n h0 (.ops dr l :: k) Q (upd s t v) h1) :
    clR P n h0 dr (some t) (.fn (.func g) []) args F l k Q s h :=
  cl_useK (by rw [List.append_nil]; exact hc) (fun hd => keepL_sub (hs hd)) hq
theorem cl_use_cap {g : FuncId} {args cap : List AV} {v : AV} {h1 : Heap} {t : Nat} (hc : AC P g (args ++ cap) h fun c h' => c = v ∧ h' = h1) (hs : dr = true → h.sub h1) (hq : t < n ∧ run P n h0 (.ops dr l :: k) Q (upd s t v) h1) :
    clR P n h0 dr (some t) (.fn (.func g) cap) args F l k Q s h := cl_useK hc (fun hd => keepL_sub (hs hd)) hq
/-- the heap stays -/
theorem cl_same {g : FuncId} {args : List AV} {v : AV} {t : Nat} (hc : AC P g args h fun c h' => c = v ∧ h' = h) (hq : t < n ∧ run P n h0 (.ops dr l :: k) Q (upd s t v) h) :
    clR P n h0 dr (some t) (.fn (.func g) []) args F l k Q s h := cl_use hc (fun _ => Heap.sub_refl h) hq
/-- rows have come -/
theorem cl_more {g : FuncId} {args : List AV} {v : AV} {t : Nat} {ext : Heap} (hc : AC P g args h fun c h' => c = v ∧ h' = h ++ ext) (hq : t < n ∧ run P n h0 (.ops dr l :: k) Q (upd s t v) (h ++ ext)) :
    clR P n h0 dr (some t) (.fn (.func g) []) args F l k Q s h := cl_use hc (fun _ => Heap.sub_append h ext) hq
/-- one row is set -/
theorem keepL_set {id : Nat} {b : Blk} (ha : ApartL id (F.map (ev s))) : KeepL s F h (List.set h id b) := fun _ hx => keep_set ha (List.mem_map_of_mem hx)
end

section ops
variable {t : Nat} {x y z : Operand} {T : TypeId}
theorem nx_run {c : AV} : nx P ⟨n, h0, dr, t, l, k, Q, s⟩ h c = (t < n ∧ run P n h0 (.ops dr l :: k) Q (upd s t c) h) := rfl
theorem run_move : run P n h0 (.ops dr (⟨some t, .move x, none, []⟩ :: l) :: k) Q s h = nx P ⟨n, h0, dr, t, l, k, Q, s⟩ h (ev s x) := rfl
theorem run_assign : run P n h0 (.ops dr (⟨some t, .assign x, none, []⟩ :: l) :: k) Q s h = nx P ⟨n, h0, dr, t, l, k, Q, s⟩ h (ev s x) := rfl
theorem run_pick : run P n h0 (.ops dr (⟨some t, .pick x y z, none, []⟩ :: l) :: k) Q s h = pkR P ⟨n, h0, dr, t, l, k, Q, s⟩ h (ev s x) (ev s y) (ev s z) := rfl
theorem pk_true {X : Cx} {a b : AV} : pkR P X h (.raw (.bool true)) a b = nx P X h a := rfl
theorem pk_false {X : Cx} {a b : AV} : pkR P X h (.raw (.bool false)) a b = nx P X h b := rfl
theorem pk_bools {X : Cx} {c a b : Bool} : pkR P X h (.raw (.bool c)) (.raw (.bool a)) (.raw (.bool b)) = nx P X h (.raw (.bool (if c then a else b))) := by cases c <;> rfl
theorem run_alloc : run P n h0 (.ops dr (⟨some t, .alloc T, none, []⟩ :: l) :: k) Q s h = alR P ⟨n, h0, dr, t, l, k, Q, s⟩ h T (tyOf P T) := by
  show opP P s h (.alloc T) _ = _
  simp only [opP]; unfold alR; rfl
theorem al_some {X : Cx} {a b : Nat} {g : Bool} {z : List Value} : alR P X h T (some ⟨a, g, z, b⟩) = nx P X (h ++ [⟨.row T a, z.map .raw⟩]) (.ptr h.length a 0) := rfl
theorem run_box : run P n h0 (.ops dr (⟨some t, .box T x, none, []⟩ :: l) :: k) Q s h = bxR P ⟨n, h0, dr, t, l, k, Q, s⟩ h T (ev s x) (tyOf P T) := by
  show opP P s h (.box T x) _ = _
  simp only [opP]; unfold bxR; rfl
theorem bx_some {X : Cx} {c : AV} {a b : Nat} {g : Bool} {z : List Value} : bxR P X h T c (some ⟨a, g, z, b⟩) = (c.cells.length = a ∧ c.cells.all AV.one = true ∧ nx P X (h ++ [⟨.row T a, c.cells⟩]) (.ptr h.length a 0)) := rfl
theorem run_load : run P n h0 (.ops dr (⟨some t, .load T x, none, []⟩ :: l) :: k) Q s h = ldR P ⟨n, h0, dr, t, l, k, Q, s⟩ h (ev s x) (tyOf P T) := by
  show opP P s h (.load T x) _ = _
  simp only [opP]; unfold ldR ld2 ld3; rfl
theorem ld_ptr {X : Cx} {id st off a b : Nat} {g : Bool} {z : List Value} : ldR P X h (.ptr id st off) (some ⟨a, g, z, b⟩) = ld2 P X h g a off (rd h id st) := rfl
theorem ld_agg {X : Cx} {size off : Nat} {cells : List AV} : ld2 P X h true size off (some cells) = (off + size ≤ cells.length ∧ nx P X h (.agg ((cells.drop off).take size))) := rfl
theorem ld_one {X : Cx} {size off : Nat} {cells : List AV} : ld2 P X h false size off (some cells) = ld3 P X h cells[off]? := rfl
theorem ld_some {X : Cx} {c : AV} : ld3 P X h (some c) = nx P X h c := rfl
theorem run_store : run P n h0 (.ops dr (⟨none, .store T x y, none, []⟩ :: l) :: k) Q s h = stR P n h0 dr l k Q s h (ev s y) (ev s x) (tyOf P T) := by
  show opP P s h (.store T x y) _ = _
  simp only [opP]; unfold stR st2; rfl
theorem st_ptr {c : AV} {id st off a b : Nat} {g : Bool} {z : List Value} : stR P n h0 dr l k Q s h c (.ptr id st off) (some ⟨a, g, z, b⟩) = st2 P n h0 dr l k Q s h id off a c (wr h id st) := rfl
theorem st_some {c : AV} {id off size : Nat} {e : TypeId} {es : Nat} {cells : List AV} : st2 P n h0 dr l k Q s h id off size c (some (e, es, cells)) = (c.cells.length = size ∧ c.cells.all AV.one = true ∧ off + size ≤ cells.length ∧
      run P n h0 (.ops dr l :: k) Q s (List.set h id ⟨.row e es, cells.take off ++ c.cells ++ cells.drop (off + size)⟩)) := rfl
theorem run_bin {op : BinOp} {ty : TypeId} : run P n h0 (.ops dr (⟨some t, .binOp op T x y ty, none, []⟩ :: l) :: k) Q s h = bnR P ⟨n, h0, dr, t, l, k, Q, s⟩ h (binC P T op (ev s x) (ev s y)) (binV op (ev s x) (ev s y)) := by
  show binP P T op (ev s x) (ev s y) _ = _
  rw [binP_eq]; unfold bnR; rfl
theorem bn_some {X : Cx} {A : Prop} {c : AV} : bnR P X h A (some c) = (A ∧ nx P X h c) := rfl
theorem run_not : run P n h0 (.ops dr (⟨some t, .unOp .not T x, none, []⟩ :: l) :: k) Q s h = ntR P ⟨n, h0, dr, t, l, k, Q, s⟩ h (ev s x) := by
  show opP P s h (.unOp .not T x) _ = _
  simp only [opP]; unfold ntR
  cases ev s x <;> first | rfl | (rename_i v; cases v <;> rfl)
theorem nt_bool {X : Cx} {b : Bool} : ntR P X h (.raw (.bool b)) = nx P X h (.raw (.bool (!b))) := rfl
theorem run_neg : run P n h0 (.ops dr (⟨some t, .unOp .neg T x, none, []⟩ :: l) :: k) Q s h = ngR P ⟨n, h0, dr, t, l, k, Q, s⟩ h (ev s x) := by
  show opP P s h (.unOp .neg T x) _ = _
  simp only [opP]; unfold ngR
  cases ev s x <;> first | rfl | (rename_i v; cases v <;> rfl)
theorem ng_int {X : Cx} {kk : IntKind} {m : Int} : ngR P X h (.raw (.int kk m)) = nx P X h (.raw (.int kk (kk.wrap (0 - m)))) := rfl
theorem run_convert {src dst : TypeId} : run P n h0 (.ops dr (⟨some t, .convert src dst x, none, []⟩ :: l) :: k) Q s h = cvR P ⟨n, h0, dr, t, l, k, Q, s⟩ h (ev s x) src dst (intK P src) (intK P dst) := by
  show opP P s h (.convert src dst x) _ = _
  simp only [opP]; unfold cvR
  have key : ∀ o, strP P src dst h (putK n (some t) s fun s h => allP P n dr l s h (contQ P n h0 k Q .normal)) o = cv2 P ⟨n, h0, dr, t, l, k, Q, s⟩ h (isU8s P src = true ∧ isStr P dst = true) o := by
    intro o
    unfold strP cv2
    rcases o with _ | ⟨m, news⟩
    · rfl
    · dsimp only
      unfold cv3
      cases bytesA news with
      | none => rfl
      | some bs => simp only [and_assoc]; rfl
  cases ev s x <;> first | rfl | exact key _ | (rename_i v; cases v <;> rfl)
theorem cv_int {X : Cx} {k1 k2 kk : IntKind} {m : Int} {src dst : TypeId} : cvR P X h (.raw (.int kk m)) src dst (some k1) (some k2) = nx P X h (.raw (.int k2 (k2.wrap m))) := rfl
theorem cv_own {X : Cx} {id es m : Nat} {src dst : TypeId} {a b : Option IntKind} : cvR P X h (.own id es m) src dst a b = cv2 P X h (isU8s P src = true ∧ isStr P dst = true) (srcOf h 1 (.own id es m)) := rfl
theorem cv_sub {X : Cx} {id st es lo m : Nat} {src dst : TypeId} {a b : Option IntKind} : cvR P X h (.sub id st es lo m) src dst a b = cv2 P X h (isU8s P src = true ∧ isStr P dst = true) (srcOf h 1 (.sub id st es lo m)) := rfl
theorem cv_two {X : Cx} {A : Prop} {m : Nat} {news : List AV} : cv2 P X h A (some (m, news)) = cv3 P X h A (bytesA news) := rfl
theorem cv_three {X : Cx} {A : Prop} {bs : List UInt8} : cv3 P X h A (some bs) = (A ∧ nx P X h (.raw (.string ⟨bs.toArray⟩))) := rfl
theorem run_makeFunc {fn : Fn} {captured : Array Operand} : run P n h0 (.ops dr (⟨some t, .makeFunc fn #[] captured, none, []⟩ :: l) :: k) Q s h = nx P ⟨n, h0, dr, t, l, k, Q, s⟩ h (.fn fn (captured.toList.map (ev s))) := by
  show (_ ∧ _) = _
  rw [eq_self, true_and]
  rfl
theorem run_makeSlice : run P n h0 (.ops dr (⟨some t, .makeSlice T x y, none, []⟩ :: l) :: k) Q s h = msR P ⟨n, h0, dr, t, l, k, Q, s⟩ h (ev s x) (ev s y) (elemT P T) := by
  show opP P s h (.makeSlice T x y) _ = _
  simp only [opP]; unfold msR ms2; rfl
theorem ms_some {X : Cx} {k1 k2 : IntKind} {a b : Int} {e : TypeId} : msR P X h (.raw (.int k1 a)) (.raw (.int k2 b)) (some e) = ms2 P X h a b e (tyOf P e) := rfl
theorem ms_ty {X : Cx} {a b : Int} {e : TypeId} {sz by_ : Nat} {g : Bool} {z : List Value} : ms2 P X h a b e (some ⟨sz, g, z, by_⟩) = (a = b ∧ 0 ≤ a ∧ a ≤ 281474976710656 ∧ a * by_ ≤ 281474976710656 ∧
      nx P X (h ++ [⟨.row e sz, (List.replicate a.toNat (z.map AV.raw)).flatten⟩]) (.own h.length sz a.toNat)) := rfl
theorem run_buildSlice {len : Nat} {ps : List (Nat × Operand)} : run P n h0 (.ops dr (⟨some t, .buildSlice T len ps.toArray, none, []⟩ :: l) :: k) Q s h = bsR P ⟨n, h0, dr, t, l, k, Q, s⟩ h len ps (elemT P T) := by
  show opP P s h (.buildSlice T len ps.toArray) _ = _
  simp only [opP]; unfold bsR bs2 bs3; rfl
theorem bs_some {X : Cx} {len : Nat} {ps : List (Nat × Operand)} {e : TypeId} : bsR P X h len ps (some e) = bs2 P X h e len ps (tyOf P e) := rfl
theorem bs_ty {len : Nat} {ps : List (Nat × Operand)} {e : TypeId} {sz by_ : Nat} {g : Bool} {z : List Value} : bs2 P ⟨n, h0, dr, t, l, k, Q, s⟩ h e len ps (some ⟨sz, g, z, by_⟩) = (len * sz ≤ 16777216 ∧ (ps.all fun p => ((ev s p.2).cells.all AV.one)) = true ∧
      bs3 P ⟨n, h0, dr, t, l, k, Q, s⟩ h e sz len (fillA (fun i => some (i * sz, sz)) (List.replicate len (z.map AV.raw)).flatten (parts s ps))) := rfl
theorem bs_fill {X : Cx} {e : TypeId} {size len : Nat} {cells : List AV} : bs3 P X h e size len (some cells) = nx P X (h ++ [⟨.row e size, cells⟩]) (.own h.length size len) := rfl
theorem run_build {ps : List (Nat × Operand)} : run P n h0 (.ops dr (⟨some t, .build T ps.toArray, none, []⟩ :: l) :: k) Q s h = (fldsOk P T = true ∧ bdR P ⟨n, h0, dr, t, l, k, Q, s⟩ h T ps (tyOf P T)) := by
  show opP P s h (.build T ps.toArray) _ = _
  simp only [opP]; unfold bdR bd2; rfl
theorem bd_some {ps : List (Nat × Operand)} {sz by_ : Nat} {g : Bool} {z : List Value} : bdR P ⟨n, h0, dr, t, l, k, Q, s⟩ h T ps (some ⟨sz, g, z, by_⟩) = ((ps.all fun p => ((ev s p.2).cells.all AV.one)) = true ∧ bd2 P ⟨n, h0, dr, t, l, k, Q, s⟩ h (fillA (fldOf P T) (z.map AV.raw) (parts s ps))) := rfl
theorem bd_fill {X : Cx} {cells : List AV} : bd2 P X h (some cells) = nx P X h (.agg cells) := rfl
theorem run_fieldAddr {f : Nat} : run P n h0 (.ops dr (⟨some t, .fieldAddr T x f, none, []⟩ :: l) :: k) Q s h = faR P ⟨n, h0, dr, t, l, k, Q, s⟩ h (ev s x) (fldOf P T f) := by
  show opP P s h (.fieldAddr T x f) _ = _
  simp only [opP]; unfold faR; rfl
theorem fa_some {X : Cx} {id st off o m : Nat} : faR P X h (.ptr id st off) (some (o, m)) = (sz h id = some st ∧ nx P X h (.ptr id st (off + o))) := rfl
theorem run_indexAddr : run P n h0 (.ops dr (⟨some t, .indexAddr T x y, none, []⟩ :: l) :: k) Q s h = ixR P ⟨n, h0, dr, t, l, k, Q, s⟩ h (ev s x) (ev s y) (elemT P T) := by
  show opP P s h (.indexAddr T x y) _ = _
  simp only [opP]; unfold ixR ix1 ix2
  generalize elemT P T = E
  rcases E with _ | e
  · rfl
  · dsimp only
    generalize tyOf P e = Y
    generalize ev s y = V
    generalize ev s x = C
    rcases Y with _ | ty
    · cases V with
      | raw v => cases v <;> rfl
      | _ => rfl
    · cases V with
      | raw v =>
        cases v <;> first | rfl | skip
        all_goals (cases C <;> rfl)
      | _ => rfl
theorem ix_some {X : Cx} {c v : AV} {e : TypeId} : ixR P X h c v (some e) = ix1 P X h c v (tyOf P e) := rfl
theorem ix_ty {X : Cx} {c : AV} {kk : IntKind} {i : Int} {sz by_ : Nat} {g : Bool} {z : List Value} : ix1 P X h c (.raw (.int kk i)) (some ⟨sz, g, z, by_⟩) = ix2 P X h sz i c := rfl
theorem ix_own {X : Cx} {size id es' len : Nat} {i : Int} : ix2 P X h size i (.own id es' len) = (es' = size ∧ 0 ≤ i ∧ i < len ∧ sz h id = some (len * es') ∧ nx P X h (.ptr id (len * es') (i.toNat * size))) := rfl
theorem ix_sub {X : Cx} {size id st es' lo len : Nat} {i : Int} : ix2 P X h size i (.sub id st es' lo len) = (es' = size ∧ 0 ≤ i ∧ i < len ∧ sz h id = some st ∧ nx P X h (.ptr id st (lo * es' + i.toNat * size))) := rfl
theorem run_index : run P n h0 (.ops dr (⟨some t, .index T x y, none, []⟩ :: l) :: k) Q s h = isR P ⟨n, h0, dr, t, l, k, Q, s⟩ h (isStr P T) (ev s x) (ev s y) := by
  show opP P s h (.index T x y) _ = _
  simp only [opP]; unfold isR; rfl
theorem is_str {X : Cx} {b : ByteArray} {kk : IntKind} {i : Int} : isR P X h true (.raw (.string b)) (.raw (.int kk i)) = (0 ≤ i ∧ i < b.size ∧ nx P X h (.raw (.int .u8 (b.data.toList.getD i.toNat 0).toNat))) := by simp [isR]
theorem run_extract {i : Nat} : run P n h0 (.ops dr (⟨some t, .extract x i, none, []⟩ :: l) :: k) Q s h = exR P ⟨n, h0, dr, t, l, k, Q, s⟩ h i (ev s x) := by
  show opP P s h (.extract x i) _ = _
  simp only [opP]; unfold exR ex2; rfl
theorem ex_tup {X : Cx} {i : Nat} {cs : List AV} : exR P X h i (.tup cs) = ex2 P X h cs[i]? := rfl
theorem ex_some {X : Cx} {c : AV} : ex2 P X h (some c) = nx P X h c := rfl
theorem run_slice {lo hi : Option Operand} : run P n h0 (.ops dr (⟨some t, .slice T x lo hi none, none, []⟩ :: l) :: k) Q s h = slR P ⟨n, h0, dr, t, l, k, Q, s⟩ h T (isStr P T) (ev s x) (lo.map (ev s)) (hi.map (ev s)) := by
  show opP P s h (.slice T x lo hi none) _ = _
  simp only [opP, true_and]
  unfold slR sl2 sl3
  rfl
theorem sl_lo {X : Cx} {b : ByteArray} {kk : IntKind} {u : Int} : slR P X h T true (.raw (.string b)) (some (.raw (.int kk u))) none = (0 ≤ u ∧ u ≤ b.size ∧ nx P X h (.raw (.string (b.extract u.toNat b.size)))) := by simp [slR]
theorem sl_hi {X : Cx} {b : ByteArray} {kk : IntKind} {u : Int} : slR P X h T true (.raw (.string b)) none (some (.raw (.int kk u))) = (0 ≤ u ∧ u ≤ b.size ∧ nx P X h (.raw (.string (b.extract 0 u.toNat)))) := by simp [slR]
theorem sl_all {X : Cx} {b : ByteArray} : slR P X h T true (.raw (.string b)) none none = nx P X h (.raw (.string (b.extract 0 b.size))) := by simp [slR]
theorem sl_both {X : Cx} {b : ByteArray} {k1 k2 : IntKind} {v u : Int} : slR P X h T true (.raw (.string b)) (some (.raw (.int k1 v))) (some (.raw (.int k2 u))) = (0 ≤ v ∧ v ≤ u ∧ u ≤ b.size ∧ nx P X h (.raw (.string (b.extract v.toNat u.toNat)))) := by simp [slR]
theorem sl_own {X : Cx} {id es len : Nat} {b : Bool} {lo hi : Option AV} : slR P X h T b (.own id es len) lo hi = sl2 P X h id es len lo hi (elemT P T) := rfl
theorem sl_two {X : Cx} {id es len : Nat} {e : TypeId} {lo hi : Option AV} : sl2 P X h id es len lo hi (some e) = sl3 P X h id es len lo hi (tyOf P e) := rfl
theorem sl_three {X : Cx} {id es len sz by_ : Nat} {g : Bool} {z : List Value} {lo hi : Option AV} : sl3 P X h id es len lo hi (some ⟨sz, g, z, by_⟩) = (es = sz ∧ (wr h id (len * es)).map (fun r => r.2.1) = some es ∧ bndP len lo hi fun l u => nx P X h (.sub id (len * es) es l (u - l))) := rfl
theorem bn_00 {m : Nat} {R : Nat → Nat → Prop} : bndP m none none R = R 0 m := rfl
theorem bn_10 {m : Nat} {R : Nat → Nat → Prop} {kk : IntKind} {l : Int} : bndP m (some (.raw (.int kk l))) none R = (0 ≤ l ∧ l ≤ m ∧ R l.toNat m) := rfl
theorem bn_01 {m : Nat} {R : Nat → Nat → Prop} {kk : IntKind} {u : Int} : bndP m none (some (.raw (.int kk u))) R = (0 ≤ u ∧ u ≤ m ∧ R 0 u.toNat) := rfl
theorem bn_11 {m : Nat} {R : Nat → Nat → Prop} {k1 k2 : IntKind} {l u : Int} : bndP m (some (.raw (.int k1 l))) (some (.raw (.int k2 u))) R = (0 ≤ l ∧ l ≤ u ∧ u ≤ m ∧ R l.toNat u.toNat) := rfl
theorem run_len : run P n h0 (.ops dr (⟨some t, .call ⟨.builtin .len, #[x], #[T]⟩, none, []⟩ :: l) :: k) Q s h = lnR P ⟨n, h0, dr, t, l, k, Q, s⟩ h T (ev s x) := by
  show opP P s h (.call ⟨.builtin .len, #[x], #[T]⟩) _ = _
  simp only [opP]; unfold lnR; rfl
theorem ln_str {X : Cx} {b : ByteArray} : lnR P X h T (.raw (.string b)) = (isStr P T = true ∧ nx P X h (.raw (.int .i64 b.size))) := rfl
theorem ln_own {X : Cx} {id es len : Nat} : lnR P X h T (.own id es len) = ((elemT P T).isSome = true ∧ sz h id = some (len * es) ∧ nx P X h (.raw (.int .i64 len))) := rfl
theorem ln_sub {X : Cx} {id st es lo len : Nat} : lnR P X h T (.sub id st es lo len) = ((elemT P T).isSome = true ∧ sz h id = some st ∧ nx P X h (.raw (.int .i64 len))) := rfl
theorem ln_nil {X : Cx} : lnR P X h T (.raw (.slice none 0 0)) = ((elemT P T).isSome = true ∧ nx P X h (.raw (.int .i64 0))) := rfl
theorem run_append {T' : TypeId} : run P n h0 (.ops dr (⟨some t, .call ⟨.builtin .append, #[x, y], #[T, T']⟩, none, []⟩ :: l) :: k) Q s h = (T = T' ∧ apR P ⟨n, h0, dr, t, l, k, Q, s⟩ h (ev s x) (ev s y) (elemT P T)) := by
  show opP P s h (.call ⟨.builtin .append, #[x, y], #[T, T']⟩) _ = _
  simp only [opP]; unfold apR ap1 ap2 ap3 ap4 appP; rfl
theorem ap_some {X : Cx} {c d : AV} {e : TypeId} : apR P X h c d (some e) = ap1 P X h e c d (tyOf P e) := rfl
theorem ap_ty {X : Cx} {c d : AV} {e : TypeId} {sz by_ : Nat} {g : Bool} {z : List Value} : ap1 P X h e c d (some ⟨sz, g, z, by_⟩) = ap2 P X h e sz by_ c (srcOf h sz d) := rfl
theorem ap_src {X : Cx} {c : AV} {e : TypeId} {size bytes m : Nat} {news : List AV} : ap2 P X h e size bytes c (some (m, news)) = ap3 P X h e size bytes m news c := rfl
theorem ap_own {X : Cx} {e : TypeId} {size bytes m id es q : Nat} {news : List AV} : ap3 P X h e size bytes m news (.own id es q) = (es = size ∧ (q + m) * bytes ≤ 140737488355328 ∧ q + m ≤ 140737488355328 ∧ ap4 P X h e id es q m news (wr h id (q * es))) := rfl
theorem ap_nil {X : Cx} {e : TypeId} {size bytes m : Nat} {news : List AV} : ap3 P X h e size bytes m news (.raw (.slice none 0 0)) = (m * bytes ≤ 140737488355328 ∧ m ≤ 140737488355328 ∧ nx P X (h ++ [⟨.row e size, news⟩]) (.own h.length size m)) := rfl
theorem ap_wr {X : Cx} {e e' : TypeId} {id es es' q m : Nat} {news cells : List AV} : ap4 P X h e id es q m news (some (e', es', cells)) = (e' = e ∧ es' = es ∧ nx P X (List.set h id ⟨.row e es, cells ++ news⟩) (.own id es (q + m))) := rfl
theorem run_min {tys : Array TypeId} : run P n h0 (.ops dr (⟨some t, .call ⟨.builtin .min, #[x, y], tys⟩, none, []⟩ :: l) :: k) Q s h = mnR P ⟨n, h0, dr, t, l, k, Q, s⟩ h (ev s x) (ev s y) := by
  show opP P s h (.call ⟨.builtin .min, #[x, y], tys⟩) _ = _
  simp only [opP]; unfold mnR; rfl
theorem mn_int {X : Cx} {k1 k2 : IntKind} {a b : Int} : mnR P X h (.raw (.int k1 a)) (.raw (.int k2 b)) = nx P X h (.raw (.int k1 (if b < a then b else a))) := rfl
theorem run_max {tys : Array TypeId} : run P n h0 (.ops dr (⟨some t, .call ⟨.builtin .max, #[x, y], tys⟩, none, []⟩ :: l) :: k) Q s h = mxR P ⟨n, h0, dr, t, l, k, Q, s⟩ h (ev s x) (ev s y) := by
  show opP P s h (.call ⟨.builtin .max, #[x, y], tys⟩) _ = _
  simp only [opP]; unfold mxR; rfl
theorem mx_int {X : Cx} {k1 k2 : IntKind} {a b : Int} : mxR P X h (.raw (.int k1 a)) (.raw (.int k2 b)) = nx P X h (.raw (.int k1 (if b > a then b else a))) := rfl
theorem run_nilCheck : run P n h0 (.ops dr (⟨some t, .nilCheck x, none, []⟩ :: l) :: k) Q s h = ncR P ⟨n, h0, dr, t, l, k, Q, s⟩ h (ev s x) := by
  show opP P s h (.nilCheck x) _ = _
  simp only [opP]; unfold ncR; rfl
theorem nc_ptr {X : Cx} {id st off : Nat} : ncR P X h (.ptr id st off) = ((sz h id).isSome = true ∧ sz h id = some st ∧ nx P X h (.ptr id st off)) := rfl
theorem nc_fn {X : Cx} {f : FuncId} {cs : List AV} : ncR P X h (.fn (.func f) cs) = nx P X h (.fn (.func f) cs) := rfl
theorem rc_ptr {K : AV → Prop} {id st off a b : Nat} {g : Bool} {z : List Value} : rcR h K (.ptr id st off) (some ⟨a, g, z, b⟩) = rc2 g a off K (rd h id st) := rfl
theorem rc_agg {K : AV → Prop} {size off : Nat} {cells : List AV} : rc2 true size off K (some cells) = (off + size ≤ cells.length ∧ K (.agg ((cells.drop off).take size))) := rfl
end ops

theorem upd_same (s : S) (t : Nat) (c : AV) : upd s t c t = c := by simp [upd]
theorem upd_ne {s : S} {t i : Nat} {c : AV} (h : (i == t) = false) : upd s t c i = s i := by
  have : i ≠ t := by simpa using h
  simp [upd, this]
theorem entry_at (args : List AV) (i : Nat) : entry args i = (args[i]?).getD (.raw undef) := rfl
theorem ev_tmp (s : S) (t : Nat) : ev s (.tmp t) = s t := rfl
theorem ev_const (s : S) (v : Value) : ev s (.const v) = .raw v := rfl
theorem ev_func (s : S) (f : Nat) : ev s (.func f) = .fn (.func f) [] := rfl

theorem AC_run (hm : P.follows .mixedOrders = true) {g : FuncId} {c : LC} {m : Nat} {rs : List ResultVar} (hok : FnOk P g c m rs) {args : List AV} {R : AV → Heap → Prop} (hlen : args.length ≤ m) (H : run P m h [.code c] (retQ P rs R) (entry args) h) : AC P g args h R :=
  AC_wpc hm hok hlen H

theorem lw_run (hm : P.follows .mixedOrders = true) {c : LC} (H : run P n h0 [.code c] Q s h) : LW P n h0 c Q s h := lw_of_wpc hm _ _ _ _ H
end

def I (n : Int) : AV := .raw (.int .i64 n)
def B (b : Bool) : AV := .raw (.bool b)
def Str (b : ByteArray) : AV := .raw (.string b)
end Go.Ab
