/- The code, made light: operations with their guards resolved, in the order of the text. Plain library text, no statement. -/
import Derived.Test.YtbpcbemnbelajaaGreatDoorAb9
namespace Go.Ab
open Go Go.RowKit

/-- an operation: where its value goes, what it is, its guard (a slot and what must lie in it), and what those look at whose place beside it is open -/
structure LO where
  d : Option Nat
  o : Op
  g : Option (Nat × Bool) := none
  f : List Operand := []

/-- a region whose order is left open, with more than one order that counts: one operation and then the rest, or either of two -/
inductive LT where
  | fin
  | op (x : LO) (r : LT)
  | alt (a b : LT)

inductive LC where
  | nop
  | reg (dr : Bool) (l : List LO)
  | tree (t : LT)
  | seq (a b : LC)
  | ite (c : Operand) (a b : LC)
  | block (id : Nat) (c : LC)
  | loop (c : LC)
  | exit (id : Nat)
  | ret

/-- an operation whose value hangs on nothing but its operands and on cells that stay -/
def calm : Op → Bool
  | .move _ | .pick _ _ _ | .load _ _ | .binOp _ _ _ _ _ | .unOp _ _ _ | .convert _ _ _ | .fieldAddr _ _ _ | .indexAddr _ _ _ | .index _ _ _ | .extract _ _ | .nilCheck _ | .slice _ _ _ _ _ => true
  | .call c => match c.callee with
    | .builtin .len | .builtin .min | .builtin .max => true
    | _ => false
  | _ => false

/-- an operation that turns no row that is there -/
def mild : Op → Bool
  | .store _ _ _ => false
  | .call c => match c.callee with
    | .builtin .append => false
    | .value _ => false
    | _ => true
  | .mapUpdate _ _ _ _ | .insert _ _ _ _ => false
  | _ => true

/-- a calm operation that looks at no row -/
def still : Op → Bool
  | .move _ | .pick _ _ _ | .binOp _ _ _ _ _ | .unOp _ _ _ | .extract _ _ => true
  | .call c => match c.callee with
    | .builtin .min | .builtin .max => true
    | _ => false
  | _ => false

def listedOf (n : Nat) (L : List Nat) : Array Bool := (Array.replicate n false).mapIdx fun j _ => L.contains j
def waits (oj : Oper) (i : Nat) : Bool := oj.after.any fun e => Region.binds .any e && e.on == i
/-- a binding edge leads to one that waits for i -/
def waits2 (ops : Array Oper) (oj : Oper) (i : Nat) : Bool := oj.after.any fun e => Region.binds .any e && (match ops[e.on]? with | some ok => waits ok i | none => false)
/-- the operation's slot is not among those that the other looks at -/
def freeOf (ops : Array Oper) (oi ok : Oper) : Bool := match oi.dst with
  | none => true
  | some d => !(ok.looksAt ops).contains d

/-- an order that the edges allow: calm operations as early as may be -/
def ordGo (ops : Array Oper) : Nat → List Nat → List Nat
  | 0, _ => []
  | n + 1, L =>
    let rs := Region.ready .any ops (listedOf ops.size L)
    match rs.find? fun i => match ops[i]? with | some o => calm o.op | none => false with
    | some i => i :: ordGo ops n (L ++ [i])
    | none => match rs with
      | i :: _ => i :: ordGo ops n (L ++ [i])
      | [] => []
def ordOf (ops : Array Oper) : List Nat := ordGo ops ops.size []

/-- the calm operations that look at rows, stand ahead of j in the order, and may yet come behind it -/
def floats (ops : Array Oper) (L : List Nat) (j : Nat) : List Nat := match ops[j]? with
  | none => []
  | some oj => if mild oj.op then [] else L.filter fun i => match ops[i]? with
    | some oi => calm oi.op && !still oi.op && !waits oj i && !waits2 ops oj i
    | none => false
def floatsOf (ops : Array Oper) (ord : List Nat) (j : Nat) : List Nat := floats ops (ord.takeWhile fun i => i != j) j

/-- May this order stand for all orders? At each place: the operation is the only one that may come up; or it is calm, and what has not come up yet either waits for it or is apart from it; and what may turn a row keeps those rows that it looks at. -/
def lexAt (ops : Array Oper) (F : Nat → List Nat) (L : List Nat) (i : Nat) : Bool :=
  let rs := Region.ready .any ops (listedOf ops.size L)
  rs.contains i && ((rs == [i]) ||
    match ops[i]? with
    | none => false
    | some oi => calm oi.op &&
        ((i :: L).all fun k => match ops[k]? with | some ok => freeOf ops oi ok | none => true) &&
        ((List.range ops.size).all fun j => L.contains j || j == i ||
          match ops[j]? with
          | none => true
          | some oj => waits oj i || (oi.apart ops oj && (mild oj.op || still oi.op || (F j).contains i)) || waits2 ops oj i))

def lexGo (ops : Array Oper) (F : Nat → List Nat) : List Nat → List Nat → Bool
  | L, [] => (List.range ops.size).all L.contains
  | L, i :: r => decide (i < ops.size) && !L.contains i && lexAt ops F L i && (F i).all L.contains && lexGo ops F (L ++ [i]) r

def lexOk (ops : Array Oper) : Bool := decide ((ordOf ops).length ≤ ops.size) && lexGo ops (floatsOf ops (ordOf ops)) [] (ordOf ops)

/-- the orders that count, by the operations' places -/
inductive IT where
  | fin
  | op (i : Nat) (r : IT)
  | alt (a b : IT)
def IT.heads : IT → List Nat
  | .fin => []
  | .op i _ => [i]
  | .alt a b => a.heads ++ b.heads
def IT.depth : IT → Nat
  | .fin => 0
  | .op _ r => r.depth + 1
  | .alt a b => max a.depth b.depth
def IT.alts : List IT → IT
  | [] => .fin
  | [a] => a
  | a :: l => .alt a (IT.alts l)
/-- the tree of orders: where one operation may stand for all, that one; else every one that may come up -/
def treeGo (ops : Array Oper) (F : Nat → List Nat) : Nat → List Nat → IT
  | 0, _ => .fin
  | n + 1, L =>
    let rs := Region.ready .any ops (listedOf ops.size L)
    match rs.find? fun i => lexAt ops F L i && (F i).all L.contains with
    | some i => .op i (treeGo ops F n (L ++ [i]))
    | none => IT.alts (rs.map fun i => .op i (treeGo ops F n (L ++ [i])))
def treeOk (ops : Array Oper) (F : Nat → List Nat) : Bool → List Nat → IT → Bool
  | sub, L, .fin => !sub && (List.range ops.size).all L.contains
  | sub, L, .op i r => decide (i < ops.size) && !L.contains i && (if sub then (Region.ready .any ops (listedOf ops.size L)).contains i else lexAt ops F L i) && (F i).all L.contains && treeOk ops F false (L ++ [i]) r
  | sub, L, .alt a b => (sub || (Region.ready .any ops (listedOf ops.size L)).all (a.heads ++ b.heads).contains) && treeOk ops F true L a && treeOk ops F true L b
def treeOf (ops : Array Oper) : IT := treeGo ops (floatsOf ops (ordOf ops)) ops.size []
def treeAll (ops : Array Oper) : Bool := decide ((treeOf ops).depth ≤ ops.size) && treeOk ops (floatsOf ops (ordOf ops)) false [] (treeOf ops)

/-- what these operations look at -/
def looksOf (ops : Array Oper) (l : List Nat) : List Operand := l.flatMap fun k => match ops[k]? with
  | some ok => ok.op.operands.toList
  | none => []

def liteOp (ops : Array Oper) (f : List Operand) (o : Oper) : Option LO :=
  match o.op with
  | .select _ _ => none
  | _ => match o.guard with
    | none => some ⟨o.dst, o.op, none, f⟩
    | some (j, b) => match (ops[j]?).bind (·.dst) with
      | some t => some ⟨o.dst, o.op, some (t, b), f⟩
      | none => none

def liteOps (ops : Array Oper) : List Oper → Option (List LO)
  | [] => some []
  | o :: l => match liteOp ops [] o, liteOps ops l with
    | some x, some r => some (x :: r)
    | _, _ => none

def liteOrd (ops : Array Oper) (F : Nat → List Nat) : List Nat → Option (List LO)
  | [] => some []
  | i :: l => match ops[i]? with
    | none => none
    | some o => match liteOp ops (looksOf ops (F i)) o, liteOrd ops F l with
      | some x, some r => some (x :: r)
      | _, _ => none

def liteTree (ops : Array Oper) (F : Nat → List Nat) : IT → Option LT
  | .fin => some .fin
  | .op i r => match ops[i]? with
    | none => none
    | some o => match liteOp ops (looksOf ops (F i)) o, liteTree ops F r with
      | some x, some y => some (.op x y)
      | _, _ => none
  | .alt a b => match liteTree ops F a, liteTree ops F b with
    | some x, some y => some (.alt x y)
    | _, _ => none

def lite : Code → Option LC
  | .skip => some .nop
  | .region _ ops draw =>
    if draw then (if lexOk ops then (liteOrd ops (floatsOf ops (ordOf ops)) (ordOf ops)).map (.reg true)
      else if treeAll ops then (liteTree ops (floatsOf ops (ordOf ops)) (treeOf ops)).map .tree else none)
    else (liteOps ops ops.toList).map (.reg false)
  | .seq a b => match lite a, lite b with
    | some x, some y => some (.seq x y)
    | _, _ => none
  | .cond c a b => match lite a, lite b with
    | some x, some y => some (.ite c x y)
    | _, _ => none
  | .block id c => (lite c).map (.block id)
  | .loop c => (lite c).map .loop
  | .exit id => some (.exit id)
  | .ret => some .ret
  | _ => none

end Go.Ab
