/- The code, made light: operations with their guards resolved, in the order of the text. Plain library text, no statement. -/
import Derived.Test.YtdnbhknejalibaaAb9
namespace Go.Ab
open Go Go.RowKit

/-- an operation: where its value goes, what it is, its guard: a slot and what must lie in it -/
structure LO where
  d : Option Nat
  o : Op
  g : Option (Nat × Bool)

inductive LC where
  | nop
  | reg (dr : Bool) (l : List LO)
  | seq (a b : LC)
  | ite (c : Operand) (a b : LC)
  | block (id : Nat) (c : LC)
  | loop (c : LC)
  | exit (id : Nat)
  | ret

/-- an operation whose value hangs on nothing but its operands and on cells that stay -/
def calm : Op → Bool
  | .move _ | .pick _ _ _ | .load _ _ | .binOp _ _ _ _ _ | .unOp _ _ _ | .convert _ _ _ | .fieldAddr _ _ _ | .indexAddr _ _ _ | .index _ _ _ | .extract _ _ | .nilCheck _ | .slice _ _ _ _ _ => true
  | .call c => match c.callee with
    | .builtin .len | .builtin .min | .builtin .max => true
    | _ => false
  | _ => false

/-- an operation that turns no row that is there -/
def mild : Op → Bool
  | .store _ _ _ => false
  | .call c => match c.callee with
    | .builtin .append => false
    | _ => true
  | .mapUpdate _ _ _ _ | .insert _ _ _ _ => false
  | _ => true

/-- May the text's order stand for all orders? At each place of the text: the operation is the only one that may come up; or it is calm, what has not come up yet either waits for it or is apart from it, and what may turn a row waits for it. -/
def lexAt (ops : Array Oper) (i : Nat) : Bool :=
  let listed := (Array.replicate ops.size false).mapIdx fun j _ => decide (j < i)
  let rs := Region.ready .any ops listed
  (rs == [i]) ||
  (rs.contains i &&
    match ops[i]? with
    | none => false
    | some oi => calm oi.op && ((List.range ops.size).all fun j => decide (j ≤ i) ||
        match ops[j]? with
        | none => true
        | some oj => (oj.after.any fun e => Region.binds .any e && e.on == i) || (oi.apart ops oj && mild oj.op)))

def lexOk (ops : Array Oper) : Bool := (List.range ops.size).all (lexAt ops)

def liteOp (ops : Array Oper) (o : Oper) : Option LO :=
  match o.op with
  | .select _ _ => none
  | _ => match o.guard with
    | none => some ⟨o.dst, o.op, none⟩
    | some (j, b) => match (ops[j]?).bind (·.dst) with
      | some t => some ⟨o.dst, o.op, some (t, b)⟩
      | none => none

def liteOps (ops : Array Oper) : List Oper → Option (List LO)
  | [] => some []
  | o :: l => match liteOp ops o, liteOps ops l with
    | some x, some r => some (x :: r)
    | _, _ => none

def lite : Code → Option LC
  | .skip => some .nop
  | .region _ ops draw => if !draw || lexOk ops then (liteOps ops ops.toList).map (.reg draw) else none
  | .seq a b => match lite a, lite b with
    | some x, some y => some (.seq x y)
    | _, _ => none
  | .cond c a b => match lite a, lite b with
    | some x, some y => some (.ite c x y)
    | _, _ => none
  | .block id c => (lite c).map (.block id)
  | .loop c => (lite c).map .loop
  | .exit id => some (.exit id)
  | .ret => some .ret
  | _ => none

end Go.Ab
