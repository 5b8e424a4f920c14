/- The value logic, part 5: what an operation that reads alone gives, and that it gives it. -/
import Derived.Test.YtcldmkjlbdpbaaaV4
set_option linter.unusedVariables false
set_option linter.unusedSimpArgs false
namespace Go.V
open Go.RowKit (Below)

/-- Two numbers of one kind. -/
def vint (op : BinOp) (k : IntKind) (x y : Int) : Option (List Prop × Slot) :=
  match op with
  | .add => some ([], .val (.int k) (k.wrap (x + y)))
  | .sub => some ([], .val (.int k) (k.wrap (x - y)))
  | .mul => some ([], .val (.int k) (k.wrap (x * y)))
  | .quo => some ([y ≠ 0], .val (.int k) (k.wrap (x.tdiv y)))
  | .rem => some ([y ≠ 0], .val (.int k) (x.tmod y))
  | .and => some ([], .val (.int k) (k.wrap (BitVec.ofInt k.bits x &&& BitVec.ofInt k.bits y).toNat))
  | .or => some ([], .val (.int k) (k.wrap (BitVec.ofInt k.bits x ||| BitVec.ofInt k.bits y).toNat))
  | .xor => some ([], .val (.int k) (k.wrap (BitVec.ofInt k.bits x ^^^ BitVec.ofInt k.bits y).toNat))
  | .eql => some ([], .val .bool (x == y))
  | .neq => some ([], .val .bool (x != y))
  | .lss => some ([], .val .bool (decide (x < y)))
  | .leq => some ([], .val .bool (decide (x ≤ y)))
  | .gtr => some ([], .val .bool (decide (x > y)))
  | .geq => some ([], .val .bool (decide (x ≥ y)))
  | _ => none
def vshift (op : BinOp) (k : IntKind) (x y : Int) : Option (List Prop × Slot) :=
  match op with
  | .shl => some ([0 ≤ y], .val (.int k) (k.wrap (x * 2 ^ min y.toNat k.bits)))
  | .shr => some ([0 ≤ y], .val (.int k) (x.fdiv (2 ^ min y.toNat k.bits)))
  | _ => none
def vstr (op : BinOp) (x y : ByteArray) : Option (List Prop × Slot) :=
  match op with
  | .add => some ([x.size + y.size ≤ 9223372036854775807], .val .str (x ++ y))
  | .eql => some ([], .val .bool (decide (x = y)))
  | .neq => some ([], .val .bool (!decide (x = y)))
  | .lss => some ([], .val .bool (ltS x y))
  | .leq => some ([], .val .bool (ltS x y || decide (x = y)))
  | .gtr => some ([], .val .bool (!(ltS x y || decide (x = y))))
  | .geq => some ([], .val .bool (!ltS x y))
  | _ => none

def isShift : BinOp → Bool
  | .shl | .shr => true
  | _ => false

/-- Does the slot stand for one cell? -/
def Slot.cell1 : Slot → Bool
  | .val t _ => !t.isAgg
  | .agg _ | .tup _ => false
  | _ => true

/-- What stands at a place of memory whose cells are these. -/
def vload (i : TI) (ss : List Slot) : Option Slot :=
  match i.agg with
  | true => match takeC ss i.size with
    | some [.val (.arr n t) x] => some (.val (.arr n t) x)
    | some l => some (.agg l)
    | none => none
  | false => match ss with
    | s :: _ => match s.cell1 with
      | true => some s
      | false => none
    | [] => none

/-- Structs, field by field. -/
def eqF (T : Nat → Option TI) (rec : Nat → Slot → Slot → Option Bool) (xs ys : List Slot) : List Field → Option Bool
  | [] => some true
  | f :: fs => (T f.type).bind fun fi => ((dropC xs f.offset).bind (vload fi)).bind fun a => ((dropC ys f.offset).bind (vload fi)).bind fun b => (rec f.type a b).bind fun r => match fs with
    | [] => some r
    | g :: gs => (eqF T rec xs ys (g :: gs)).map fun s => r && s
def eqS (T : Nat → Option TI) : Nat → Nat → Slot → Slot → Option Bool
  | 0, _, _, _ => none
  | d + 1, t, x, y => (T t).bind fun i => match i.desc, x, y with
    | .bool, .val .bool a, .val .bool b => some (a == b)
    | .int _, .val (.int k) a, .val (.int k') b => if k = k' then some (a == b) else none
    | .string, .val .str a, .val .str b => some (decide (a = b))
    | .struct fs, .agg xs, .agg ys => match i.eq with
      | true => eqF T (eqS T d) xs ys fs.toList
      | false => none
    | _, _, _ => none

def vbin (T : Nat → Option TI) (op : BinOp) (t : Nat) : Slot → Slot → Option (List Prop × Slot)
  | .val (.int k) x, .val (.int k') y => match isShift op with
    | true => vshift op k x y
    | false => if k = k' then vint op k x y else none
  | .val .str x, .val .str y => vstr op x y
  | .val .bool x, .val .bool y => (T t).bind fun i => match i.desc, op with
    | .bool, .eql => some ([], .val .bool (x == y))
    | .bool, .neq => some ([], .val .bool (!(x == y)))
    | _, _ => none
  | .nilp, .nilp => (T t).bind fun i => match i.desc, op with
    | .pointer _, .eql => some ([], .val .bool true)
    | .pointer _, .neq => some ([], .val .bool false)
    | _, _ => none
  | .box _ _, .nilp => (T t).bind fun i => match i.desc, op with
    | .pointer _, .eql => some ([], .val .bool false)
    | .pointer _, .neq => some ([], .val .bool true)
    | _, _ => none
  | .agg xs, .agg ys => match op with
    | .eql => (eqS T 16 t (.agg xs) (.agg ys)).map fun b => ([], .val .bool b)
    | .neq => (eqS T 16 t (.agg xs) (.agg ys)).map fun b => ([], .val .bool (!b))
    | _ => none
  | _, _ => none

def fieldsOf : TypeDesc → Option (Array Field)
  | .struct f => some f
  | _ => none
def elemOf : TypeDesc → Option Nat
  | .slice e => some e
  | _ => none

/-- The cells behind an address. -/
def cellsAt (st : VState) : Slot → Option (List Prop × List Slot)
  | .ptr ss => some ([], ss)
  | .box k off => (assoc k st.boxes).bind fun B => (dropC B.2 off).map fun ss => ([], ss)
  | .elt h sz i off => (assoc h st.rows).bind fun R => match Nat.beq sz R.t.size with
    | true => (dropC (cellsOf R.t (R.l.getD i.toNat R.t.zero)) off).map fun ss => ([i.toNat < R.l.length], ss)
    | false => none
  | _ => none

def vlen (T : Nat → Option TI) (st : VState) (t : Nat) : Slot → Option Int
  | .val .str s => (T t).bind fun i => match i.desc with
    | .string => some (s.size : Int)
    | _ => none
  | .val (.sl _ _) l => (T t).bind fun i => match i.desc with
    | .slice _ => some (l.length : Int)
    | _ => none
  | .row h => (T t).bind fun i => match i.desc with
    | .slice _ => (assoc h st.rows).map fun R => (R.l.length : Int)
    | _ => none
  | _ => none

def foldI (f : Int → Int → Int) (k : IntKind) : Int → List Slot → Option Int
  | x, [] => some x
  | x, .val (.int k') y :: ss => if k' = k then foldI f k (f x y) ss else none
  | _, _ => none

def vslice (l : Option Int) (h : Option Int) (n : Nat) : List Prop :=
  match l, h with
  | none, none => []
  | some l, none => [0 ≤ l ∧ l ≤ (n : Int)]
  | none, some h => [0 ≤ h ∧ h ≤ (n : Int)]
  | some l, some h => [0 ≤ l ∧ l ≤ h ∧ h ≤ (n : Int)]

def cutL {α : Type} (l : Option Int) (h : Option Int) (xs : List α) : List α :=
  match l, h with
  | none, none => xs
  | some l, none => xs.drop l.toNat
  | none, some h => xs.take h.toNat
  | some l, some h => (xs.take h.toNat).drop l.toNat
def cutS (l : Option Int) (h : Option Int) (s : ByteArray) : ByteArray :=
  match l, h with
  | none, none => s.extract 0 s.size
  | some l, none => s.extract l.toNat s.size
  | none, some h => s.extract 0 h.toNat
  | some l, some h => s.extract l.toNat h.toNat

def evI (T : Nat → Option TI) (st : VState) (x : Operand) : Option Int :=
  match ev T st 0 x with
  | some (.val (.int .i64) n) => some n
  | _ => none
def evO (T : Nat → Option TI) (st : VState) : Option Operand → Option (Option Int)
  | none => some none
  | some x => (evI T st x).map some

def vpure (T : Nat → Option TI) (st : VState) (o : Oper) : Option (List Prop × Slot) :=
  match o.op with
  | .move x | .assign x => (ev T st o.type x).map fun s => ([], s)
  | .pick c x y => match ev T st 0 c with
    | some (.val .bool b) => match b with
      | true => (ev T st o.type x).map fun s => ([], s)
      | false => (ev T st o.type y).map fun s => ([], s)
    | _ => none
  | .nilCheck x => match ev T st 0 x with
    | some (.box k off) => some ([], .box k off)
    | some (.elt h sz i off) => some ([], .elt h sz i off)
    | some (.ptr ss) => some ([], .ptr ss)
    | some (.fn f ss) => some ([], .fn f ss)
    | _ => none
  | .binOp op t x y _ => (ev T st t x).bind fun p => (ev T st t y).bind fun q => vbin T op t p q
  | .unOp op _ x => match op, ev T st 0 x with
    | .not, some (.val .bool b) => some ([], .val .bool (!b))
    | .neg, some (.val (.int k) n) => some ([], .val (.int k) (k.wrap (0 - n)))
    | _, _ => none
  | .convert s d x => (T s).bind fun _ => (T d).bind fun i => match i.desc, ev T st 0 x with
    | .int k, some (.val (.int _) n) => some ([], .val (.int k) (k.wrap n))
    | .string, some (.val .str b) => some ([], .val .str b)
    | _, _ => none
  | .makeFunc (.func f) first caps => match first.toList with
    | [] => (evs T st caps.toList []).map fun ss => ([], .fn f ss)
    | _ => none
  | .fieldAddr t x j => (T t).bind fun i => (fieldsOf i.desc).bind fun fs => (fs[j]?).bind fun f => (T f.type).bind fun fi => match Nat.beq fi.size 0 with
    | true => none
    | false => match ev T st 0 x with
      | some (.box k off) => some ([], .box k (off + f.offset))
      | some (.elt h sz n off) => some ([], .elt h sz n (off + f.offset))
      | some (.ptr ss) => (dropC ss f.offset).map fun l => ([], .ptr l)
      | _ => none
  | .field t x j => (T t).bind fun i => (fieldsOf i.desc).bind fun fs => (fs[j]?).bind fun f => (T f.type).bind fun fi => match ev T st 0 x with
    | some (.agg ss) => (dropC ss f.offset).bind fun l => (vload fi l).map fun s => ([], s)
    | _ => none
  | .indexAddr t x n => (T t).bind fun i => match i.desc with
   | .array len e => (T e).bind fun ei => (evI T st n).bind fun n => match ev T st 0 x with
    | some (.box k off) => some ([0 ≤ n ∧ n < (len : Int)], .box k (off + n.toNat * ei.size))
    | some (.elt h sz q off) => some ([0 ≤ n ∧ n < (len : Int)], .elt h sz q (off + n.toNat * ei.size))
    | some (.ptr ss) => match Nat.beq (n.toNat * ei.size) 0 with
      | true => some ([0 ≤ n ∧ n < (len : Int)], .ptr ss)
      | false => (dropC ss (n.toNat * ei.size)).map fun l => ([0 ≤ n ∧ n < (len : Int)], .ptr l)
    | _ => none
   | _ => (elemOf i.desc).bind fun e => (T e).bind fun ei => (evI T st n).bind fun n => match ev T st t x with
    | some (.val (.sl _ u) l) => match Nat.beq ei.size u.size with
      | true => some ([0 ≤ n ∧ n < (l.length : Int)], .ptr (cellsOf u (l.getD n.toNat u.zero)))
      | false => none
    | some (.row h) => (assoc h st.rows).bind fun R => match Nat.beq ei.size R.t.size with
      | true => some ([0 ≤ n ∧ n < (R.l.length : Int)], .elt h ei.size n 0)
      | false => none
    | _ => none
  | .index t x n => (T t).bind fun i => (evI T st n).bind fun n => match i.desc, ev T st 0 x with
    | .string, some (.val .str s) => some ([0 ≤ n ∧ n < (s.size : Int)], .val (.int .u8) (byteAt s n.toNat))
    | .array len e, some (.agg ss) => (T e).bind fun ei => (dropC ss (n.toNat * ei.size)).bind fun l => (vload ei l).map fun s => ([0 ≤ n ∧ n < (len : Int)], s)
    | _, _ => none
  | .load t x => (T t).bind fun i => (ev T st 0 x).bind fun p => (cellsAt st p).bind fun q => (vload i q.2).map fun s => (q.1, s)
  | .slice t x l h m => match m with
    | some _ => none
    | none => (T t).bind fun i => (evO T st l).bind fun l => (evO T st h).bind fun h => match i.desc, ev T st t x with
      | .string, some (.val .str s) => some (vslice l h s.size, .val .str (cutS l h s))
      | .slice e, some (.val (.sl e' u) xs) => (T e).bind fun ei => match Nat.beq ei.size u.size with
        | true => some (vslice l h xs.length, .val (.sl e' u) (cutL l h xs))
        | false => none
      | _, _ => none
  | .extract x j => match ev T st 0 x with
    | some (.tup ss) => (ss[j]?).map fun s => ([], s)
    | _ => none
  | .call c => match c.callee with
    | .builtin .len => match c.args.toList, c.argTypes.toList with
      | [x], [t] => (ev T st t x).bind fun s => (vlen T st t s).map fun n => ([], .val (.int .i64) n)
      | _, _ => none
    | .builtin .max => (evs T st c.args.toList []).bind fun ss => match ss with
      | .val (.int k) x :: ss => (foldI imax k x ss).map fun n => ([], .val (.int k) n)
      | _ => none
    | .builtin .min => (evs T st c.args.toList []).bind fun ss => match ss with
      | .val (.int k) x :: ss => (foldI imin k x ss).map fun n => ([], .val (.int k) n)
      | _ => none
    | _ => none
  | _ => none

def AllP : List Prop → Prop
  | [] => True
  | p :: l => p ∧ AllP l
end Go.V
