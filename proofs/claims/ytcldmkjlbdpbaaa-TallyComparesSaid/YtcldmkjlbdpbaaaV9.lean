/- The value logic, part 9: operations that make memory or write what the call owns: what they do to the abstract state. -/
import Derived.Test.YtcldmkjlbdpbaaaV8
import Derived.Laws.OwnMore
import Derived.Maps.AppendAt
set_option linter.unusedVariables false
set_option linter.unusedSimpArgs false
namespace Go.V
open Go.RowKit (Below)

/-- What an operation does: what it asks, what its temporary holds, what goes, what comes. -/
structure Eff where
  ps : List Prop
  s : Option Slot
  dr : List Nat := []
  db : List Nat := []
  nr : List (Nat × Row) := []
  nb : List (Nat × (Nat × List Slot)) := []

/-- A value's cells. -/
def Slot.toCells : Slot → Option (List Slot)
  | .agg ss => some ss
  | .tup _ => none
  | s => some [s]

def lenC : List Slot → Nat
  | [] => 0
  | s :: ss => s.cells + lenC ss

/-- So many cells from a place on, exchanged. -/
def replC (ss : List Slot) (off n : Nat) (new : List Slot) : Option (List Slot) :=
  (takeC ss off).bind fun a => (dropC ss (off + n)).map fun b => a ++ (new ++ b)

/-- Elements out of cells. -/
def asmL (t : Ty) : Nat → List Slot → Option (List t.D)
  | 0, ss => match ss with
    | [] => some []
    | _ => none
  | n + 1, ss => (asm t ss).bind fun p => (asmL t n p.2).map fun l => p.1 :: l

/-- Parts laid over cells. -/
def vfill (T : Nat → Option TI) (st : VState) (place : Nat → Option (Nat × Nat)) (ty : Nat → Nat) : List (Nat × Operand) → List Slot → Option (List Slot)
  | [], ss => some ss
  | (j, x) :: ps, ss => (place j).bind fun q => (ev T st (ty j) x).bind fun s => s.toCells.bind fun cs => match Nat.beq (lenC cs) q.2 with
    | true => (replC ss q.1 q.2 cs).bind fun ss' => vfill T st place ty ps ss'
    | false => none

def repC : Nat → List Slot → List Slot
  | 0, _ => []
  | n + 1, ss => ss ++ repC n ss

def LIM : Nat := 4294967296

/-- A slice that is read, as a list. -/
def readL (T : Nat → Option TI) (st : VState) (t : Nat) (x : Operand) (u : Ty) : Option (List u.D) :=
  match ev T st t x with
  | some (.val (.sl _ u') l) => if h : u' = u then some (h ▸ l) else none
  | some (.row h) => (assoc h st.rows).bind fun R => if h : R.t = u then some (h ▸ R.l) else none
  | _ => none

def veff (T : Nat → Option TI) (st : VState) (o : Oper) (id : Nat) : Option Eff :=
  match o.op with
  | .alloc t => (T t).bind fun i => i.zero.bind fun _ => match st.hasB id, usesBs id i.zc with
    | false, false => some { ps := [], s := some (.box id 0), nb := [(id, (t, i.zc))] }
    | _, _ => none
  | .box t x => (ev T st t x).bind fun s => s.toCells.bind fun ss => match st.hasB id, usesBs id ss with
    | false, false => some { ps := [], s := some (.box id 0), nb := [(id, (t, ss))] }
    | _, _ => none
  | .build t parts => (T t).bind fun i => i.zero.bind fun _ => match i.desc with
   | .array _ e => (T e).bind fun ei => (vfill T st (fun j => some (j * ei.size, ei.size)) (fun _ => e) parts.toList i.zc).map fun ss => { ps := [], s := some (.agg ss) }
   | _ => (fieldsOf i.desc).bind fun fs => match fs.toList.all (fun f => (T f.type).isSome) with
      | true => (vfill T st (fun j => (fs[j]?).bind fun f => (T f.type).map fun fi => (f.offset, fi.size)) (fun j => ((fs[j]?).map (·.type)).getD 0) parts.toList i.zc).map fun ss => { ps := [], s := some (.agg ss) }
      | false => none
  | .buildSlice t n parts => (T t).bind fun i => (elemOf i.desc).bind fun e => (T e).bind fun ei => ei.zero.bind fun _ => match Nat.ble (n * ei.size) 16777216, Nat.beq ei.size ei.ty.size, Nat.beq ei.size 0 with
    | true, true, false => (vfill T st (fun j => some (j * ei.size, ei.size)) (fun _ => e) parts.toList (repC n ei.zc)).bind fun ss => (asmL ei.ty n ss).bind fun l => match st.hasR id with
      | false => some { ps := [], s := some (.row id), nr := [(id, ⟨e, ei.ty, l⟩)] }
      | true => none
    | _, _, _ => none
  | .makeSlice t l c => (T t).bind fun i => (elemOf i.desc).bind fun e => (T e).bind fun ei => ei.zero.bind fun _ => (evI T st l).bind fun n => (evI T st c).bind fun m =>
      (asm ei.ty ei.zc).bind fun z => match Nat.beq ei.size ei.ty.size, Nat.ble ei.bytes 32768, z.2, st.hasR id with
      | true, true, [], false => some { ps := [m = n ∧ 0 ≤ n ∧ n ≤ (LIM : Int)], s := some (.row id), nr := [(id, ⟨e, ei.ty, List.replicate n.toNat z.1⟩)] }
      | _, _, _, _ => none
  | .store t p x => (T t).bind fun i => (ev T st t x).bind fun s => s.toCells.bind fun ss => match Nat.beq (lenC ss) i.size with
    | false => none
    | true => match ev T st 0 p with
      | some (.box k off) => (assoc k st.boxes).bind fun B => (replC B.2 off i.size ss).map fun ss' => { ps := [], s := none, db := [k], nb := [(k, (B.1, ss'))] }
      | some (.elt h sz n off) => (assoc h st.rows).bind fun R => match Nat.beq sz R.t.size with
        | false => none
        | true => (replC (cellsOf R.t (R.l.getD n.toNat R.t.zero)) off i.size ss).bind fun ss' => (asm R.t ss').bind fun q => match q.2 with
          | [] => some { ps := [n.toNat < R.l.length], s := none, dr := [h], nr := [(h, ⟨R.e, R.t, R.l.set n.toNat q.1⟩)] }
          | _ => none
      | _ => none
  | .call c => match c.callee with
    | .builtin .append => match c.args.toList, c.argTypes.toList with
      | [s, x], [t, t'] => match Nat.beq t t' with
        | false => none
        | true => (T t).bind fun i => (elemOf i.desc).bind fun e => (T e).bind fun ei => ei.zero.bind fun _ => match st.hasR id, Nat.ble ei.bytes 32768, Nat.beq ei.size 0 with
          | false, true, false => match ev T st t s with
            | some (.row h) => (assoc h st.rows).bind fun R => match Nat.beq R.e e, Nat.beq ei.size R.t.size with
              | true, true => (readL T st t x R.t).map fun l => { ps := [R.l.length + l.length ≤ LIM], s := some (.row id), dr := [h], nr := [(id, ⟨e, R.t, R.l ++ l⟩)] }
              | _, _ => none
            | some (.val (.sl _ u) []) => match s, Nat.beq ei.size u.size with
              | .const (.slice none 0 0), true => (readL T st t x u).map fun l => { ps := [l.length ≤ LIM], s := some (.row id), nr := [(id, ⟨e, u, l⟩)] }
              | _, _ => none
            | _ => none
          | _, _, _ => none
      | _, _ => none
    | _ => (vpure T st o).map fun r => { ps := r.1, s := some r.2 }
  | _ => (vpure T st o).map fun r => { ps := r.1, s := some r.2 }

/-- The state behind an operation, its temporary aside. -/
def VState.after (st : VState) (E : Eff) : VState := (st.del E.dr E.db).add E.nr E.nb
def VState.put (st : VState) (d : Option Nat) (s : Option Slot) : VState :=
  match d, s with
  | some d, some s => st.set d s
  | some d, none => st.unset d
  | none, _ => st
end Go.V
