/- The value logic, part 14: calls of functions that turn nothing that was there. -/
import Derived.Test.YtcldmkjlbdpbaaaV13
set_option linter.unusedVariables false
set_option linter.unusedSimpArgs false
namespace Go.V
open Go.RowKit (Below)

/-- The loaded program has this function, with a body. -/
def HasFn (P : Program) (f : Nat) : Prop := ∃ fn, P.funcs[f]? = some fn ∧ (fn.name == "runtime.NumGoroutine") = false ∧ fn.body.isNone = false

/-- What a call is handed back: the value, and its new rows. -/
structure Back (ok : Nat → Prop) (w : World) (res : Slot) (nr : List (Nat × Row)) (v : Value) (ρ' : Own) (ok' : Nat → Prop) (w' : World) : Prop where
  below : Below w.heap.size w w'
  oks : ∀ b, ok b → ok' b
  oks' : ∀ b, ok' b → ok b ∨ (w.heap.size ≤ b ∧ b < w'.heap.size)
  one : ∀ h, (ρ'.row h).oneCell' = true
  val : RenS ρ' ok' w' res v
  rows : ∀ p ∈ nr, RowOk ρ' ok' w' p.1 p.2
  new : ∀ p ∈ nr, ∀ b, blk ρ' (.r p.1) = some b → w.heap.size ≤ b ∧ ¬ ok' b
  apart : ∀ p ∈ nr, ∀ q ∈ nr, ∀ b, blk ρ' (.r p.1) = some b → blk ρ' (.r q.1) = some b → p.1 = q.1

/-- Called with these arguments the function returns that; what was there has not turned. -/
def CallOK (P : Program) (f : Nat) (args : List Slot) (res : Slot) (rows : List (Nat × Row)) : Prop :=
  HasFn P f ∧ ∀ (ρ : Own) (ok : Nat → Prop) (w : World) (vs : List Value), (∀ h, (ρ.row h).oneCell' = true) → (∀ b, ok b → b < w.heap.size) → RenVs ρ ok w args vs →
    Calls P f vs.toArray w fun e w' => ∃ v ρ' ok', e = .returned v ∧ Back ok w res rows v ρ' ok' w'

/-! ### What is handed over: what the call owns is told as what is read -/
mutual
def closedS : Slot → Bool
  | .row _ | .box _ _ | .elt _ _ _ _ => false
  | .ptr ss | .agg ss | .tup ss | .fn _ ss => closedL ss
  | _ => true
def closedL : List Slot → Bool
  | [] => true
  | s :: ss => closedS s && closedL ss
end
mutual
/-- Does the slot lead to no memory? -/
def flatS : Slot → Bool
  | .val t _ => t.flat
  | .row _ => true
  | .agg ss | .tup ss => flatL ss
  | .nilp | .nilf => true
  | _ => false
def flatL : List Slot → Bool
  | [] => true
  | s :: ss => flatS s && flatL ss
end

def vw (st : VState) : Slot → Option Slot
  | .row h => (assoc h st.rows).map fun R => .val (.sl R.e R.t) R.l
  | .box k off => (assoc k st.boxes).bind fun B => match closedL B.2 with
    | true => (dropC B.2 off).map fun ss => .ptr ss
    | false => none
  | s => match closedS s with
    | true => some s
    | false => none
def vwL (st : VState) : List Slot → Option (List Slot)
  | [] => some []
  | s :: ss => (vw st s).bind fun x => (vwL st ss).map fun l => x :: l
def vwA (st : VState) : Slot → Option Slot
  | .fn f caps => (vwL st caps).map fun l => .fn f l
  | s => vw st s
def vwAs (st : VState) : List Slot → Option (List Slot)
  | [] => some []
  | s :: ss => (vwA st s).bind fun x => (vwAs st ss).map fun l => x :: l

/-- What an operation is told beside its text: a name for what it makes; of a call, what comes back. -/
structure Ann where
  id : Nat := 0
  res : Slot := .nilp
  rows : List (Nat × Row) := []
  fix : Option Bool := none    -- the Bool that comes is this one
  own : Bool := false          -- the nil slice that comes is a row of the call's own
  fixI : Option Int := none    -- the number that comes is this one

def idsS : Slot → List Nat
  | .row h => [h]
  | .tup ss => ss.flatMap fun s => match s with
    | .row h => [h]
    | _ => []
  | _ => []

def vcall (P : Program) (T : Nat → Option TI) (st : VState) (f : Operand) (args : List Operand) (tys : List Nat) (an : Ann) : Option Eff :=
  match ev T st 0 f with
  | some (.fn g caps) => (evs T st args tys).bind fun ss => match flatS an.res && an.rows.all (fun p => p.2.t.flat) with
    | true => (vwAs st (ss ++ caps)).bind fun fs => match an.rows.all (fun p => !st.hasR p.1) with
      | true => some { ps := [CallOK P g fs an.res an.rows], s := some an.res, nr := an.rows }
      | false => none
    | false => match closedL (ss ++ caps), an.rows.all (fun p => !st.hasR p.1) with
      | true, true => some { ps := [CallOK P g (ss ++ caps) an.res an.rows], s := some an.res, nr := an.rows }
      | _, _ => none
  | _ => none

/-- The nil slice as a row of one's own. -/
def vnil (T : Nat → Option TI) (st : VState) (t : Nat) (x : Operand) (id : Nat) : Option Eff :=
  match x, st.hasR id with
  | .const (.slice none 0 0), false => (T t).bind fun i => match i.ty with
    | .sl e u => some { ps := [], s := some (.row id), nr := [(id, ⟨e, u, []⟩)] }
    | _ => none
  | _, _ => none

def vop0 (P : Program) (T : Nat → Option TI) (st : VState) (o : Oper) (an : Ann) : Option Eff :=
  match o.op, an.own with
  | .assign x, true => vnil T st o.type x an.id
  | .move x, true => vnil T st o.type x an.id
  | _, _ => vop1 P T st o an
where
 vop1 (P : Program) (T : Nat → Option TI) (st : VState) (o : Oper) (an : Ann) : Option Eff :=
  match o.op with
  | .call c => match c.callee with
    | .value f => match usesOnly an with
      | true => vcall P T st f c.args.toList c.argTypes.toList an
      | false => none
    | _ => veff T st o an.id
  | _ => veff T st o an.id
 usesOnly (an : Ann) : Bool := match an.res with
    | .row h => an.rows.any fun p => Nat.beq p.1 h
    | .tup ss => ss.all fun s => match s with
      | .row h => an.rows.any fun p => Nat.beq p.1 h
      | s => closedS s
    | s => closedS s

/-- What was told of it beforehand. -/
def Ann.mend (an : Ann) (E : Eff) : Option Eff :=
  match an.fix, an.fixI with
  | none, none => some E
  | some b, _ => match E.s with
    | some (.val .bool x) => some { E with ps := E.ps ++ [x = b], s := some (.val .bool b) }
    | _ => none
  | none, some n => match E.s with
    | some (.val (.int k) x) => some { E with ps := E.ps ++ [x = n], s := some (.val (.int k) n) }
    | _ => none

def vop (P : Program) (T : Nat → Option TI) (st : VState) (o : Oper) (an : Ann) : Option Eff := (vop0 P T st o an).bind an.mend

section
variable {C : Ctx} {ρ ρ' : Own} {ok ok' : Nat → Prop} {st : VState} {a : Act} {w w' : World} {T : Nat → Option TI} {P : Program}

mutual
theorem closed_uses : ∀ (s : Slot), closedS s = true → (∀ h, usesR h s = false) ∧ (∀ k, usesB k s = false)
  | .val t x, _ => ⟨fun _ => rfl, fun _ => rfl⟩
  | .row h, hc => by simp [closedS] at hc
  | .box k off, hc => by simp [closedS] at hc
  | .elt h sz i off, hc => by simp [closedS] at hc
  | .ptr ss, hc => by
    have := closed_usesL ss (by simpa [closedS] using hc)
    exact ⟨fun h => by simpa [usesR] using this.1 h, fun h => by simpa [usesB] using this.2 h⟩
  | .agg ss, hc => by
    have := closed_usesL ss (by simpa [closedS] using hc)
    exact ⟨fun h => by simpa [usesR] using this.1 h, fun h => by simpa [usesB] using this.2 h⟩
  | .tup ss, hc => by
    have := closed_usesL ss (by simpa [closedS] using hc)
    exact ⟨fun h => by simpa [usesR] using this.1 h, fun h => by simpa [usesB] using this.2 h⟩
  | .fn f ss, hc => by
    have := closed_usesL ss (by simpa [closedS] using hc)
    exact ⟨fun h => by simpa [usesR] using this.1 h, fun h => by simpa [usesB] using this.2 h⟩
  | .nilp, _ => ⟨fun _ => rfl, fun _ => rfl⟩
  | .nilf, _ => ⟨fun _ => rfl, fun _ => rfl⟩
theorem closed_usesL : ∀ (ss : List Slot), closedL ss = true → (∀ h, usesRs h ss = false) ∧ (∀ k, usesBs k ss = false)
  | [], _ => ⟨fun _ => rfl, fun _ => rfl⟩
  | s :: ss, hc => by
    simp only [closedL, Bool.and_eq_true] at hc
    have h1 := closed_uses s hc.1
    have h2 := closed_usesL ss hc.2
    exact ⟨fun h => by simp [usesRs, h1.1 h, h2.1 h], fun h => by simp [usesBs, h1.2 h, h2.2 h]⟩
end

mutual
theorem flat_cells : ∀ (s : Slot) {cs : List Value}, flatS s = true → (∀ h, usesR h s = true → ρ'.row h = ρ.row h) → RenC ρ ok w s cs → RenC ρ' ok' w' s cs
  | .val t x, cs, hf, hu, h => by rw [RenC] at h ⊢; exact Rn.ofFlat (by simpa [flatS] using hf) h
  | .row h', cs, hf, hu, h => by rw [RenC] at h ⊢; rw [hu h' (by simp [usesR])]; exact h
  | .agg _, cs, hf, hu, h => by rw [RenC] at h; exact h.elim
  | .tup _, cs, hf, hu, h => by rw [RenC] at h; exact h.elim
  | .nilp, cs, hf, hu, h => by rw [RenC] at h ⊢; exact h
  | .nilf, cs, hf, hu, h => by rw [RenC] at h ⊢; exact h
  | .box k off, cs, hf, hu, h => by simp [flatS] at hf
  | .elt _ _ _ _, cs, hf, hu, h => by simp [flatS] at hf
  | .ptr _, cs, hf, hu, h => by simp [flatS] at hf
  | .fn _ _, cs, hf, hu, h => by simp [flatS] at hf
theorem flat_cellsL : ∀ (ss : List Slot) {cs : List Value}, flatL ss = true → (∀ h, usesRs h ss = true → ρ'.row h = ρ.row h) → RenCs ρ ok w ss cs → RenCs ρ' ok' w' ss cs
  | [], cs, hf, hu, h => by rw [RenCs] at h ⊢; exact h
  | s :: ss, cs, hf, hu, h => by
    rw [RenCs] at h ⊢
    simp only [flatL, Bool.and_eq_true] at hf
    obtain ⟨c1, c2, e, h1, h2⟩ := h
    exact ⟨c1, c2, e, flat_cells s hf.1 (fun h hh => hu h (by simp [usesRs, hh])) h1, flat_cellsL ss hf.2 (fun h hh => hu h (by simp [usesRs, hh])) h2⟩
theorem flat_val : ∀ (s : Slot) {v : Value}, flatS s = true → (∀ h, usesR h s = true → ρ'.row h = ρ.row h) → RenS ρ ok w s v → RenS ρ' ok' w' s v
  | .val t x, v, hf, hu, h => by
    rw [RenS] at h ⊢
    obtain ⟨cs, h1, h2⟩ := h
    exact ⟨cs, Rn.ofFlat (by simpa [flatS] using hf) h1, h2⟩
  | .row h', v, hf, hu, h => by rw [RenS] at h ⊢; rw [hu h' (by simp [usesR])]; exact h
  | .agg ss, v, hf, hu, h => by
    rw [RenS] at h ⊢
    obtain ⟨cs, h1, e⟩ := h
    exact ⟨cs, flat_cellsL ss (by simpa [flatS] using hf) (fun h hh => hu h (by simpa [usesR] using hh)) h1, e⟩
  | .tup ss, v, hf, hu, h => by
    rw [RenS] at h ⊢
    obtain ⟨cs, h1, e⟩ := h
    exact ⟨cs, flat_vals ss (by simpa [flatS] using hf) (fun h hh => hu h (by simpa [usesR] using hh)) h1, e⟩
  | .nilp, v, hf, hu, h => by rw [RenS] at h ⊢; exact h
  | .nilf, v, hf, hu, h => by rw [RenS] at h ⊢; exact h
  | .box k off, v, hf, hu, h => by simp [flatS] at hf
  | .elt _ _ _ _, v, hf, hu, h => by simp [flatS] at hf
  | .ptr _, v, hf, hu, h => by simp [flatS] at hf
  | .fn _ _, v, hf, hu, h => by simp [flatS] at hf
theorem flat_vals : ∀ (ss : List Slot) {vs : List Value}, flatL ss = true → (∀ h, usesRs h ss = true → ρ'.row h = ρ.row h) → RenVs ρ ok w ss vs → RenVs ρ' ok' w' ss vs
  | [], vs, hf, hu, h => by rw [RenVs] at h ⊢; exact h
  | s :: ss, vs, hf, hu, h => by
    rw [RenVs] at h ⊢
    simp only [flatL, Bool.and_eq_true] at hf
    obtain ⟨v, vs', e, h1, h2⟩ := h
    exact ⟨v, vs', e, flat_val s hf.1 (fun h hh => hu h (by simp [usesRs, hh])) h1, flat_vals ss hf.2 (fun h hh => hu h (by simp [usesRs, hh])) h2⟩
end

theorem RowOk.flat {h : Nat} {R : Row} (r : RowOk ρ ok w h R) (hf : R.t.flat = true) : RowOk ρ ok' w h R := by
  obtain ⟨cs, ho, hc⟩ := r
  exact ⟨cs, ho, RnL.imp (fun x c hx => Rn.ofFlat hf hx) hc⟩
end
end Go.V
