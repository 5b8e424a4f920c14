/- The value logic, part 23: what the loaded program says of its types. -/
import Derived.Test.YtcldmkjlbdpbaaaV22
set_option linter.unusedVariables false
set_option linter.unusedSimpArgs false
namespace Go.V
open Go.RowKit (Below)

def repV : Nat → List Value → List Value
  | 0, _ => []
  | n + 1, l => l ++ repV n l
/-- The cells of a type's zero. -/
def zv : Ty → List Value
  | .int k => [.int k 0]
  | .bool => [.bool false]
  | .str => [.string ByteArray.empty]
  | .sl _ _ => [.slice none 0 0]
  | .st t => zv t
  | .pr a b => zv a ++ zv b
  | .arr n t => repV n (zv t)

section
variable {ok : Nat → Prop} {w : World} {P : Program}
theorem rn_zero : ∀ (t : Ty), Rn ok w t t.zero (zv t)
  | .int k => rfl
  | .bool => rfl
  | .str => rfl
  | .sl e t => ⟨none, 0, rfl, Nat.le_refl _, Nat.zero_le _, row0_nil⟩
  | .st t => rn_zero t
  | .pr a b => ⟨_, _, rfl, rn_zero a, rn_zero b⟩
  | .arr n t => by
    refine ⟨by simp [Ty.zero], ?_⟩
    show RnL (Rn ok w t) (List.replicate n t.zero) (repV n (zv t))
    induction n with
    | zero => rfl
    | succ n ih => exact ⟨_, _, rfl, rn_zero t, ih⟩

/-- A type of plain values, as the table tells it. -/
def TI.plain (d : TypeDesc) (f : TypeInfo) (ty : Ty) (eq : Bool) : TI := { desc := d, size := f.size, bytes := f.bytes, zero := f.zero, ty := ty, zc := cellsOf ty ty.zero, eq := eq }
def noBlank : TypeDesc → Bool
  | .struct fs => fs.toList.all fun f => f.name != "_"
  | _ => true
def okEq (P : Program) (t : Nat) (d : TypeDesc) : Bool → Bool
  | false => true
  | true => !P.stoodInHeld t && !P.eqGuardType P.depth t && noBlank d
theorem tfact {t : Nat} {f : TypeInfo} {d : TypeDesc} {ty : Ty} {eq : Bool} (hi : P.info? t = some f) (hu : P.underlying t = some d) (hs : Nat.beq f.size ty.size = true)
    (hz : (f.zero.map fun z => z.cells.toList) = some (zv ty)) (he : okEq P t d eq = true) : TFact P t (TI.plain d f ty eq) := by
  refine ⟨⟨f, hi, rfl, rfl, rfl⟩, hu, ?_, ?_, ?_⟩
  · intro z h
    have h' : f.zero = some z := h
    rw [h'] at hz
    have e : z.cells.toList = zv ty := Option.some.inj hz
    have hl := Rn.length (rn_zero (ok := fun _ => True) (w := (default : World)) ty)
    rw [← Array.length_toList, e, hl]
    exact (Nat.eq_of_beq_eq_true hs).symm
  · intro z h ρ ok w
    have h' : f.zero = some z := h
    rw [h'] at hz
    have e : z.cells.toList = zv ty := Option.some.inj hz
    rw [e]
    exact renCs_cellsOf (rn_zero ty)
  · intro h
    have h' : eq = true := h
    subst h'
    simp only [okEq, Bool.and_eq_true, Bool.not_eq_true'] at he
    refine ⟨he.1.1, he.1.2, ?_⟩
    intro fs hd f hf
    have hd' : d = .struct fs := hd
    have hb := he.2
    rw [hd'] at hb
    simp only [noBlank, List.all_eq_true] at hb
    simpa using hb f hf

/-- A type of functions. -/
def TI.func (d : TypeDesc) (f : TypeInfo) : TI := { desc := d, size := f.size, bytes := f.bytes, zero := f.zero, ty := .bool, zc := [.nilf] }
theorem tfact_func {t : Nat} {f : TypeInfo} {d : TypeDesc} (hi : P.info? t = some f) (hu : P.underlying t = some d) (hs : Nat.beq f.size 1 = true)
    (hz : (f.zero.map fun z => z.cells.toList) = some [.nilFunc]) : TFact P t (TI.func d f) := by
  refine ⟨⟨f, hi, rfl, rfl, rfl⟩, hu, ?_, ?_, fun h => by cases h⟩
  · intro z h
    have h' : f.zero = some z := h
    rw [h'] at hz
    have e : z.cells.toList = [.nilFunc] := Option.some.inj hz
    rw [← Array.length_toList, e]
    exact (Nat.eq_of_beq_eq_true hs).symm
  · intro z h ρ ok w
    have h' : f.zero = some z := h
    rw [h'] at hz
    have e : z.cells.toList = [.nilFunc] := Option.some.inj hz
    rw [e]
    exact RenCs.single.2 (by rw [RenC])
/-- A type of pointers. -/
def TI.ptr (d : TypeDesc) (f : TypeInfo) : TI := { desc := d, size := f.size, bytes := f.bytes, zero := f.zero, ty := .bool, zc := [.nilp] }
theorem tfact_ptr {t : Nat} {f : TypeInfo} {d : TypeDesc} (hi : P.info? t = some f) (hu : P.underlying t = some d) (hs : Nat.beq f.size 1 = true)
    (hz : (f.zero.map fun z => z.cells.toList) = some [.pointer none]) : TFact P t (TI.ptr d f) := by
  refine ⟨⟨f, hi, rfl, rfl, rfl⟩, hu, ?_, ?_, fun h => by cases h⟩
  · intro z h
    have h' : f.zero = some z := h
    rw [h'] at hz
    have e : z.cells.toList = [.pointer none] := Option.some.inj hz
    rw [← Array.length_toList, e]
    exact (Nat.eq_of_beq_eq_true hs).symm
  · intro z h ρ ok w
    have h' : f.zero = some z := h
    rw [h'] at hz
    have e : z.cells.toList = [.pointer none] := Option.some.inj hz
    rw [e]
    exact RenCs.single.2 (by rw [RenC])

def AllF (P : Program) : List (Nat × TI) → Prop
  | [] => True
  | p :: l => TFact P p.1 p.2 ∧ AllF P l
theorem allF_mem : ∀ {l : List (Nat × TI)}, AllF P l → ∀ p ∈ l, TFact P p.1 p.2
  | [], _, p, hp => by cases hp
  | q :: l, h, p, hp => by
    rcases List.mem_cons.1 hp with rfl | hp
    · exact h.1
    · exact allF_mem h.2 p hp
theorem tok_of {l : List (Nat × TI)} (h : AllF P l) : TOk P (fun t => assoc t l) := fun t i ht => allF_mem h (t, i) (assoc_mem ht)
end

/-- A value as a slot: a struct cell by cell. -/
def slotOf (t : Ty) (x : t.D) : Slot := match t.isAgg with
  | true => .agg (cellsOf t x)
  | false => .val t x
end Go.V
