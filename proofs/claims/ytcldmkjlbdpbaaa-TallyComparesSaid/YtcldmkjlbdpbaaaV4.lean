/- The value logic, part 4: operations that read alone. -/
import Derived.Test.YtcldmkjlbdpbaaaV3
import Derived.WalkKit
import Derived.Laws.StructEq
set_option linter.unusedVariables false
set_option linter.unusedSimpArgs false
namespace Go.V
open Go.RowKit (Below)

theorem bytes_toList (s : ByteArray) : s.toList = s.data.toList := by
  have key : ∀ (n i : Nat) (r : List UInt8), s.size - i = n → ByteArray.toList.loop s i r = r.reverse ++ s.data.toList.drop i := by
    intro n
    induction n with
    | zero =>
      intro i r h
      rw [ByteArray.toList.loop, if_neg (by omega), List.drop_eq_nil_of_le (by simp only [Array.length_toList]; show s.data.size ≤ i; have : s.size = s.data.size := rfl; omega), List.append_nil]
    | succ n ih =>
      intro i r h
      have hlt : i < s.data.size := by have : s.size = s.data.size := rfl; omega
      rw [ByteArray.toList.loop, if_pos (by omega), ih (i + 1) _ (by omega), List.reverse_cons, List.append_assoc]
      congr 1
      have hd := List.drop_eq_getElem_cons (l := s.data.toList) (i := i) (by simpa using hlt)
      rw [hd, List.singleton_append]
      congr 1
      simp only [ByteArray.get!, Array.getElem_toList]
      exact getElem!_pos s.data i hlt
  have := key s.size 0 [] (by omega)
  simpa [ByteArray.toList] using this

theorem bytes_eq {a b : ByteArray} : (a.toList == b.toList) = decide (a = b) := by
  rw [bytes_toList, bytes_toList]
  by_cases h : a = b
  · subst h; simp
  · rw [decide_eq_false h]
    simp only [beq_eq_false_iff_ne, ne_eq]
    intro e
    exact h (by cases a; cases b; simp only [ByteArray.mk.injEq]; exact Array.ext' e)

/-- A byte of a text, as a number. -/
def byteAt (s : ByteArray) (i : Nat) : Int := ((s.data.toList.getD i 0).toNat : Int)
/-- Texts in order. -/
def ltS (a b : ByteArray) : Bool := Op.bytesLess a.data.toList b.data.toList
def imax (x y : Int) : Int := if y > x then y else x
def imin (x y : Int) : Int := if y < x then y else x

/-! ### Types -/
structure TI where
  desc : TypeDesc
  size : Nat
  bytes : Nat
  zero : Option Value
  ty : Ty
  zc : List Slot
  eq : Bool := false    -- a struct that '==' compares field by field

def TI.agg (i : TI) : Bool := match i.desc with | .struct _ | .array _ _ => true | _ => false

/-- What the loaded program says of a type. -/
structure TFact (P : Program) (t : Nat) (i : TI) : Prop where
  info : ∃ f, P.info? t = some f ∧ f.size = i.size ∧ f.bytes = i.bytes ∧ f.zero = i.zero
  und : P.underlying t = some i.desc
  zs : ∀ z, i.zero = some z → z.cells.size = i.size
  zc : ∀ z, i.zero = some z → ∀ (ρ : Own) (ok : Nat → Prop) (w : World), RenCs ρ ok w i.zc z.cells.toList
  eqg : i.eq = true → P.stoodInHeld t = false ∧ P.eqGuardType P.depth t = false ∧ ∀ fs, i.desc = .struct fs → ∀ f ∈ fs.toList, f.name ≠ "_"

def TOk (P : Program) (T : Nat → Option TI) : Prop := ∀ t i, T t = some i → TFact P t i

section
variable {P : Program} {t : Nat} {i : TI}
theorem run_size (f : TFact P t i) (w : World) : (Go.sizeOf t).run P w = .ok i.size w := by
  obtain ⟨g, h1, h2, _⟩ := f.info
  simp [Go.sizeOf, typeInfo, h1, h2]
theorem run_und (f : TFact P t i) (w : World) : (Go.underlying t).run P w = .ok i.desc w := run_underlying f.und w
theorem run_zero (f : TFact P t i) (w : World) {z : Value} (hz : i.zero = some z) : (Go.zeroValue t).run P w = .ok z w := by
  obtain ⟨g, h1, _, _, h4⟩ := f.info
  simp [Go.zeroValue, typeInfo, h1, h4, hz]
theorem run_isAgg (f : TFact P t i) (w : World) : (Go.isAgg t).run P w = .ok i.agg w := by
  simp only [Go.isAgg, Sem.run_bind, run_und f w, Result.andThen_ok, TI.agg]
  cases i.desc <;> rfl
end

/-! ### Operands -/
def assoc {α : Type} (k : Nat) : List (Nat × α) → Option α
  | [] => none
  | p :: l => match Nat.beq p.1 k with
    | true => some p.2
    | false => assoc k l
theorem assoc_mem {α : Type} {k : Nat} {x : α} : ∀ {l : List (Nat × α)}, assoc k l = some x → (k, x) ∈ l
  | [], h => by simp [assoc] at h
  | p :: l, h => by
    simp only [assoc] at h
    split at h
    · rename_i e
      have := Nat.eq_of_beq_eq_true e
      simp at h
      subst h
      subst this
      exact List.mem_cons_self
    · exact List.mem_cons_of_mem _ (assoc_mem h)

def constSlot (T : Nat → Option TI) (t : Nat) : Value → Option Slot
  | .int k n => some (.val (.int k) n)
  | .bool b => some (.val .bool b)
  | .string s => some (.val .str s)
  | .pointer none => some .nilp
  | .nilFunc => some .nilf
  | .slice none 0 0 => (T t).bind fun i => match i.ty with
    | .sl e t => some (.val (.sl e t) [])
    | _ => none
  | _ => none

def ev (T : Nat → Option TI) (st : VState) (t : Nat) : Operand → Option Slot
  | .tmp k => assoc k st.slots
  | .const v => constSlot T t v
  | .func f => some (.fn f [])
  | .global _ => none

def evs (T : Nat → Option TI) (st : VState) : List Operand → List Nat → Option (List Slot)
  | [], _ => some []
  | x :: xs, ts => (ev T st (ts.headD 0) x).bind fun s => (evs T st xs ts.tail).map (s :: ·)

section
variable {C : Ctx} {ρ : Own} {ok : Nat → Prop} {st : VState} {a : Act} {w : World} {T : Nat → Option TI}

theorem row0_nil {α : Type} {R : α → List Value → Prop} {sz : Nat} {A : Option Addr} : Row0 ok w R sz A ([] : List α) := fun i x h => by simp at h

theorem constSlot_sound {t : Nat} {v : Value} {s : Slot} (h : constSlot T t v = some s) : RenS ρ ok w s v := by
  unfold constSlot at h
  split at h
  · cases h; rw [RenS]; exact ⟨[_], rfl, rfl⟩
  · cases h; rw [RenS]; exact ⟨[_], rfl, rfl⟩
  · cases h; rw [RenS]; exact ⟨[_], rfl, rfl⟩
  · cases h; rw [RenS]
  · cases h; rw [RenS]
  · cases ht : T t with
    | none => rw [ht] at h; cases h
    | some i =>
      rw [ht] at h
      simp only [Option.bind_some] at h
      split at h
      · cases h
        rw [RenS]
        exact ⟨[_], ⟨none, 0, rfl, Nat.le_refl _, Nat.zero_le _, row0_nil⟩, rfl⟩
      · cases h
  · cases h

theorem ev_sound (r : Rel C ρ ok st a w) {t : Nat} {x : Operand} {s : Slot} (h : ev T st t x = some s) : RenS ρ ok w s (a.eval x) := by
  cases x with
  | tmp k =>
    obtain ⟨v, hv, hs⟩ := r.slots _ (assoc_mem h)
    simpa [Act.eval, Array.getD_eq_getD_getElem?, hv] using hs
  | const v => exact constSlot_sound h
  | func f => cases h; rw [RenS]; exact ⟨[], rfl, by rw [RenVs]⟩
  | «global» g => cases h

theorem evs_sound (r : Rel C ρ ok st a w) : ∀ {xs : List Operand} {ts : List Nat} {ss : List Slot}, evs T st xs ts = some ss → RenVs ρ ok w ss (xs.map a.eval)
  | [], ts, ss, h => by cases h; rw [RenVs]; rfl
  | x :: xs, ts, ss, h => by
    simp only [evs] at h
    cases hs : ev T st (ts.headD 0) x with
    | none => rw [hs] at h; cases h
    | some s =>
      rw [hs] at h
      simp only [Option.bind_some] at h
      cases h2 : evs T st xs ts.tail with
      | none => rw [h2] at h; cases h
      | some l =>
        rw [h2] at h
        cases h
        rw [RenVs]
        exact ⟨_, _, rfl, ev_sound r hs, evs_sound r h2⟩
end
end Go.V
