/- The value logic, part 1: the types of plain values and how a value lies in memory. -/
import Derived.Below
import Derived.Maps.AppendAt
import Derived.KernelRfl
import Derived.OwnWalk
import Derived.OwnWalk
set_option linter.unusedVariables false
namespace Go.V
open Go.RowKit (Below)

/-- The plain types. A struct is '.st' of its fields, bound to the right by '.pr'. -/
inductive Ty where
  | int (k : IntKind)
  | bool
  | str
  | sl (e : Nat) (t : Ty)
  | st (t : Ty)
  | pr (a b : Ty)
  | arr (n : Nat) (t : Ty)

@[reducible] def Ty.D : Ty → Type
  | .int _ => Int
  | .bool => Bool
  | .str => ByteArray
  | .sl _ t => List t.D
  | .st t => t.D
  | .pr a b => a.D × b.D
  | .arr _ t => List t.D

/-- How many cells. -/
def Ty.size : Ty → Nat
  | .int _ => 1
  | .bool => 1
  | .str => 1
  | .sl _ _ => 1
  | .st t => t.size
  | .pr a b => a.size + b.size
  | .arr n t => n * t.size

def Ty.zero : (t : Ty) → t.D
  | .int _ => (0 : Int)
  | .bool => false
  | .str => ByteArray.empty
  | .sl _ _ => []
  | .st t => t.zero
  | .pr a b => (a.zero, b.zero)
  | .arr n t => List.replicate n t.zero

/-- Is its value one aggregate (a struct, an array)? -/
def Ty.isAgg : Ty → Bool
  | .st _ | .pr _ _ | .arr _ _ => true
  | _ => false

/-- Values that lead to no memory. -/
def Ty.flat : Ty → Bool
  | .int _ | .bool | .str => true
  | .sl _ _ => false
  | .st t => t.flat
  | .pr a b => a.flat && b.flat
  | .arr _ t => t.flat

/-- The elements of a list, laid one behind the other. -/
def RnL {α : Type} (R : α → List Value → Prop) : List α → List Value → Prop
  | [], cs => cs = []
  | x :: l, cs => ∃ c1 c2, cs = c1 ++ c2 ∧ R x c1 ∧ RnL R l c2

/-- The elements of a slice as they lie from an address on, in blocks that 'ok' lets. -/
def Row0 {α : Type} (ok : Nat → Prop) (w : World) (R : α → List Value → Prop) (sz : Nat) (A : Option Addr) (l : List α) : Prop :=
  ∀ (i : Nat) (x : α), l[i]? = some x → ∃ ad cs, A = some ad ∧ ok ad.block ∧ R x cs ∧ ∀ (j : Nat) (u : Value), cs[j]? = some u → w.cell? (ad.add (i * sz + j)) = some u

/-- How a value's cells read. -/
def Rn (ok : Nat → Prop) (w : World) : (t : Ty) → t.D → List Value → Prop
  | .int k, x, cs => cs = [.int k x]
  | .bool, x, cs => cs = [.bool x]
  | .str, x, cs => cs = [.string x]
  | .sl _ t, l, cs => ∃ A c, cs = [.slice A l.length c] ∧ l.length ≤ c ∧ c ≤ maxLen ∧ Row0 ok w (Rn ok w t) t.size A l
  | .st t, x, cs => Rn ok w t x cs
  | .pr a b, x, cs => ∃ c1 c2, cs = c1 ++ c2 ∧ Rn ok w a x.1 c1 ∧ Rn ok w b x.2 c2
  | .arr n t, l, cs => l.length = n ∧ RnL (Rn ok w t) l cs

theorem RnL.length {α : Type} {R : α → List Value → Prop} {sz : Nat} (h : ∀ x cs, R x cs → cs.length = sz) : ∀ {l : List α} {cs : List Value}, RnL R l cs → cs.length = l.length * sz
  | [], cs, hc => by simp [RnL] at hc; simp [hc]
  | x :: l, cs, hc => by
    obtain ⟨c1, c2, rfl, h1, h2⟩ := hc
    rw [List.length_append, h _ _ h1, RnL.length h h2, List.length_cons, Nat.add_mul, Nat.one_mul, Nat.add_comm]

theorem RnL.imp {α : Type} {R R' : α → List Value → Prop} (h : ∀ x cs, R x cs → R' x cs) : ∀ {l : List α} {cs : List Value}, RnL R l cs → RnL R' l cs
  | [], _, hc => hc
  | _ :: _, _, ⟨c1, c2, e, h1, h2⟩ => ⟨c1, c2, e, h _ _ h1, RnL.imp h h2⟩

theorem RnL.all {α : Type} {R : α → List Value → Prop} {p : Value → Prop} (h : ∀ x cs, R x cs → ∀ u ∈ cs, p u) : ∀ {l : List α} {cs : List Value}, RnL R l cs → ∀ u ∈ cs, p u
  | [], cs, hc, u, hu => by simp [RnL] at hc; simp [hc] at hu
  | x :: l, cs, hc, u, hu => by
    obtain ⟨c1, c2, rfl, h1, h2⟩ := hc
    rcases List.mem_append.1 hu with hu | hu
    · exact h _ _ h1 u hu
    · exact RnL.all h h2 u hu

theorem Rn.length {ok : Nat → Prop} {w : World} : ∀ {t : Ty} {x : t.D} {cs : List Value}, Rn ok w t x cs → cs.length = t.size
  | .int k, _, _, h => by simp [Rn] at h; simp [h, Ty.size]
  | .bool, _, _, h => by simp [Rn] at h; simp [h, Ty.size]
  | .str, _, _, h => by simp [Rn] at h; simp [h, Ty.size]
  | .sl _ _, _, _, h => by obtain ⟨A, c, rfl, _⟩ := h; simp [Ty.size]
  | .st t, _, _, h => Rn.length (t := t) h
  | .pr a b, _, _, h => by
    obtain ⟨c1, c2, rfl, h1, h2⟩ := h
    rw [List.length_append, Rn.length h1, Rn.length h2, Ty.size]
  | .arr n t, _, _, h => by
    rw [RnL.length (sz := t.size) (fun x cs hx => Rn.length hx) h.2, h.1, Ty.size]

theorem Rn.one {ok : Nat → Prop} {w : World} : ∀ {t : Ty} {x : t.D} {cs : List Value}, Rn ok w t x cs → ∀ u ∈ cs, u.oneCell' = true
  | .int k, _, _, h => by simp [Rn] at h; simp [h, Value.oneCell']
  | .bool, _, _, h => by simp [Rn] at h; simp [h, Value.oneCell']
  | .str, _, _, h => by simp [Rn] at h; simp [h, Value.oneCell']
  | .sl _ _, _, _, h => by obtain ⟨A, c, rfl, _⟩ := h; simp [Value.oneCell']
  | .st t, _, _, h => Rn.one (t := t) h
  | .pr a b, _, _, h => by
    obtain ⟨c1, c2, rfl, h1, h2⟩ := h
    intro u hu
    rcases List.mem_append.1 hu with hu | hu
    · exact Rn.one h1 u hu
    · exact Rn.one h2 u hu
  | .arr n t, _, _, h => RnL.all (fun x cs hx => Rn.one hx) h.2

/-- Where the blocks that it leads to have not turned, a value reads as it did. -/
theorem Rn.move {ok ok' : Nat → Prop} {w w' : World} (hok : ∀ b, ok b → ok' b) (hm : ∀ b, ok b → b < w.heap.size → w'.heap[b]? = w.heap[b]?) :
    ∀ {t : Ty} {x : t.D} {cs : List Value}, Rn ok w t x cs → Rn ok' w' t x cs
  | .int k, _, _, h => h
  | .bool, _, _, h => h
  | .str, _, _, h => h
  | .sl _ t, l, _, h => by
    obtain ⟨A, c, rfl, h1, h2, hr⟩ := h
    refine ⟨A, c, rfl, h1, h2, fun i x hx => ?_⟩
    obtain ⟨ad, cs, rfl, hb, hR, hc⟩ := hr i x hx
    refine ⟨ad, cs, rfl, hok _ hb, Rn.move hok hm hR, fun j u hu => ?_⟩
    have := hc j u hu
    have hlt := World.block_lt_of_cell? w _ this
    have hblk : ∀ k, (ad.add k).block = ad.block := fun k => by unfold Addr.add; split <;> rfl
    rw [hblk] at hlt
    exact (World.cell?_of_block (by rw [hblk]; exact hm _ hb hlt)).trans this
  | .st t, _, _, h => Rn.move (t := t) hok hm h
  | .pr a b, _, _, h => by
    obtain ⟨c1, c2, e, h1, h2⟩ := h
    exact ⟨c1, c2, e, Rn.move hok hm h1, Rn.move hok hm h2⟩
  | .arr n t, _, _, h => ⟨h.1, RnL.imp (fun x cs hx => Rn.move hok hm hx) h.2⟩

/-- A value that leads to no memory reads so in every world. -/
theorem Rn.ofFlat {ok ok' : Nat → Prop} {w w' : World} : ∀ {t : Ty} {x : t.D} {cs : List Value}, t.flat = true → Rn ok w t x cs → Rn ok' w' t x cs
  | .int k, _, _, _, h => h
  | .bool, _, _, _, h => h
  | .str, _, _, _, h => h
  | .sl _ t, _, _, hf, _ => by simp [Ty.flat] at hf
  | .st t, _, _, hf, h => Rn.ofFlat (t := t) hf h
  | .pr a b, _, _, hf, h => by
    obtain ⟨c1, c2, e, h1, h2⟩ := h
    simp [Ty.flat] at hf
    exact ⟨c1, c2, e, Rn.ofFlat hf.1 h1, Rn.ofFlat hf.2 h2⟩
  | .arr n t, _, _, hf, h => ⟨h.1, RnL.imp (fun x cs hx => Rn.ofFlat (t := t) hf hx) h.2⟩

/-- The value out of its cells. -/
def mkv (t : Ty) (cs : List Value) : Value := if t.isAgg then .agg cs.toArray else cs.headD undef

end Go.V
