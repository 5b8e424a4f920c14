/- The value logic, part 2: abstract slots, and what they say of values. -/
import Derived.Test.YtcldmkjlbdpbaaaV1
set_option linter.unusedVariables false
namespace Go.V
open Go.RowKit (Below)

deriving instance DecidableEq for Ty

/-- What a temporary (or a cell) holds. -/
inductive Slot where
  | val (t : Ty) (x : t.D)                       -- a plain value
  | row (h : Nat)                                -- a slice that the call owns
  | box (k off : Nat)                            -- a pointer into a variable that the call owns
  | elt (h sz : Nat) (i : Int) (off : Nat)       -- a pointer into an element of a row that the call owns
  | ptr (cs : List Slot)                         -- a pointer to cells that are read alone
  | agg (cs : List Slot)                         -- a struct, cell by cell
  | tup (cs : List Slot)                         -- several results
  | fn (f : Nat) (caps : List Slot)              -- a function value
  | nilp
  | nilf

/-- A row that the call owns: its element type's number, its elements' type, its elements. -/
structure Row where
  e : Nat
  t : Ty
  l : List t.D

/-- The abstract state. -/
structure VState where
  slots : List (Nat × Slot)
  rows : List (Nat × Row)
  boxes : List (Nat × (Nat × List Slot))

/-- Where what the call owns lies. -/
structure Own where
  row : Nat → Value
  box : Nat → Nat

mutual
def RenC (ρ : Own) (ok : Nat → Prop) (w : World) : Slot → List Value → Prop
  | .val t x, cs => Rn ok w t x cs
  | .row h, cs => cs = [ρ.row h]
  | .box k off, cs => cs = [.pointer (some ⟨ρ.box k, off, none⟩)]
  | .elt h sz i off, cs => ∃ a n c, ρ.row h = .slice (some a) n c ∧ cs = [.pointer (some ⟨a.block, a.off + (i.toNat * sz + off), none⟩)]
  | .ptr ss, cs => ∃ ad cs', cs = [.pointer (some ad)] ∧ (ss = [] ∨ ok ad.block) ∧ RenCs ρ ok w ss cs' ∧ ∀ (j : Nat) (u : Value), cs'[j]? = some u → w.cell? (ad.add j) = some u
  | .agg _, _ => False
  | .tup _, _ => False
  | .fn f ss, cs => ∃ vs : List Value, cs = [.func (.func f) #[] vs.toArray] ∧ RenVs ρ ok w ss vs
  | .nilp, cs => cs = [.pointer none]
  | .nilf, cs => cs = [.nilFunc]
def RenCs (ρ : Own) (ok : Nat → Prop) (w : World) : List Slot → List Value → Prop
  | [], cs => cs = []
  | s :: ss, cs => ∃ c1 c2, cs = c1 ++ c2 ∧ RenC ρ ok w s c1 ∧ RenCs ρ ok w ss c2
def RenS (ρ : Own) (ok : Nat → Prop) (w : World) : Slot → Value → Prop
  | .val t x, v => ∃ cs, Rn ok w t x cs ∧ v = mkv t cs
  | .row h, v => v = ρ.row h
  | .box k off, v => v = .pointer (some ⟨ρ.box k, off, none⟩)
  | .elt h sz i off, v => ∃ a n c, ρ.row h = .slice (some a) n c ∧ v = .pointer (some ⟨a.block, a.off + (i.toNat * sz + off), none⟩)
  | .ptr ss, v => ∃ ad cs', v = .pointer (some ad) ∧ (ss = [] ∨ ok ad.block) ∧ RenCs ρ ok w ss cs' ∧ ∀ (j : Nat) (u : Value), cs'[j]? = some u → w.cell? (ad.add j) = some u
  | .agg ss, v => ∃ cs, RenCs ρ ok w ss cs ∧ v = .agg cs.toArray
  | .tup ss, v => ∃ vs : List Value, RenVs ρ ok w ss vs ∧ v = .tuple vs.toArray
  | .fn f ss, v => ∃ vs : List Value, v = .func (.func f) #[] vs.toArray ∧ RenVs ρ ok w ss vs
  | .nilp, v => v = .pointer none
  | .nilf, v => v = .nilFunc
def RenVs (ρ : Own) (ok : Nat → Prop) (w : World) : List Slot → List Value → Prop
  | [], vs => vs = []
  | s :: ss, vs => ∃ v vs', vs = v :: vs' ∧ RenS ρ ok w s v ∧ RenVs ρ ok w ss vs'
end

mutual
def usesR (h : Nat) : Slot → Bool
  | .row h' => Nat.beq h h'
  | .elt h' _ _ _ => Nat.beq h h'
  | .ptr ss | .agg ss | .tup ss | .fn _ ss => usesRs h ss
  | _ => false
def usesRs (h : Nat) : List Slot → Bool
  | [] => false
  | s :: ss => usesR h s || usesRs h ss
end
mutual
def usesB (k : Nat) : Slot → Bool
  | .box k' _ => Nat.beq k k'
  | .ptr ss | .agg ss | .tup ss | .fn _ ss => usesBs k ss
  | _ => false
def usesBs (k : Nat) : List Slot → Bool
  | [] => false
  | s :: ss => usesB k s || usesBs k ss
end

section
variable {ρ ρ' : Own} {ok ok' : Nat → Prop} {w w' : World}

/-- What the slots of a list say, moved to another world. -/
structure Moves (ρ ρ' : Own) (ok ok' : Nat → Prop) (w w' : World) (R B : Nat → Prop) : Prop where
  row : ∀ h, R h → ρ'.row h = ρ.row h
  box : ∀ k, B k → ρ'.box k = ρ.box k
  oks : ∀ b, ok b → ok' b
  mem : ∀ b, ok b → b < w.heap.size → w'.heap[b]? = w.heap[b]?

theorem add_block (a : Addr) (k : Nat) : (a.add k).block = a.block := by unfold Addr.add; split <;> rfl

theorem cells_move {R B : Nat → Prop} (m : Moves ρ ρ' ok ok' w w' R B) {ad : Addr} {cs : List Value} (hb : cs = [] ∨ ok ad.block)
    (h : ∀ (j : Nat) (u : Value), cs[j]? = some u → w.cell? (ad.add j) = some u) :
    ∀ (j : Nat) (u : Value), cs[j]? = some u → w'.cell? (ad.add j) = some u := by
  intro j u hu
  have h1 := h j u hu
  have hlt := World.block_lt_of_cell? w _ h1
  rw [add_block] at hlt
  rcases hb with rfl | hb
  · simp at hu
  · exact (World.cell?_of_block (by rw [add_block]; exact m.mem _ hb hlt)).trans h1

mutual
theorem RenC.move {R B : Nat → Prop} (m : Moves ρ ρ' ok ok' w w' R B) : ∀ (s : Slot) {cs : List Value},
    (∀ h, usesR h s = true → R h) → (∀ k, usesB k s = true → B k) → RenC ρ ok w s cs → RenC ρ' ok' w' s cs
  | .val t x, cs, hr, hb, h => by rw [RenC] at h ⊢; exact Rn.move m.oks m.mem h
  | .row h', cs, hr, hb, h => by rw [RenC] at h ⊢; rw [m.row h' (hr h' (by simp [usesR]))]; exact h
  | .box k off, cs, hr, hb, h => by rw [RenC] at h ⊢; rw [m.box k (hb k (by simp [usesB]))]; exact h
  | .elt h' sz i off, cs, hr, hb, h => by rw [RenC] at h ⊢; rw [m.row h' (hr h' (by simp [usesR]))]; exact h
  | .ptr ss, cs, hr, hb, h => by
    rw [RenC] at h ⊢
    obtain ⟨ad, cs', e, ho, h1, h2⟩ := h
    refine ⟨ad, cs', e, ho.imp id (m.oks _), RenCs.move m ss (fun h hh => hr h (by simpa [usesR] using hh)) (fun k hh => hb k (by simpa [usesB] using hh)) h1, cells_move m ?_ h2⟩
    rcases ho with rfl | ho
    · left; simpa [RenCs] using h1
    · exact .inr ho
  | .agg _, cs, hr, hb, h => by rw [RenC] at h; exact h.elim
  | .tup _, cs, hr, hb, h => by rw [RenC] at h; exact h.elim
  | .fn f ss, cs, hr, hb, h => by
    rw [RenC] at h ⊢
    obtain ⟨vs, e, h1⟩ := h
    exact ⟨vs, e, RenVs.move m ss (fun h hh => hr h (by simpa [usesR] using hh)) (fun k hh => hb k (by simpa [usesB] using hh)) h1⟩
  | .nilp, cs, hr, hb, h => by rw [RenC] at h ⊢; exact h
  | .nilf, cs, hr, hb, h => by rw [RenC] at h ⊢; exact h
theorem RenCs.move {R B : Nat → Prop} (m : Moves ρ ρ' ok ok' w w' R B) : ∀ (ss : List Slot) {cs : List Value},
    (∀ h, usesRs h ss = true → R h) → (∀ k, usesBs k ss = true → B k) → RenCs ρ ok w ss cs → RenCs ρ' ok' w' ss cs
  | [], cs, hr, hb, h => by rw [RenCs] at h ⊢; exact h
  | s :: ss, cs, hr, hb, h => by
    rw [RenCs] at h ⊢
    obtain ⟨c1, c2, e, h1, h2⟩ := h
    exact ⟨c1, c2, e, RenC.move m s (fun h hh => hr h (by simp [usesRs, hh])) (fun k hh => hb k (by simp [usesBs, hh])) h1, RenCs.move m ss (fun h hh => hr h (by simp [usesRs, hh])) (fun k hh => hb k (by simp [usesBs, hh])) h2⟩
theorem RenS.move {R B : Nat → Prop} (m : Moves ρ ρ' ok ok' w w' R B) : ∀ (s : Slot) {v : Value},
    (∀ h, usesR h s = true → R h) → (∀ k, usesB k s = true → B k) → RenS ρ ok w s v → RenS ρ' ok' w' s v
  | .val t x, v, hr, hb, h => by
    rw [RenS] at h ⊢
    obtain ⟨cs, h1, h2⟩ := h
    exact ⟨cs, Rn.move m.oks m.mem h1, h2⟩
  | .row h', v, hr, hb, h => by rw [RenS] at h ⊢; rw [m.row h' (hr h' (by simp [usesR]))]; exact h
  | .box k off, v, hr, hb, h => by rw [RenS] at h ⊢; rw [m.box k (hb k (by simp [usesB]))]; exact h
  | .elt h' sz i off, v, hr, hb, h => by rw [RenS] at h ⊢; rw [m.row h' (hr h' (by simp [usesR]))]; exact h
  | .ptr ss, v, hr, hb, h => by
    rw [RenS] at h ⊢
    obtain ⟨ad, cs', e, ho, h1, h2⟩ := h
    refine ⟨ad, cs', e, ho.imp id (m.oks _), RenCs.move m ss (fun h hh => hr h (by simpa [usesR] using hh)) (fun k hh => hb k (by simpa [usesB] using hh)) h1, cells_move m ?_ h2⟩
    rcases ho with rfl | ho
    · left; simpa [RenCs] using h1
    · exact .inr ho
  | .agg ss, v, hr, hb, h => by
    rw [RenS] at h ⊢
    obtain ⟨cs, h1, e⟩ := h
    exact ⟨cs, RenCs.move m ss (fun h hh => hr h (by simpa [usesR] using hh)) (fun k hh => hb k (by simpa [usesB] using hh)) h1, e⟩
  | .tup ss, v, hr, hb, h => by
    rw [RenS] at h ⊢
    obtain ⟨vs, h1, e⟩ := h
    exact ⟨vs, RenVs.move m ss (fun h hh => hr h (by simpa [usesR] using hh)) (fun k hh => hb k (by simpa [usesB] using hh)) h1, e⟩
  | .fn f ss, v, hr, hb, h => by
    rw [RenS] at h ⊢
    obtain ⟨vs, e, h1⟩ := h
    exact ⟨vs, e, RenVs.move m ss (fun h hh => hr h (by simpa [usesR] using hh)) (fun k hh => hb k (by simpa [usesB] using hh)) h1⟩
  | .nilp, v, hr, hb, h => by rw [RenS] at h ⊢; exact h
  | .nilf, v, hr, hb, h => by rw [RenS] at h ⊢; exact h
theorem RenVs.move {R B : Nat → Prop} (m : Moves ρ ρ' ok ok' w w' R B) : ∀ (ss : List Slot) {vs : List Value},
    (∀ h, usesRs h ss = true → R h) → (∀ k, usesBs k ss = true → B k) → RenVs ρ ok w ss vs → RenVs ρ' ok' w' ss vs
  | [], vs, hr, hb, h => by rw [RenVs] at h ⊢; exact h
  | s :: ss, vs, hr, hb, h => by
    rw [RenVs] at h ⊢
    obtain ⟨v, vs', e, h1, h2⟩ := h
    exact ⟨v, vs', e, RenS.move m s (fun h hh => hr h (by simp [usesRs, hh])) (fun k hh => hb k (by simp [usesBs, hh])) h1, RenVs.move m ss (fun h hh => hr h (by simp [usesRs, hh])) (fun k hh => hb k (by simp [usesBs, hh])) h2⟩
end
end

/-! ### Cells of values, values of cells -/
/-- A slot's number of cells. -/
def Slot.cells : Slot → Nat
  | .val t _ => t.size
  | _ => 1

/-- A value, cell by cell; arrays stay whole. -/
def cellsOf : (t : Ty) → t.D → List Slot
  | .st t, x => cellsOf t x
  | .pr a b, x => cellsOf a x.1 ++ cellsOf b x.2
  | .int k, x => [.val (.int k) x]
  | .bool, x => [.val .bool x]
  | .str, x => [.val .str x]
  | .sl e t, x => [.val (.sl e t) x]
  | .arr n t, x => [.val (.arr n t) x]

/-- A slot's plain value of a type. -/
def Slot.get (t : Ty) : Slot → Option t.D
  | .val t' x => if h : t' = t then some (h ▸ x) else none
  | _ => none

/-- A value of a type out of cells, and the cells behind it. -/
def asm : (t : Ty) → List Slot → Option (t.D × List Slot)
  | .st t, ss => asm t ss
  | .pr a b, ss => (asm a ss).bind fun p => (asm b p.2).bind fun q => some ((p.1, q.1), q.2)
  | .int k, s :: ss => (s.get (.int k)).map fun x => (x, ss)
  | .bool, s :: ss => (s.get .bool).map fun x => (x, ss)
  | .str, s :: ss => (s.get .str).map fun x => (x, ss)
  | .sl e t, s :: ss => (s.get (.sl e t)).map fun x => (x, ss)
  | .arr n t, s :: ss => (s.get (.arr n t)).map fun x => (x, ss)
  | _, [] => none

/-- A whole slot as a plain value of a type. -/
def Slot.asV (t : Ty) (s : Slot) : Option t.D :=
  match s with
  | .agg ss => if t.isAgg then (asm t ss).bind fun p => match p.2 with | [] => some p.1 | _ => none else none
  | s => s.get t

/-- Behind so many cells. -/
def dropC : List Slot → Nat → Option (List Slot)
  | ss, 0 => some ss
  | [], _ + 1 => none
  | s :: ss, n + 1 => if s.cells ≤ n + 1 then dropC ss (n + 1 - s.cells) else none
/-- So many cells. -/
def takeC : List Slot → Nat → Option (List Slot)
  | _, 0 => some []
  | [], _ + 1 => none
  | s :: ss, n + 1 => if s.cells ≤ n + 1 then (takeC ss (n + 1 - s.cells)).map (s :: ·) else none

section
variable {ρ : Own} {ok : Nat → Prop} {w : World}

theorem RenC.length : ∀ {s : Slot} {cs : List Value}, RenC ρ ok w s cs → cs.length = s.cells
  | .val t x, cs, h => by rw [RenC] at h; exact Rn.length h
  | .row h', cs, h => by rw [RenC] at h; simp [h, Slot.cells]
  | .box k off, cs, h => by rw [RenC] at h; simp [h, Slot.cells]
  | .elt h' sz i off, cs, h => by rw [RenC] at h; obtain ⟨a, n, c, _, e⟩ := h; simp [e, Slot.cells]
  | .ptr ss, cs, h => by rw [RenC] at h; obtain ⟨ad, cs', e, _⟩ := h; simp [e, Slot.cells]
  | .agg _, cs, h => by rw [RenC] at h; exact h.elim
  | .tup _, cs, h => by rw [RenC] at h; exact h.elim
  | .fn f ss, cs, h => by rw [RenC] at h; obtain ⟨vs, e, _⟩ := h; simp [e, Slot.cells]
  | .nilp, cs, h => by rw [RenC] at h; simp [h, Slot.cells]
  | .nilf, cs, h => by rw [RenC] at h; simp [h, Slot.cells]

theorem RenC.one : ∀ {s : Slot} {cs : List Value}, (∀ h, (ρ.row h).oneCell' = true) → RenC ρ ok w s cs → ∀ u ∈ cs, u.oneCell' = true
  | .val t x, cs, ho, h => by rw [RenC] at h; exact Rn.one h
  | .row h', cs, ho, h => by rw [RenC] at h; simp [h, ho]
  | .box k off, cs, ho, h => by rw [RenC] at h; simp [h, Value.oneCell']
  | .elt h' sz i off, cs, ho, h => by rw [RenC] at h; obtain ⟨a, n, c, _, e⟩ := h; simp [e, Value.oneCell']
  | .ptr ss, cs, ho, h => by rw [RenC] at h; obtain ⟨ad, cs', e, _⟩ := h; simp [e, Value.oneCell']
  | .agg _, cs, ho, h => by rw [RenC] at h; exact h.elim
  | .tup _, cs, ho, h => by rw [RenC] at h; exact h.elim
  | .fn f ss, cs, ho, h => by rw [RenC] at h; obtain ⟨vs, e, _⟩ := h; simp [e, Value.oneCell']
  | .nilp, cs, ho, h => by rw [RenC] at h; simp [h, Value.oneCell']
  | .nilf, cs, ho, h => by rw [RenC] at h; simp [h, Value.oneCell']

theorem RenCs.one : ∀ {ss : List Slot} {cs : List Value}, (∀ h, (ρ.row h).oneCell' = true) → RenCs ρ ok w ss cs → ∀ u ∈ cs, u.oneCell' = true
  | [], cs, ho, h => by rw [RenCs] at h; simp [h]
  | s :: ss, cs, ho, h => by
    rw [RenCs] at h
    obtain ⟨c1, c2, rfl, h1, h2⟩ := h
    intro u hu
    rcases List.mem_append.1 hu with hu | hu
    · exact RenC.one ho h1 u hu
    · exact RenCs.one ho h2 u hu

theorem RenCs.append : ∀ {ss ss' : List Slot} {cs cs' : List Value}, RenCs ρ ok w ss cs → RenCs ρ ok w ss' cs' → RenCs ρ ok w (ss ++ ss') (cs ++ cs')
  | [], ss', cs, cs', h, h' => by rw [RenCs] at h; subst h; exact h'
  | s :: ss, ss', cs, cs', h, h' => by
    rw [RenCs] at h
    obtain ⟨c1, c2, rfl, h1, h2⟩ := h
    rw [List.cons_append, RenCs]
    exact ⟨c1, c2 ++ cs', by rw [List.append_assoc], h1, RenCs.append h2 h'⟩

theorem RenCs.split : ∀ {ss ss' : List Slot} {cs : List Value}, RenCs ρ ok w (ss ++ ss') cs → ∃ c1 c2, cs = c1 ++ c2 ∧ RenCs ρ ok w ss c1 ∧ RenCs ρ ok w ss' c2
  | [], ss', cs, h => ⟨[], cs, rfl, by rw [RenCs], h⟩
  | s :: ss, ss', cs, h => by
    rw [List.cons_append, RenCs] at h
    obtain ⟨c1, c2, rfl, h1, h2⟩ := h
    obtain ⟨d1, d2, rfl, h3, h4⟩ := RenCs.split h2
    refine ⟨c1 ++ d1, d2, by rw [List.append_assoc], ?_, h4⟩
    rw [RenCs]
    exact ⟨c1, d1, rfl, h1, h3⟩

theorem RenCs.single {s : Slot} {cs : List Value} : RenCs ρ ok w [s] cs ↔ RenC ρ ok w s cs := by
  constructor
  · intro h
    rw [RenCs] at h
    obtain ⟨c1, c2, rfl, h1, h2⟩ := h
    rw [RenCs] at h2
    rw [h2, List.append_nil]
    exact h1
  · intro h
    rw [RenCs]
    exact ⟨cs, [], by simp, h, by rw [RenCs]⟩

theorem renCs_cellsOf : ∀ {t : Ty} {x : t.D} {cs : List Value}, Rn ok w t x cs → RenCs ρ ok w (cellsOf t x) cs
  | .st t, x, cs, h => renCs_cellsOf (t := t) h
  | .pr a b, x, cs, h => by
    obtain ⟨c1, c2, rfl, h1, h2⟩ := h
    exact RenCs.append (renCs_cellsOf h1) (renCs_cellsOf h2)
  | .int k, x, cs, h => RenCs.single.2 (by rw [RenC]; exact h)
  | .bool, x, cs, h => RenCs.single.2 (by rw [RenC]; exact h)
  | .str, x, cs, h => RenCs.single.2 (by rw [RenC]; exact h)
  | .sl e t, x, cs, h => RenCs.single.2 (by rw [RenC]; exact h)
  | .arr n t, x, cs, h => RenCs.single.2 (by rw [RenC]; exact h)

theorem get_sound {t : Ty} {s : Slot} {x : t.D} {cs : List Value} (h : s.get t = some x) (hc : RenC ρ ok w s cs) : Rn ok w t x cs := by
  cases s
  case val t' y =>
    simp only [Slot.get] at h
    split at h
    · rename_i e
      subst e
      simp at h
      subst h
      rw [RenC] at hc
      exact hc
    · cases h
  all_goals cases h

theorem asm_leaf {t : Ty} {ss : List Slot} {x : t.D} {rest : List Slot} {cs : List Value} (h : ∃ s ss', ss = s :: ss' ∧ (s.get t).map (fun x => (x, ss')) = some (x, rest)) (hc : RenCs ρ ok w ss cs) :
    ∃ c1 c2, cs = c1 ++ c2 ∧ Rn ok w t x c1 ∧ RenCs ρ ok w rest c2 := by
  obtain ⟨s, ss', rfl, h⟩ := h
  rw [RenCs] at hc
  obtain ⟨c1, c2, rfl, h1, h2⟩ := hc
  cases hg : s.get t with
  | none => rw [hg] at h; simp at h
  | some y =>
    rw [hg] at h
    simp at h
    obtain ⟨rfl, rfl⟩ := h
    exact ⟨c1, c2, rfl, get_sound hg h1, h2⟩

theorem asm_sound : ∀ {t : Ty} {ss : List Slot} {x : t.D} {rest : List Slot} {cs : List Value}, asm t ss = some (x, rest) → RenCs ρ ok w ss cs →
    ∃ c1 c2, cs = c1 ++ c2 ∧ Rn ok w t x c1 ∧ RenCs ρ ok w rest c2
  | .st t, ss, x, rest, cs, h, hc => asm_sound (t := t) h hc
  | .pr a b, ss, x, rest, cs, h, hc => by
    simp only [asm] at h
    cases h1 : asm a ss with
    | none => rw [h1] at h; simp at h
    | some p =>
      rw [h1] at h
      simp only [Option.bind_some] at h
      cases h2 : asm b p.2 with
      | none => rw [h2] at h; simp at h
      | some q =>
        rw [h2] at h
        simp at h
        obtain ⟨rfl, rfl⟩ := h
        obtain ⟨c1, c2, rfl, g1, g2⟩ := asm_sound (x := p.1) (rest := p.2) h1 hc
        obtain ⟨d1, d2, rfl, g3, g4⟩ := asm_sound (x := q.1) (rest := q.2) h2 g2
        exact ⟨c1 ++ d1, d2, by rw [List.append_assoc], ⟨c1, d1, rfl, g1, g3⟩, g4⟩
  | .int k, ss, x, rest, cs, h, hc => asm_leaf (by cases ss with | nil => simp [asm] at h | cons s ss => exact ⟨s, ss, rfl, h⟩) hc
  | .bool, ss, x, rest, cs, h, hc => asm_leaf (by cases ss with | nil => simp [asm] at h | cons s ss => exact ⟨s, ss, rfl, h⟩) hc
  | .str, ss, x, rest, cs, h, hc => asm_leaf (by cases ss with | nil => simp [asm] at h | cons s ss => exact ⟨s, ss, rfl, h⟩) hc
  | .sl e t, ss, x, rest, cs, h, hc => asm_leaf (by cases ss with | nil => simp [asm] at h | cons s ss => exact ⟨s, ss, rfl, h⟩) hc
  | .arr n t, ss, x, rest, cs, h, hc => asm_leaf (by cases ss with | nil => simp [asm] at h | cons s ss => exact ⟨s, ss, rfl, h⟩) hc

theorem dropC_sound : ∀ {ss : List Slot} {n : Nat} {ss' : List Slot} {cs : List Value}, dropC ss n = some ss' → RenCs ρ ok w ss cs → n ≤ cs.length ∧ RenCs ρ ok w ss' (cs.drop n)
  | ss, 0, ss', cs, h, hc => by
    have : ss = ss' := by cases ss <;> simpa [dropC] using h
    subst this
    exact ⟨Nat.zero_le _, by simpa using hc⟩
  | [], n + 1, ss', cs, h, hc => by simp [dropC] at h
  | s :: ss, n + 1, ss', cs, h, hc => by
    simp only [dropC] at h
    split at h
    · rename_i hle
      rw [RenCs] at hc
      obtain ⟨c1, c2, rfl, h1, h2⟩ := hc
      have hl := RenC.length h1
      obtain ⟨g1, g2⟩ := dropC_sound h h2
      refine ⟨by rw [List.length_append]; omega, ?_⟩
      rw [List.drop_append, List.drop_eq_nil_of_le (by omega), List.nil_append, hl]
      exact g2
    · simp at h

theorem takeC_sound : ∀ {ss : List Slot} {n : Nat} {ss' : List Slot} {cs : List Value}, takeC ss n = some ss' → RenCs ρ ok w ss cs → n ≤ cs.length ∧ RenCs ρ ok w ss' (cs.take n)
  | ss, 0, ss', cs, h, hc => by
    have : ss' = [] := by cases ss <;> simpa [takeC] using h.symm
    subst this
    exact ⟨Nat.zero_le _, by rw [List.take_zero, RenCs]⟩
  | [], n + 1, ss', cs, h, hc => by simp [takeC] at h
  | s :: ss, n + 1, ss', cs, h, hc => by
    simp only [takeC] at h
    split at h
    · rename_i hle
      rw [RenCs] at hc
      obtain ⟨c1, c2, rfl, h1, h2⟩ := hc
      have hl := RenC.length h1
      cases ht : takeC ss (n + 1 - s.cells) with
      | none => rw [ht] at h; simp at h
      | some l =>
        rw [ht] at h
        simp at h
        subst h
        obtain ⟨g1, g2⟩ := takeC_sound ht h2
        refine ⟨by rw [List.length_append]; omega, ?_⟩
        rw [List.take_append, List.take_of_length_le (by omega), hl, RenCs]
        exact ⟨_, _, rfl, h1, g2⟩
    · simp at h

/-- A whole slot as a plain value. -/
theorem asV_sound {t : Ty} {s : Slot} {x : t.D} {v : Value} (h : s.asV t = some x) (hv : RenS ρ ok w s v) : ∃ cs, Rn ok w t x cs ∧ v = mkv t cs := by
  cases s
  case agg ss =>
    simp only [Slot.asV] at h
    split at h
    · rename_i ha
      rw [RenS] at hv
      obtain ⟨cs, h1, rfl⟩ := hv
      cases hm : asm t ss with
      | none => rw [hm] at h; simp at h
      | some p =>
        rw [hm] at h
        simp only [Option.bind_some] at h
        obtain ⟨y, rest⟩ := p
        cases rest with
        | cons _ _ => simp at h
        | nil =>
          simp at h
          subst h
          obtain ⟨c1, c2, rfl, g1, g2⟩ := asm_sound hm h1
          rw [RenCs] at g2
          subst g2
          exact ⟨c1, g1, by simp [mkv, ha]⟩
    · simp at h
  case val t' y =>
    simp only [Slot.asV, Slot.get] at h
    split at h
    · rename_i e
      subst e
      simp at h
      subst h
      rw [RenS] at hv
      exact hv
    · simp at h
  all_goals simp [Slot.asV, Slot.get] at h
end
end Go.V
