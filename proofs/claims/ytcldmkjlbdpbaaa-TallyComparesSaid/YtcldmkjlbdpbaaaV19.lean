/- The value logic, part 19: regions that draw their order. -/
import Derived.Test.YtcldmkjlbdpbaaaV18
import Derived.Orders
set_option linter.unusedVariables false
set_option linter.unusedSimpArgs false
namespace Go.V
open Go.RowKit (Below)

/-! ### Sets of numbers as one number -/
def mask : List Nat → Nat
  | [] => 0
  | h :: l => Nat.lor (Nat.shiftLeft 1 h) (mask l)
theorem bit_one {h k : Nat} : (Nat.shiftLeft 1 h).testBit k = true ↔ h = k := by
  have : Nat.shiftLeft 1 h = 2 ^ h := by
    have := Nat.shiftLeft_eq 1 h
    simpa using this
  rw [this, Nat.testBit_two_pow]
  simp
theorem bit_or {a b k : Nat} : (Nat.lor a b).testBit k = true ↔ a.testBit k = true ∨ b.testBit k = true := by
  have : (Nat.lor a b).testBit k = (a.testBit k || b.testBit k) := Nat.testBit_or a b k
  rw [this, Bool.or_eq_true]
theorem mem_mask {k : Nat} : ∀ {l : List Nat}, (mask l).testBit k = true ↔ k ∈ l
  | [] => by simp [mask]
  | h :: l => by
    rw [mask, bit_or, bit_one, mem_mask, List.mem_cons]
    constructor
    · rintro (rfl | h)
      · exact .inl rfl
      · exact .inr h
    · rintro (rfl | h)
      · exact .inl rfl
      · exact .inr h
def noneOf (a b : Nat) : Bool := Nat.beq (Nat.land a b) 0
theorem noneOf_mask {a b : List Nat} (h : noneOf (mask a) (mask b) = true) {k : Nat} (ha : k ∈ a) : k ∉ b := by
  intro hb
  have h0 := Nat.eq_of_beq_eq_true h
  have h1 : (Nat.land (mask a) (mask b)).testBit k = ((mask a).testBit k && (mask b).testBit k) := Nat.testBit_and _ _ k
  rw [h0, mem_mask.2 ha, mem_mask.2 hb] at h1
  simp at h1

/-! ### An operation of a region, as the text's order tells it -/
structure Rec where
  o : Oper
  an : Ann
  g : Bool
  fp : VState
  E : Eff
  pre : Nat

def Rec.kS (x : Rec) : List Nat := match x.o.dst with
  | some d => [d]
  | none => []
def Rec.nS (x : Rec) : List (Nat × Slot) := match x.o.dst, x.E.s with
  | some d, some s => [(d, s)]
  | _, _ => []
def dropK {α : Type} (ks : List Nat) (l : List (Nat × α)) : List (Nat × α) := l.filter fun p => !ks.any (fun h => Nat.beq h p.1)
def Rec.step (x : Rec) (st : VState) : VState := ⟨x.nS ++ dropK x.kS st.slots, x.E.nr ++ dropK x.E.dr st.rows, x.E.nb ++ dropK x.E.db st.boxes⟩
def steps : List Rec → VState → VState
  | [], st => st
  | x :: xs, st => steps xs (x.step st)

/-- Some of the operations, in the text's order. -/
def lay {α : Type} (K : Rec → List Nat) (N : Rec → List (Nat × α)) (L : Nat → Bool) : Nat → List Rec → List (Nat × α) → List (Nat × α)
  | _, [], l => l
  | i, x :: xs, l => lay K N L (i + 1) xs (if L i then N x ++ dropK (K x) l else l)

theorem mem_dropK {α : Type} {ks : List Nat} {l : List (Nat × α)} {p : Nat × α} : p ∈ dropK ks l ↔ p ∈ l ∧ p.1 ∉ ks := by
  unfold dropK
  rw [List.mem_filter, not_any_beq]

theorem mem_lay {α : Type} {K : Rec → List Nat} {N : Rec → List (Nat × α)} {L : Nat → Bool} {p : Nat × α} : ∀ (xs : List Rec) (i : Nat) (l : List (Nat × α)),
    p ∈ lay K N L i xs l ↔ (p ∈ l ∧ ∀ j x, xs[j]? = some x → L (i + j) = true → p.1 ∉ K x) ∨ ∃ j x, xs[j]? = some x ∧ L (i + j) = true ∧ p ∈ N x ∧ ∀ j' x', j < j' → xs[j']? = some x' → L (i + j') = true → p.1 ∉ K x'
  | [], i, l => by simp [lay]
  | x :: xs, i, l => by
    rw [lay, mem_lay xs (i + 1)]
    constructor
    · rintro (⟨h1, h2⟩ | ⟨j, y, h1, h2, h3, h4⟩)
      · have hrest : ∀ j y, xs[j]? = some y → L (i + (j + 1)) = true → p.1 ∉ K y := fun j y hy hl => h2 j y hy (by rw [show i + 1 + j = i + (j + 1) by omega]; exact hl)
        by_cases hL : L i = true
        · rw [if_pos hL] at h1
          rcases List.mem_append.1 h1 with h1 | h1
          · refine .inr ⟨0, x, rfl, hL, h1, fun j' x' hj hx hl => ?_⟩
            cases j' with
            | zero => omega
            | succ j' => exact hrest j' x' (by simpa using hx) hl
          · obtain ⟨h1, h3⟩ := mem_dropK.1 h1
            refine .inl ⟨h1, fun j y hy hl => ?_⟩
            cases j with
            | zero =>
              simp at hy
              subst hy
              exact h3
            | succ j => exact hrest j y (by simpa using hy) hl
        · rw [if_neg hL] at h1
          refine .inl ⟨h1, fun j y hy hl => ?_⟩
          cases j with
          | zero => exact absurd hl hL
          | succ j => exact hrest j y (by simpa using hy) hl
      · refine .inr ⟨j + 1, y, by simpa using h1, by rw [show i + (j + 1) = i + 1 + j by omega]; exact h2, h3, fun j' x' hj hx hl => ?_⟩
        cases j' with
        | zero => omega
        | succ j' => exact h4 j' x' (by omega) (by simpa using hx) (by rw [show i + 1 + j' = i + (j' + 1) by omega]; exact hl)
    · rintro (⟨h1, h2⟩ | ⟨j, y, h1, h2, h3, h4⟩)
      · refine .inl ⟨?_, fun j y hy hl => h2 (j + 1) y (by simpa using hy) (by rw [show i + (j + 1) = i + 1 + j by omega]; exact hl)⟩
        by_cases hL : L i = true
        · rw [if_pos hL]
          exact List.mem_append.2 (.inr (mem_dropK.2 ⟨h1, h2 0 x rfl hL⟩))
        · rw [if_neg hL]; exact h1
      · cases j with
        | zero =>
          simp at h1
          subst h1
          rw [if_pos (show L i = true from h2)]
          exact .inl ⟨List.mem_append.2 (.inl h3), fun j y hy hl => h4 (j + 1) y (by omega) (by simpa using hy) (by rw [show i + (j + 1) = i + 1 + j by omega]; exact hl)⟩
        | succ j =>
          exact .inr ⟨j, y, by simpa using h1, by rw [show i + 1 + j = i + (j + 1) by omega]; exact h2, h3, fun j' x' hj hx hl => h4 (j' + 1) x' (by omega) (by simpa using hx) (by rw [show i + (j' + 1) = i + 1 + j' by omega]; exact hl)⟩

def layAll (L : Nat → Bool) (xs : List Rec) (st : VState) : VState :=
  ⟨lay Rec.kS Rec.nS L 0 xs st.slots, lay (fun x => x.E.dr) (fun x => x.E.nr) L 0 xs st.rows, lay (fun x => x.E.db) (fun x => x.E.nb) L 0 xs st.boxes⟩

theorem lay_true {α : Type} {K : Rec → List Nat} {N : Rec → List (Nat × α)} (comp : VState → List (Nat × α)) (hc : ∀ (x : Rec) st, comp (x.step st) = N x ++ dropK (K x) (comp st)) : ∀ (xs : List Rec) (i : Nat) (st : VState),
    comp (steps xs st) = lay K N (fun _ => true) i xs (comp st)
  | [], i, st => rfl
  | x :: xs, i, st => by
    rw [steps, lay, if_pos rfl, lay_true comp hc xs (i + 1), hc]

theorem mem_take {α : Type} {K : Rec → List Nat} {N : Rec → List (Nat × α)} (comp : VState → List (Nat × α)) (hc : ∀ (x : Rec) st, comp (x.step st) = N x ++ dropK (K x) (comp st)) {xs : List Rec} {i : Nat} {st : VState} {p : Nat × α} (h : p ∈ comp (steps (xs.take i) st)) :
    (p ∈ comp st ∧ ∀ j x, j < i → xs[j]? = some x → p.1 ∉ K x) ∨ ∃ j x, j < i ∧ xs[j]? = some x ∧ p ∈ N x ∧ ∀ j' x', j < j' → j' < i → xs[j']? = some x' → p.1 ∉ K x' := by
  rw [lay_true comp hc _ 0, mem_lay] at h
  rcases h with ⟨h1, h2⟩ | ⟨j, x, h1, _, h3, h4⟩
  · exact .inl ⟨h1, fun j x hj hx => h2 j x (by rw [List.getElem?_take, if_pos hj]; exact hx) rfl⟩
  · rw [List.getElem?_take] at h1
    split at h1
    · rename_i hj
      exact .inr ⟨j, x, hj, h1, h3, fun j' x' h5 h6 h7 => h4 j' x' h5 (by rw [List.getElem?_take, if_pos h6]; exact h7) rfl⟩
    · cases h1

/-- READ: what the text's order shows before an operation stands there whatever was listed, if those that conflict have their order. -/
theorem read_lay {α : Type} {K : Rec → List Nat} {N : Rec → List (Nat × α)} (comp : VState → List (Nat × α)) (hc : ∀ (x : Rec) st, comp (x.step st) = N x ++ dropK (K x) (comp st)) {xs : List Rec} {i : Nat} {st : VState} {p : Nat × α} {L : Nat → Bool} (hi : L i = false)
    (h : p ∈ comp (steps (xs.take i) st)) (hlt : ∀ j x, j < i → xs[j]? = some x → p ∈ N x → L j = true) (hgt : ∀ j x, i < j → xs[j]? = some x → L j = true → p.1 ∉ K x) : p ∈ lay K N L 0 xs (comp st) := by
  rw [mem_lay]
  rcases mem_take comp hc h with ⟨h1, h2⟩ | ⟨j, x, h1, h2, h3, h4⟩
  · refine .inl ⟨h1, fun j x hx hl => ?_⟩
    rw [Nat.zero_add] at hl
    rcases Nat.lt_trichotomy j i with hj | hj | hj
    · exact h2 j x hj hx
    · rw [hj, hi] at hl; cases hl
    · exact hgt j x hj hx hl
  · refine .inr ⟨j, x, h2, by rw [Nat.zero_add]; exact hlt j x h1 h2 h3, h3, fun j' x' h5 h6 h7 => ?_⟩
    rw [Nat.zero_add] at h7
    rcases Nat.lt_trichotomy j' i with hj | hj | hj
    · exact h4 j' x' h5 hj h6
    · rw [hj, hi] at h7; cases h7
    · exact hgt j' x' hj h6 h7

/-- WRITE: what stands there behind one more is what the operation makes of what stood. -/
theorem write_lay {α : Type} {K : Rec → List Nat} {N : Rec → List (Nat × α)} {xs : List Rec} {i : Nat} {x : Rec} (hx : xs[i]? = some x) {l : List (Nat × α)} {p : Nat × α} {L L' : Nat → Bool} (hi : L i = false) (hL' : ∀ j, L' j = (L j || Nat.beq j i))
    (h : p ∈ lay K N L' 0 xs l) (hgt : ∀ j y, i < j → xs[j]? = some y → L j = true → p ∈ N y → p.1 ∉ K x) : p ∈ N x ++ dropK (K x) (lay K N L 0 xs l) := by
  have hLi : L' i = true := by rw [hL', Nat.beq_refl]; simp
  have hLj : ∀ j, L j = true → L' j = true := fun j hj => by rw [hL', hj]; rfl
  rw [List.mem_append, mem_dropK, mem_lay]
  rw [mem_lay] at h
  rcases h with ⟨h1, h2⟩ | ⟨j, y, h1, h2, h3, h4⟩
  · exact .inr ⟨.inl ⟨h1, fun j y hy hl => h2 j y hy (hLj _ hl)⟩, h2 i x hx (by rw [Nat.zero_add]; exact hLi)⟩
  · rw [Nat.zero_add] at h2
    by_cases hji : j = i
    · subst hji
      rw [hx] at h1
      cases h1
      exact .inl h3
    · have hj : L j = true := by
        rw [hL'] at h2
        rw [Bool.or_eq_true] at h2
        rcases h2 with h | h
        · exact h
        · exact absurd (Nat.eq_of_beq_eq_true h) hji
      refine .inr ⟨.inr ⟨j, y, h1, by rw [Nat.zero_add]; exact hj, h3, fun j' x' h5 h6 h7 => h4 j' x' h5 h6 (hLj _ h7)⟩, ?_⟩
      rcases Nat.lt_or_ge j i with hlt | hge
      · exact h4 i x hlt hx (by rw [Nat.zero_add]; exact hLi)
      · exact hgt j y (by omega) h1 hj h3

/-! ### What is looked at -/
def Rec.rS (x : Rec) : Nat := mask (keysOf x.fp.slots)
def Rec.rR (x : Rec) : Nat := mask (keysOf x.fp.rows)
def Rec.rB (x : Rec) : Nat := mask (keysOf x.fp.boxes)
def Rec.wS (x : Rec) : Nat := mask x.kS
def Rec.wR (x : Rec) : Nat := mask (x.E.dr ++ keysOf x.E.nr)
def Rec.wB (x : Rec) : Nat := mask (x.E.db ++ keysOf x.E.nb)
def Eff.useR (E : Eff) : List Nat := (match E.s with | some s => namesR s | none => []) ++ (keysOf E.nr ++ E.nb.flatMap fun p => namesRs p.2.2)
def Eff.useB (E : Eff) : List Nat := (match E.s with | some s => namesB s | none => []) ++ (keysOf E.nb ++ E.nb.flatMap fun p => namesBs p.2.2)
def Rec.newR (x : Rec) : List Nat := (keysOf x.E.nr).filter fun h => !x.fp.hasR h
def Rec.newB (x : Rec) : List Nat := (keysOf x.E.nb).filter fun h => !x.fp.hasB h
def Rec.uR (x : Rec) : Nat := mask x.E.useR
def Rec.uB (x : Rec) : Nat := mask x.E.useB
def Rec.fR (x : Rec) : Nat := mask x.newR
def Rec.fB (x : Rec) : Nat := mask x.newB

/-- May the two, the first at place j, the second behind it in the text, be listed as they come? -/
def pairOk (x : Rec) (j : Nat) (y : Rec) : Bool :=
  (Nat.testBit y.pre j || (noneOf x.wS y.rS && noneOf x.wS y.wS && noneOf x.rS y.wS && noneOf x.wR y.rR && noneOf x.wR y.wR && noneOf x.rR y.wR && noneOf x.wB y.rB && noneOf x.wB y.wB && noneOf x.rB y.wB &&
    noneOf x.fR y.uR && noneOf x.fB y.uB)) && noneOf y.fR x.uR && noneOf y.fB x.uB
def pairsOk : Nat → List Rec → Bool
  | _, [] => true
  | j, x :: xs => xs.all (fun y => pairOk x j y) && pairsOk (j + 1) xs
theorem pairsOk_at : ∀ {xs : List Rec} {k : Nat}, pairsOk k xs = true → ∀ {j i : Nat} {x y : Rec}, j < i → xs[j]? = some x → xs[i]? = some y → pairOk x (k + j) y = true
  | [], k, _, j, i, x, y, _, hx, _ => by simp at hx
  | z :: xs, k, h, j, i, x, y, hji, hx, hy => by
    rw [pairsOk, Bool.and_eq_true, List.all_eq_true] at h
    cases i with
    | zero => omega
    | succ i =>
      rw [List.getElem?_cons_succ] at hy
      cases j with
      | zero =>
        simp at hx
        subst hx
        exact h.1 y (List.mem_of_getElem? hy)
      | succ j =>
        rw [List.getElem?_cons_succ] at hx
        rw [show k + (j + 1) = k + 1 + j by omega]
        exact pairsOk_at h.2 (by omega) hx hy

/-- The operation's own conditions, and that its new names are new in the region's first state. -/
def selfOk (st : VState) (x : Rec) : Bool :=
  x.newR.all (fun h => !st.hasR h) && x.newB.all (fun h => !st.hasB h) &&
  x.E.useR.all (fun h => x.fp.hasR h || (keysOf x.E.nr).any (fun k => Nat.beq h k)) && x.E.useB.all (fun h => x.fp.hasB h || (keysOf x.E.nb).any (fun k => Nat.beq h k)) &&
  (keysOf x.E.nr).all (fun h => !(keysOf x.fp.rows).any (fun k => Nat.beq h k) || x.E.dr.any (fun k => Nat.beq h k)) &&
  (keysOf x.E.nb).all (fun h => !(keysOf x.fp.boxes).any (fun k => Nat.beq h k) || x.E.db.any (fun k => Nat.beq h k))

theorem any_beq' {l : List Nat} {h : Nat} : l.any (fun k => Nat.beq h k) = true ↔ h ∈ l := by
  rw [List.any_eq_true]
  constructor
  · rintro ⟨k, hk, e⟩
    rw [Nat.eq_of_beq_eq_true e]
    exact hk
  · exact fun hh => ⟨h, hh, Nat.beq_refl _⟩

theorem useR_of {E : Eff} {h : Nat} (hu : (∃ s, E.s = some s ∧ usesR h s = true) ∨ (∃ p ∈ E.nb, usesRs h p.2.2 = true) ∨ h ∈ keysOf E.nr) : h ∈ E.useR := by
  unfold Eff.useR
  rcases hu with ⟨s, hs, hu⟩ | ⟨p, hp, hu⟩ | hu
  · rw [hs]; exact List.mem_append.2 (.inl (usesR_names s hu))
  · exact List.mem_append.2 (.inr (List.mem_append.2 (.inr (List.mem_flatMap.2 ⟨p, hp, usesRs_names _ hu⟩))))
  · exact List.mem_append.2 (.inr (List.mem_append.2 (.inl hu)))
theorem useB_of {E : Eff} {h : Nat} (hu : (∃ s, E.s = some s ∧ usesB h s = true) ∨ (∃ p ∈ E.nb, usesBs h p.2.2 = true) ∨ h ∈ keysOf E.nb) : h ∈ E.useB := by
  unfold Eff.useB
  rcases hu with ⟨s, hs, hu⟩ | ⟨p, hp, hu⟩ | hu
  · rw [hs]; exact List.mem_append.2 (.inl (usesB_names s hu))
  · exact List.mem_append.2 (.inr (List.mem_append.2 (.inr (List.mem_flatMap.2 ⟨p, hp, usesBs_names _ hu⟩))))
  · exact List.mem_append.2 (.inr (List.mem_append.2 (.inl hu)))

/-- Names of a laid state: of the first one, or of some listed one's effect. -/
theorem layAll_hasR {L : Nat → Bool} {xs : List Rec} {st : VState} {h : Nat} (hh : (layAll L xs st).hasR h = true) : st.hasR h = true ∨ ∃ j x, xs[j]? = some x ∧ L j = true ∧ h ∈ x.E.useR := by
  simp only [VState.hasR, Bool.or_eq_true, List.any_eq_true, layAll] at hh
  rcases hh with (⟨p, hp, hu⟩ | ⟨p, hp, hu⟩) | ⟨p, hp, hu⟩
  · rcases (mem_lay _ _ _).1 hp with ⟨h1, _⟩ | ⟨j, x, h1, h2, h3, _⟩
    · exact .inl (hasR_slot h1 hu)
    · rw [Nat.zero_add] at h2
      refine .inr ⟨j, x, h1, h2, useR_of (.inl ⟨p.2, ?_, hu⟩)⟩
      unfold Rec.nS at h3
      split at h3
      · rename_i d s e1 e2
        rw [List.mem_singleton] at h3
        rw [h3, e2]
      · cases h3
  · rcases (mem_lay _ _ _).1 hp with ⟨h1, _⟩ | ⟨j, x, h1, h2, h3, _⟩
    · rw [Nat.eq_of_beq_eq_true hu]
      exact .inl (hasR_row h1)
    · rw [Nat.zero_add] at h2
      rw [Nat.eq_of_beq_eq_true hu]
      exact .inr ⟨j, x, h1, h2, useR_of (.inr (.inr (List.mem_map.2 ⟨p, h3, rfl⟩)))⟩
  · rcases (mem_lay _ _ _).1 hp with ⟨h1, _⟩ | ⟨j, x, h1, h2, h3, _⟩
    · exact .inl (hasR_box h1 hu)
    · rw [Nat.zero_add] at h2
      exact .inr ⟨j, x, h1, h2, useR_of (.inr (.inl ⟨p, h3, hu⟩))⟩
theorem layAll_hasB {L : Nat → Bool} {xs : List Rec} {st : VState} {h : Nat} (hh : (layAll L xs st).hasB h = true) : st.hasB h = true ∨ ∃ j x, xs[j]? = some x ∧ L j = true ∧ h ∈ x.E.useB := by
  simp only [VState.hasB, Bool.or_eq_true, List.any_eq_true, layAll] at hh
  rcases hh with (⟨p, hp, hu⟩ | ⟨p, hp, hu⟩) | ⟨p, hp, hu⟩
  · rcases (mem_lay _ _ _).1 hp with ⟨h1, _⟩ | ⟨j, x, h1, h2, h3, _⟩
    · exact .inl (hasB_slot h1 hu)
    · rw [Nat.zero_add] at h2
      refine .inr ⟨j, x, h1, h2, useB_of (.inl ⟨p.2, ?_, hu⟩)⟩
      unfold Rec.nS at h3
      split at h3
      · rename_i d s e1 e2
        rw [List.mem_singleton] at h3
        rw [h3, e2]
      · cases h3
  · rcases (mem_lay _ _ _).1 hp with ⟨h1, _⟩ | ⟨j, x, h1, h2, h3, _⟩
    · rw [Nat.eq_of_beq_eq_true hu]
      exact .inl (hasB_key h1)
    · rw [Nat.zero_add] at h2
      rw [Nat.eq_of_beq_eq_true hu]
      exact .inr ⟨j, x, h1, h2, useB_of (.inr (.inr (List.mem_map.2 ⟨p, h3, rfl⟩)))⟩
  · rcases (mem_lay _ _ _).1 hp with ⟨h1, _⟩ | ⟨j, x, h1, h2, h3, _⟩
    · exact .inl (hasB_box h1 hu)
    · rw [Nat.zero_add] at h2
      exact .inr ⟨j, x, h1, h2, useB_of (.inr (.inl ⟨p, h3, hu⟩))⟩
end Go.V
