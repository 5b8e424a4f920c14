/- The value logic, part 3: what an abstract state says of an act and a world, and how it goes on. -/
import Derived.Test.YtcldmkjlbdpbaaaV2
set_option linter.unusedVariables false
namespace Go.V
open Go.RowKit (Below)

/-- The names of what the call owns. -/
inductive Key where
  | r (h : Nat)
  | b (k : Nat)

def blk (ρ : Own) : Key → Option Nat
  | .r h => (ρ.row h).ownBlock
  | .b k => some (ρ.box k)

def VState.keys (st : VState) : List Key := st.rows.map (fun p => Key.r p.1) ++ st.boxes.map (fun p => Key.b p.1)

/-- Is the name used anywhere? -/
def VState.hasR (h : Nat) (st : VState) : Bool :=
  st.slots.any (fun p => usesR h p.2) || st.rows.any (fun p => Nat.beq h p.1) || st.boxes.any (fun p => usesRs h p.2.2)
def VState.hasB (k : Nat) (st : VState) : Bool :=
  st.slots.any (fun p => usesB k p.2) || st.boxes.any (fun p => Nat.beq k p.1) || st.boxes.any (fun p => usesBs k p.2.2)

def RowOk (ρ : Own) (ok : Nat → Prop) (w : World) (h : Nat) (R : Row) : Prop :=
  ∃ cs, w.ownsRow 0 R.e R.t.size (ρ.row h) R.l.length cs ∧ RnL (Rn ok w R.t) R.l cs
def BoxOk (ρ : Own) (ok : Nat → Prop) (w : World) (k : Nat) (B : Nat × List Slot) : Prop :=
  ∃ cs : List Value, w.heap[ρ.box k]? = some (.cells cs.toArray B.1 (0, 0)) ∧ RenCs ρ ok w B.2 cs

/-- The call: the world in which it began, what its arguments lead to, what it may write of what was there, its temporaries. -/
structure Ctx where
  w0 : World
  ok0 : Nat → Prop
  mine0 : Nat → Prop
  n : Nat

structure Rel (C : Ctx) (ρ : Own) (ok : Nat → Prop) (st : VState) (a : Act) (w : World) : Prop where
  os : w.os = C.w0.os
  tape : w.tape = C.w0.tape
  output : w.output = C.w0.output
  size : C.w0.heap.size ≤ w.heap.size
  keep : ∀ b, b < C.w0.heap.size → ¬ C.mine0 b → w.heap[b]? = C.w0.heap[b]?
  okb : ∀ b, ok b → b < w.heap.size ∧ (C.ok0 b ∨ C.w0.heap.size ≤ b)
  ok0 : ∀ b, C.ok0 b → ok b
  defers : a.defers = []
  tmps : a.tmps.size = C.n
  one : ∀ h, (ρ.row h).oneCell' = true
  slots : ∀ p ∈ st.slots, ∃ v, a.tmps[p.1]? = some v ∧ RenS ρ ok w p.2 v
  rows : ∀ p ∈ st.rows, RowOk ρ ok w p.1 p.2
  boxes : ∀ p ∈ st.boxes, BoxOk ρ ok w p.1 p.2
  mine : ∀ x ∈ st.keys, ∀ b, blk ρ x = some b → (C.w0.heap.size ≤ b ∨ C.mine0 b) ∧ ¬ ok b
  apart : ∀ x ∈ st.keys, ∀ y ∈ st.keys, ∀ b, blk ρ x = some b → blk ρ y = some b → x = y

theorem mem_keys_r {st : VState} {h : Nat} {R : Row} (m : (h, R) ∈ st.rows) : Key.r h ∈ st.keys := List.mem_append.2 (.inl (List.mem_map.2 ⟨_, m, rfl⟩))
theorem mem_keys_b {st : VState} {k : Nat} {B : Nat × List Slot} (m : (k, B) ∈ st.boxes) : Key.b k ∈ st.keys := List.mem_append.2 (.inr (List.mem_map.2 ⟨_, m, rfl⟩))

theorem RowOk.lt {ρ : Own} {ok : Nat → Prop} {w : World} {h : Nat} {R : Row} (r : RowOk ρ ok w h R) {b : Nat} (hb : blk ρ (.r h) = some b) : b < w.heap.size := by
  obtain ⟨cs, ho, _⟩ := r
  exact (ho.lt b hb).2
theorem BoxOk.lt {ρ : Own} {ok : Nat → Prop} {w : World} {k : Nat} {B : Nat × List Slot} (r : BoxOk ρ ok w k B) {b : Nat} (hb : blk ρ (.b k) = some b) : b < w.heap.size := by
  obtain ⟨cs, ho, _⟩ := r
  simp only [blk, Option.some.injEq] at hb
  subst hb
  exact (Array.getElem?_eq_some_iff.1 ho).1

section
variable {C : Ctx} {ρ : Own} {ok : Nat → Prop} {st : VState} {a : Act} {w : World}

theorem Rel.lt (r : Rel C ρ ok st a w) {x : Key} (hx : x ∈ st.keys) {b : Nat} (hb : blk ρ x = some b) : b < w.heap.size := by
  rcases List.mem_append.1 hx with hx | hx
  · obtain ⟨p, hp, rfl⟩ := List.mem_map.1 hx
    exact (r.rows p hp).lt hb
  · obtain ⟨p, hp, rfl⟩ := List.mem_map.1 hx
    exact (r.boxes p hp).lt hb

/-- The state without some names. -/
def VState.del (st : VState) (dr db : List Nat) : VState :=
  { st with rows := st.rows.filter fun p => !dr.any (fun h => Nat.beq h p.1), boxes := st.boxes.filter fun p => !db.any (fun k => Nat.beq k p.1) }
def VState.add (st : VState) (nr : List (Nat × Row)) (nb : List (Nat × (Nat × List Slot))) : VState :=
  { st with rows := nr ++ st.rows, boxes := nb ++ st.boxes }

theorem any_beq {l : List Nat} {h : Nat} : l.any (fun x => Nat.beq x h) = true ↔ h ∈ l := by
  rw [List.any_eq_true]
  constructor
  · rintro ⟨x, hx, e⟩
    rw [Nat.eq_of_beq_eq_true e] at hx
    exact hx
  · intro hx
    exact ⟨h, hx, Nat.beq_refl h⟩

theorem not_any_beq {l : List Nat} {h : Nat} : (!l.any (fun x => Nat.beq x h)) = true ↔ h ∉ l := by
  rw [Bool.not_eq_true', ← Bool.not_eq_true, any_beq]

theorem mem_del_keys {dr db : List Nat} {x : Key} (h : x ∈ (st.del dr db).keys) : x ∈ st.keys ∧ (∀ i, x = .r i → i ∉ dr) ∧ (∀ i, x = .b i → i ∉ db) := by
  rcases List.mem_append.1 h with h | h
  · obtain ⟨p, hp, rfl⟩ := List.mem_map.1 h
    obtain ⟨h1, h2⟩ := List.mem_filter.1 hp
    refine ⟨List.mem_append.2 (.inl (List.mem_map.2 ⟨p, h1, rfl⟩)), fun i e => ?_, (fun i e => by cases e)⟩
    cases e
    exact not_any_beq.1 h2
  · obtain ⟨p, hp, rfl⟩ := List.mem_map.1 h
    obtain ⟨h1, h2⟩ := List.mem_filter.1 hp
    refine ⟨List.mem_append.2 (.inr (List.mem_map.2 ⟨p, h1, rfl⟩)), (fun i e => by cases e), fun i e => ?_⟩
    cases e
    exact not_any_beq.1 h2

theorem RowOk.move {ρ' : Own} {ok' : Nat → Prop} {w' : World} {h : Nat} {R : Row} (r : RowOk ρ ok w h R) (hρ : ρ'.row h = ρ.row h) (hok : ∀ b, ok b → ok' b)
    (hm : ∀ b, ok b → b < w.heap.size → w'.heap[b]? = w.heap[b]?) (hb : ∀ b, blk ρ (.r h) = some b → w'.heap[b]? = w.heap[b]?) : RowOk ρ' ok' w' h R := by
  obtain ⟨cs, ho, hr⟩ := r
  refine ⟨cs, ?_, RnL.imp (fun x c hx => Rn.move hok hm hx) hr⟩
  rw [hρ]
  refine ⟨ho.1, ?_⟩
  rcases ho.2 with h2 | ⟨g, cap, cur, e, hg, hh, rest⟩
  · exact .inl h2
  · exact .inr ⟨g, cap, cur, e, hg, (hb g (by simp [blk, e, Value.ownBlock])).trans hh, rest⟩

theorem BoxOk.move {ρ' : Own} {ok' : Nat → Prop} {w' : World} {k : Nat} {B : Nat × List Slot} (r : BoxOk ρ ok w k B) (hρ : ρ'.box k = ρ.box k)
    {R' B' : Nat → Prop} (m : Moves ρ ρ' ok ok' w w' R' B') (hR : ∀ h, usesRs h B.2 = true → R' h) (hB : ∀ h, usesBs h B.2 = true → B' h)
    (hb : ∀ b, blk ρ (.b k) = some b → w'.heap[b]? = w.heap[b]?) : BoxOk ρ' ok' w' k B := by
  obtain ⟨cs, ho, hr⟩ := r
  refine ⟨cs, ?_, RenCs.move m B.2 hR hB hr⟩
  rw [hρ, hb _ rfl]
  exact ho

theorem hasR_slot {p : Nat × Slot} (hp : p ∈ st.slots) {h : Nat} (hu : usesR h p.2 = true) : st.hasR h = true := by
  simp only [VState.hasR, Bool.or_eq_true, List.any_eq_true]
  exact .inl (.inl ⟨p, hp, hu⟩)
theorem hasR_row {p : Nat × Row} (hp : p ∈ st.rows) : st.hasR p.1 = true := by
  simp only [VState.hasR, Bool.or_eq_true, List.any_eq_true]
  exact .inl (.inr ⟨p, hp, Nat.beq_refl _⟩)
theorem hasR_box {p : Nat × (Nat × List Slot)} (hp : p ∈ st.boxes) {h : Nat} (hu : usesRs h p.2.2 = true) : st.hasR h = true := by
  simp only [VState.hasR, Bool.or_eq_true, List.any_eq_true]
  exact .inr ⟨p, hp, hu⟩
theorem hasB_slot {p : Nat × Slot} (hp : p ∈ st.slots) {h : Nat} (hu : usesB h p.2 = true) : st.hasB h = true := by
  simp only [VState.hasB, Bool.or_eq_true, List.any_eq_true]
  exact .inl (.inl ⟨p, hp, hu⟩)
theorem hasB_key {p : Nat × (Nat × List Slot)} (hp : p ∈ st.boxes) : st.hasB p.1 = true := by
  simp only [VState.hasB, Bool.or_eq_true, List.any_eq_true]
  exact .inl (.inr ⟨p, hp, Nat.beq_refl _⟩)
theorem hasB_box {p : Nat × (Nat × List Slot)} (hp : p ∈ st.boxes) {h : Nat} (hu : usesBs h p.2.2 = true) : st.hasB h = true := by
  simp only [VState.hasB, Bool.or_eq_true, List.any_eq_true]
  exact .inr ⟨p, hp, hu⟩

/-- THE STEP: some names go, some come; the blocks of those that go may be written; new blocks; what is led to grows. -/
theorem Rel.step {ρ' : Own} {ok' : Nat → Prop} {w' : World} (r : Rel C ρ ok st a w) (dr db : List Nat) (nr : List (Nat × Row)) (nb : List (Nat × (Nat × List Slot)))
    (hos : w'.os = w.os) (htape : w'.tape = w.tape) (hout : w'.output = w.output) (hsize : w.heap.size ≤ w'.heap.size)
    (hkeep : ∀ b, b < w.heap.size → (∀ x ∈ st.keys, blk ρ x = some b → (∃ i, x = .r i ∧ i ∈ dr) ∨ (∃ i, x = .b i ∧ i ∈ db)) → (¬ ∃ x ∈ st.keys, blk ρ x = some b) → w'.heap[b]? = w.heap[b]?)
    (hkeep2 : ∀ x ∈ (st.del dr db).keys, ∀ b, blk ρ x = some b → w'.heap[b]? = w.heap[b]?)
    (hok : ∀ b, ok b → ok' b) (hok' : ∀ b, ok' b → ok b ∨ (w.heap.size ≤ b ∧ b < w'.heap.size))
    (hone : ∀ h, (ρ'.row h).oneCell' = true)
    (hR : ∀ h, st.hasR h = true → ρ'.row h = ρ.row h) (hB : ∀ k, st.hasB k = true → ρ'.box k = ρ.box k)
    (hnr : ∀ p ∈ nr, RowOk ρ' ok' w' p.1 p.2) (hnb : ∀ p ∈ nb, BoxOk ρ' ok' w' p.1 p.2)
    (hnew : ∀ x ∈ (VState.mk [] nr nb).keys, ∀ b, blk ρ' x = some b → (w.heap.size ≤ b ∨ ∃ y ∈ st.keys, blk ρ y = some b ∧ ((∃ i, y = .r i ∧ i ∈ dr) ∨ (∃ i, y = .b i ∧ i ∈ db))) ∧ ¬ ok' b)
    (hdis : ∀ x ∈ (VState.mk [] nr nb).keys, ∀ y ∈ (VState.mk [] nr nb).keys, ∀ b, blk ρ' x = some b → blk ρ' y = some b → x = y) :
    Rel C ρ' ok' ((st.del dr db).add nr nb) a w' := by
  have hmem : ∀ b, ok b → b < w.heap.size → w'.heap[b]? = w.heap[b]? := fun b hb hlt =>
    hkeep b hlt (fun x hx hxb => absurd hb (r.mine x hx b hxb).2) (fun ⟨x, hx, hxb⟩ => (r.mine x hx b hxb).2 hb)
  have m : Moves ρ ρ' ok ok' w w' (fun h => st.hasR h = true) (fun k => st.hasB k = true) := ⟨fun h hh => hR h hh, fun k hk => hB k hk, hok, hmem⟩
  have hbr : ∀ x ∈ (st.del dr db).keys, blk ρ' x = blk ρ x := by
    intro x hx
    obtain ⟨hx', _⟩ := mem_del_keys hx
    rcases List.mem_append.1 hx' with h | h
    · obtain ⟨p, hp, rfl⟩ := List.mem_map.1 h
      simp only [blk, hR _ (hasR_row hp)]
    · obtain ⟨p, hp, rfl⟩ := List.mem_map.1 h
      simp only [blk, hB _ (hasB_key hp)]
  have hkeys : ∀ x, x ∈ ((st.del dr db).add nr nb).keys → x ∈ (VState.mk [] nr nb).keys ∨ x ∈ (st.del dr db).keys := by
    intro x hx
    simp only [VState.keys, VState.add, List.map_append, List.mem_append] at hx ⊢
    rcases hx with (h | h) | (h | h)
    · exact .inl (.inl h)
    · exact .inr (.inl h)
    · exact .inl (.inr h)
    · exact .inr (.inr h)
  have hdel : ∀ x ∈ (st.del dr db).keys, ∀ y ∈ (VState.mk [] nr nb).keys, ∀ b, blk ρ' x = some b → blk ρ' y = some b → False := by
    intro x hx y hy b hxb hyb
    rw [hbr x hx] at hxb
    obtain ⟨hx', h1, h2⟩ := mem_del_keys hx
    rcases (hnew y hy b hyb).1 with hge | ⟨z, hz, hzb, hzd⟩
    · have := r.lt hx' hxb
      omega
    · obtain rfl := r.apart x hx' z hz b hxb hzb
      rcases hzd with ⟨i, e, hi⟩ | ⟨i, e, hi⟩
      · exact h1 i e hi
      · exact h2 i e hi
  refine ⟨hos.trans r.os, htape.trans r.tape, hout.trans r.output, Nat.le_trans r.size hsize, ?_, ?_, fun b hb => hok b (r.ok0 b hb), r.defers, r.tmps, hone, ?_, ?_, ?_, ?_, ?_⟩
  · intro b hb hm
    have hlt : b < w.heap.size := Nat.lt_of_lt_of_le hb r.size
    have hno : ∀ x ∈ st.keys, blk ρ x = some b → False := fun x hx hxb => by
      rcases (r.mine x hx b hxb).1 with h | h
      · omega
      · exact hm h
    exact (hkeep b hlt (fun x hx hxb => (hno x hx hxb).elim) (fun ⟨x, hx, hxb⟩ => hno x hx hxb)).trans (r.keep b hb hm)
  · intro b hb
    rcases hok' b hb with h | h
    · obtain ⟨h1, h2⟩ := r.okb b h
      exact ⟨Nat.lt_of_lt_of_le h1 hsize, h2⟩
    · exact ⟨h.2, .inr (Nat.le_trans r.size h.1)⟩
  · intro p hp
    obtain ⟨v, hv, hs⟩ := r.slots p hp
    exact ⟨v, hv, RenS.move m p.2 (fun h hh => hasR_slot (st := st) hp hh) (fun k hh => hasB_slot (st := st) hp hh) hs⟩
  · intro p hp
    rcases List.mem_append.1 hp with h | h
    · exact hnr p h
    · have h0 := (List.mem_filter.1 h).1
      exact (r.rows p h0).move (hR _ (hasR_row h0)) hok hmem (fun b hb => hkeep2 _ (mem_keys_r (st := st.del dr db) h) b hb)
  · intro p hp
    rcases List.mem_append.1 hp with h | h
    · exact hnb p h
    · have h0 := (List.mem_filter.1 h).1
      exact (r.boxes p h0).move (hB _ (hasB_key h0)) m (fun h hh => hasR_box h0 hh) (fun k hh => hasB_box h0 hh) (fun b hb => hkeep2 _ (mem_keys_b (st := st.del dr db) h) b hb)
  · intro x hx b hxb
    rcases hkeys x hx with h | h
    · obtain ⟨h1, h2⟩ := hnew x h b hxb
      refine ⟨?_, h2⟩
      rcases h1 with h1 | ⟨y, hy, hyb, _⟩
      · exact .inl (Nat.le_trans r.size h1)
      · exact (r.mine y hy b hyb).1
    · rw [hbr x h] at hxb
      obtain ⟨h', _⟩ := mem_del_keys h
      obtain ⟨h1, h2⟩ := r.mine x h' b hxb
      refine ⟨h1, fun hb => ?_⟩
      rcases hok' b hb with h3 | h3
      · exact h2 h3
      · have := r.lt h' hxb
        omega
  · intro x hx y hy b hxb hyb
    rcases hkeys x hx with h | h <;> rcases hkeys y hy with h' | h'
    · exact hdis x h y h' b hxb hyb
    · exact (hdel y h' x h b hyb hxb).elim
    · exact (hdel x h y h' b hxb hyb).elim
    · rw [hbr x h] at hxb
      rw [hbr y h'] at hyb
      exact r.apart x (mem_del_keys h).1 y (mem_del_keys h').1 b hxb hyb

/-- A slot is written. -/
def VState.set (st : VState) (d : Nat) (s : Slot) : VState := { st with slots := (d, s) :: st.slots.filter fun p => !Nat.beq p.1 d }
/-- A slot is forgotten. -/
def VState.unset (st : VState) (d : Nat) : VState := { st with slots := st.slots.filter fun p => !Nat.beq p.1 d }

theorem put_tmps (a : Act) (d : Nat) (v : Value) : (a.put (some d) v).tmps = a.tmps.setIfInBounds d v := rfl

theorem Rel.unset (r : Rel C ρ ok st a w) (d : Nat) (v : Value) : Rel C ρ ok (st.unset d) (a.put (some d) v) w := by
  refine ⟨r.os, r.tape, r.output, r.size, r.keep, r.okb, r.ok0, r.defers, ?_, r.one, ?_, r.rows, r.boxes, r.mine, r.apart⟩
  · rw [put_tmps, Array.size_setIfInBounds]; exact r.tmps
  · intro p hp
    obtain ⟨hp1, hp2⟩ := List.mem_filter.1 hp
    obtain ⟨v', hv', hs⟩ := r.slots p hp1
    refine ⟨v', ?_, hs⟩
    have hne : d ≠ p.1 := by
      rintro rfl
      simp [Nat.beq_refl] at hp2
    rw [put_tmps, Array.getElem?_setIfInBounds_ne hne]
    exact hv'

theorem Rel.set (r : Rel C ρ ok st a w) {d : Nat} (hd : d < C.n) {s : Slot} {v : Value} (hs : RenS ρ ok w s v) : Rel C ρ ok (st.set d s) (a.put (some d) v) w := by
  have h := r.unset d v
  refine ⟨h.os, h.tape, h.output, h.size, h.keep, h.okb, h.ok0, h.defers, h.tmps, h.one, ?_, h.rows, h.boxes, h.mine, h.apart⟩
  intro p hp
  rcases List.mem_cons.1 hp with rfl | hp
  · exact ⟨v, by rw [put_tmps, Array.getElem?_setIfInBounds_self_of_lt (by rw [r.tmps]; exact hd)], hs⟩
  · exact h.slots p hp

/-- Less is known. -/
theorem Rel.less (r : Rel C ρ ok st a w) {st' : VState} (h1 : ∀ p ∈ st'.slots, p ∈ st.slots) (h2 : ∀ p ∈ st'.rows, p ∈ st.rows) (h3 : ∀ p ∈ st'.boxes, p ∈ st.boxes) : Rel C ρ ok st' a w := by
  have hk : ∀ x ∈ st'.keys, x ∈ st.keys := by
    intro x hx
    rcases List.mem_append.1 hx with h | h
    · obtain ⟨p, hp, rfl⟩ := List.mem_map.1 h
      exact mem_keys_r (h2 p hp)
    · obtain ⟨p, hp, rfl⟩ := List.mem_map.1 h
      exact mem_keys_b (h3 p hp)
  exact ⟨r.os, r.tape, r.output, r.size, r.keep, r.okb, r.ok0, r.defers, r.tmps, r.one, fun p hp => r.slots p (h1 p hp), fun p hp => r.rows p (h2 p hp), fun p hp => r.boxes p (h3 p hp),
    fun x hx => r.mine x (hk x hx), fun x hx y hy => r.apart x (hk x hx) y (hk y hy)⟩

theorem Rel.mono {w' : World} (r : Rel C ρ ok st a w) (h : Below w.heap.size w w') : Rel C ρ ok st a w' := by
  have hs := r.step (ρ' := ρ) (ok' := ok) (w' := w') [] [] [] [] h.os h.tape h.output h.size (fun b hb _ _ => h.block b hb) (fun x hx b hb => h.block b (r.lt (mem_del_keys hx).1 hb))
    (fun _ h => h) (fun _ h => .inl h) r.one (fun _ _ => rfl) (fun _ _ => rfl) (fun p hp => by cases hp) (fun p hp => by cases hp) (fun x hx => by simp [VState.keys] at hx) (fun x hx => by simp [VState.keys] at hx)
  refine hs.less (fun p hp => hp) (fun p hp => ?_) (fun p hp => ?_)
  · exact List.mem_append.2 (.inr (List.mem_filter.2 ⟨hp, by simp⟩))
  · exact List.mem_append.2 (.inr (List.mem_filter.2 ⟨hp, by simp⟩))
end
end Go.V
