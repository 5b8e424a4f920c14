/- The value logic, part 21: what the call owns is let be read by all; names are exchanged; what is kept behind a piece of code. -/
import Derived.Test.YtcldmkjlbdpbaaaV20
set_option linter.unusedVariables false
set_option linter.unusedSimpArgs false
set_option linter.unusedSectionVars false
namespace Go.V
open Go.RowKit (Below)

/-! ### A row that is no more written -/
mutual
def frzS (h : Nat) (R : Row) : Slot → Slot
  | .row h' => match Nat.beq h h' with
    | true => .val (.sl R.e R.t) R.l
    | false => .row h'
  | .ptr ss => .ptr (frzL h R ss)
  | .agg ss => .agg (frzL h R ss)
  | .tup ss => .tup (frzL h R ss)
  | .fn f ss => .fn f (frzL h R ss)
  | .val t x => .val t x
  | .box k off => .box k off
  | .elt h' sz i off => .elt h' sz i off
  | .nilp => .nilp
  | .nilf => .nilf
def frzL (h : Nat) (R : Row) : List Slot → List Slot
  | [] => []
  | s :: ss => frzS h R s :: frzL h R ss
end
def VState.frz (st : VState) (h : Nat) : Option VState := (assoc h st.rows).map fun R =>
  ⟨st.slots.map fun p => (p.1, frzS h R p.2), dropK [h] st.rows, st.boxes.map fun p => (p.1, (p.2.1, frzL h R p.2.2))⟩

section
variable {C : Ctx} {ρ ρ' : Own} {ok ok' : Nat → Prop} {st st' : VState} {a : Act} {w : World} {T : Nat → Option TI} {P : Program}

section
variable {h : Nat} {R : Row} (hok : ∀ b, ok b → ok' b) (hv : RenS ρ ok' w (.val (.sl R.e R.t) R.l) (ρ.row h))
include hok hv
theorem moves_mono : Moves ρ ρ ok ok' w w (fun _ => True) (fun _ => True) := ⟨fun _ _ => rfl, fun _ _ => rfl, hok, fun _ _ _ => rfl⟩
mutual
theorem frzC : ∀ (s : Slot) {cs : List Value}, RenC ρ ok w s cs → RenC ρ ok' w (frzS h R s) cs
  | .row h', cs, hc => by
    rw [RenC] at hc
    rw [frzS]
    split
    · rename_i e
      rw [hc, ← Nat.eq_of_beq_eq_true e, RenC]
      rw [RenS] at hv
      obtain ⟨cs', h1, h2⟩ := hv
      obtain ⟨A, c, rfl, h3⟩ := h1
      rw [h2]
      exact ⟨A, c, rfl, h3⟩
    · rw [RenC]; exact hc
  | .ptr ss, cs, hc => by
    rw [frzS]
    rw [RenC] at hc ⊢
    obtain ⟨ad, cs', e, h1, h2, h3⟩ := hc
    exact ⟨ad, cs', e, h1.imp (fun e => by rw [e]; rfl) (hok _), frzCs ss h2, h3⟩
  | .agg ss, cs, hc => by rw [RenC] at hc; exact hc.elim
  | .tup ss, cs, hc => by rw [RenC] at hc; exact hc.elim
  | .fn f ss, cs, hc => by
    rw [frzS]
    rw [RenC] at hc ⊢
    obtain ⟨vs, e, h1⟩ := hc
    exact ⟨vs, e, frzVs ss h1⟩
  | .val t x, cs, hc => by rw [frzS]; exact RenC.move (moves_mono hok hv) _ (fun _ _ => trivial) (fun _ _ => trivial) hc
  | .box k off, cs, hc => by rw [frzS]; exact RenC.move (moves_mono hok hv) _ (fun _ _ => trivial) (fun _ _ => trivial) hc
  | .elt h' sz i off, cs, hc => by rw [frzS]; exact RenC.move (moves_mono hok hv) _ (fun _ _ => trivial) (fun _ _ => trivial) hc
  | .nilp, cs, hc => by rw [frzS]; exact RenC.move (moves_mono hok hv) _ (fun _ _ => trivial) (fun _ _ => trivial) hc
  | .nilf, cs, hc => by rw [frzS]; exact RenC.move (moves_mono hok hv) _ (fun _ _ => trivial) (fun _ _ => trivial) hc
theorem frzCs : ∀ (ss : List Slot) {cs : List Value}, RenCs ρ ok w ss cs → RenCs ρ ok' w (frzL h R ss) cs
  | [], cs, hc => by rw [frzL]; rw [RenCs] at hc ⊢; exact hc
  | s :: ss, cs, hc => by
    rw [frzL]
    rw [RenCs] at hc ⊢
    obtain ⟨c1, c2, e, h1, h2⟩ := hc
    exact ⟨c1, c2, e, frzC s h1, frzCs ss h2⟩
theorem frzV : ∀ (s : Slot) {v : Value}, RenS ρ ok w s v → RenS ρ ok' w (frzS h R s) v
  | .row h', v, hc => by
    rw [RenS] at hc
    rw [frzS]
    split
    · rename_i e
      rw [hc, ← Nat.eq_of_beq_eq_true e]
      exact hv
    · rw [RenS]; exact hc
  | .ptr ss, v, hc => by
    rw [frzS]
    rw [RenS] at hc ⊢
    obtain ⟨ad, cs', e, h1, h2, h3⟩ := hc
    exact ⟨ad, cs', e, h1.imp (fun e => by rw [e]; rfl) (hok _), frzCs ss h2, h3⟩
  | .agg ss, v, hc => by
    rw [frzS]
    rw [RenS] at hc ⊢
    obtain ⟨cs, h1, e⟩ := hc
    exact ⟨cs, frzCs ss h1, e⟩
  | .tup ss, v, hc => by
    rw [frzS]
    rw [RenS] at hc ⊢
    obtain ⟨vs, h1, e⟩ := hc
    exact ⟨vs, frzVs ss h1, e⟩
  | .fn f ss, v, hc => by
    rw [frzS]
    rw [RenS] at hc ⊢
    obtain ⟨vs, e, h1⟩ := hc
    exact ⟨vs, e, frzVs ss h1⟩
  | .val t x, v, hc => by rw [frzS]; exact RenS.move (moves_mono hok hv) _ (fun _ _ => trivial) (fun _ _ => trivial) hc
  | .box k off, v, hc => by rw [frzS]; exact RenS.move (moves_mono hok hv) _ (fun _ _ => trivial) (fun _ _ => trivial) hc
  | .elt h' sz i off, v, hc => by rw [frzS]; exact RenS.move (moves_mono hok hv) _ (fun _ _ => trivial) (fun _ _ => trivial) hc
  | .nilp, v, hc => by rw [frzS]; exact RenS.move (moves_mono hok hv) _ (fun _ _ => trivial) (fun _ _ => trivial) hc
  | .nilf, v, hc => by rw [frzS]; exact RenS.move (moves_mono hok hv) _ (fun _ _ => trivial) (fun _ _ => trivial) hc
theorem frzVs : ∀ (ss : List Slot) {vs : List Value}, RenVs ρ ok w ss vs → RenVs ρ ok' w (frzL h R ss) vs
  | [], vs, hc => by rw [frzL]; rw [RenVs] at hc ⊢; exact hc
  | s :: ss, vs, hc => by
    rw [frzL]
    rw [RenVs] at hc ⊢
    obtain ⟨v, vs', e, h1, h2⟩ := hc
    exact ⟨v, vs', e, frzV s h1, frzVs ss h2⟩
end
end

theorem Rel.freeze (r : Rel C ρ ok st a w) (hC : ∀ b, ¬ C.mine0 b) {h : Nat} (hst : st.frz h = some st') : ∃ ok', Rel C ρ ok' st' a w := by
  obtain ⟨R, hR, rfl⟩ := mapS hst
  have hm := assoc_mem hR
  have hok : ∀ b, ok b → (ok b ∨ blk ρ (.r h) = some b) := fun b hb => .inl hb
  have hv : RenS ρ (fun b => ok b ∨ blk ρ (.r h) = some b) w (.val (.sl R.e R.t) R.l) (ρ.row h) := row_as_val (r.rows _ hm) hok (fun b hb => .inr hb) rfl
  have hk : ∀ x ∈ (VState.mk (st.slots.map fun p => (p.1, frzS h R p.2)) (dropK [h] st.rows) (st.boxes.map fun p => (p.1, (p.2.1, frzL h R p.2.2)))).keys, x ∈ st.keys ∧ x ≠ .r h := by
    intro x hx
    rcases List.mem_append.1 hx with hx | hx
    · obtain ⟨p, hp, rfl⟩ := List.mem_map.1 hx
      obtain ⟨h1, h2⟩ := mem_dropK.1 hp
      refine ⟨mem_keys_r h1, fun e => h2 ?_⟩
      injection e with e
      rw [e]
      exact List.mem_singleton.2 rfl
    · obtain ⟨p, hp, rfl⟩ := List.mem_map.1 hx
      obtain ⟨q, hq, rfl⟩ := List.mem_map.1 hp
      exact ⟨mem_keys_b hq, fun e => by cases e⟩
  refine ⟨fun b => ok b ∨ blk ρ (.r h) = some b, r.os, r.tape, r.output, r.size, r.keep, ?_, fun b hb => .inl (r.ok0 b hb), r.defers, r.tmps, r.one, ?_, ?_, ?_, ?_, ?_⟩
  · rintro b (hb | hb)
    · exact r.okb b hb
    · exact ⟨r.lt (mem_keys_r hm) hb, .inr ((r.mine _ (mem_keys_r hm) b hb).1.resolve_right (hC b))⟩
  · intro p hp
    obtain ⟨q, hq, rfl⟩ := List.mem_map.1 hp
    obtain ⟨v, h1, h2⟩ := r.slots q hq
    exact ⟨v, h1, frzV hok hv _ h2⟩
  · intro p hp
    exact (r.rows p (mem_dropK.1 hp).1).move rfl hok (fun _ _ _ => rfl) (fun _ _ => rfl)
  · intro p hp
    obtain ⟨q, hq, rfl⟩ := List.mem_map.1 hp
    obtain ⟨cs, h1, h2⟩ := r.boxes q hq
    exact ⟨cs, h1, frzCs hok hv _ h2⟩
  · intro x hx b hb
    obtain ⟨h1, h2⟩ := hk x hx
    obtain ⟨h3, h4⟩ := r.mine x h1 b hb
    refine ⟨h3, ?_⟩
    rintro (h5 | h5)
    · exact h4 h5
    · exact h2 (r.apart x h1 _ (mem_keys_r hm) b hb h5)
  · intro x hx y hy
    exact r.apart x (hk x hx).1 y (hk y hy).1

/-! ### Names are exchanged -/
def renN (m : List (Nat × Nat)) (h : Nat) : Nat := (assoc h m).getD h
def swapL : List (Nat × Nat) → List (Nat × Nat)
  | [] => []
  | p :: l => (p.2, p.1) :: swapL l
mutual
def renS (m : List (Nat × Nat)) : Slot → Slot
  | .row h => .row (renN m h)
  | .elt h sz i off => .elt (renN m h) sz i off
  | .ptr ss => .ptr (renL m ss)
  | .agg ss => .agg (renL m ss)
  | .tup ss => .tup (renL m ss)
  | .fn f ss => .fn f (renL m ss)
  | .val t x => .val t x
  | .box k off => .box k off
  | .nilp => .nilp
  | .nilf => .nilf
def renL (m : List (Nat × Nat)) : List Slot → List Slot
  | [] => []
  | s :: ss => renS m s :: renL m ss
end
def VState.namesR (st : VState) : List Nat := st.slots.flatMap (fun p => Go.V.namesR p.2) ++ (keysOf st.rows ++ st.boxes.flatMap fun p => namesRs p.2.2)
def VState.ren (st : VState) (m : List (Nat × Nat)) : Option VState :=
  match st.namesR.all fun h => Nat.beq (renN (swapL m) (renN m h)) h with
  | true => some ⟨st.slots.map fun p => (p.1, renS m p.2), st.rows.map fun p => (renN m p.1, p.2), st.boxes.map fun p => (p.1, (p.2.1, renL m p.2.2))⟩
  | false => none

section
variable {m : List (Nat × Nat)} {Rp : Nat → Prop} (hρ : ∀ h, Rp h → ρ'.row (renN m h) = ρ.row h) (hb : ρ'.box = ρ.box)
include hρ hb
mutual
theorem renC_to : ∀ (s : Slot) {cs : List Value}, (∀ h ∈ namesR s, Rp h) → RenC ρ ok w s cs → RenC ρ' ok w (renS m s) cs
  | .row h, cs, hn, hc => by rw [renS]; rw [RenC] at hc ⊢; rw [hρ h (hn h (by simp [namesR]))]; exact hc
  | .elt h sz i off, cs, hn, hc => by rw [renS]; rw [RenC] at hc ⊢; rw [hρ h (hn h (by simp [namesR]))]; exact hc
  | .ptr ss, cs, hn, hc => by
    rw [renS]
    rw [RenC] at hc ⊢
    obtain ⟨ad, cs', e, h1, h2, h3⟩ := hc
    exact ⟨ad, cs', e, h1.imp (fun e => by rw [e]; rfl) id, renCs_to ss (fun h hh => hn h (by simpa [namesR] using hh)) h2, h3⟩
  | .agg ss, cs, hn, hc => by rw [RenC] at hc; exact hc.elim
  | .tup ss, cs, hn, hc => by rw [RenC] at hc; exact hc.elim
  | .fn f ss, cs, hn, hc => by
    rw [renS]
    rw [RenC] at hc ⊢
    obtain ⟨vs, e, h1⟩ := hc
    exact ⟨vs, e, renVs_to ss (fun h hh => hn h (by simpa [namesR] using hh)) h1⟩
  | .val t x, cs, hn, hc => by rw [renS]; rw [RenC] at hc ⊢; exact hc
  | .box k off, cs, hn, hc => by rw [renS]; rw [RenC] at hc ⊢; rw [hb]; exact hc
  | .nilp, cs, hn, hc => by rw [renS]; rw [RenC] at hc ⊢; exact hc
  | .nilf, cs, hn, hc => by rw [renS]; rw [RenC] at hc ⊢; exact hc
theorem renCs_to : ∀ (ss : List Slot) {cs : List Value}, (∀ h ∈ namesRs ss, Rp h) → RenCs ρ ok w ss cs → RenCs ρ' ok w (renL m ss) cs
  | [], cs, hn, hc => by rw [renL]; rw [RenCs] at hc ⊢; exact hc
  | s :: ss, cs, hn, hc => by
    rw [renL]
    rw [RenCs] at hc ⊢
    obtain ⟨c1, c2, e, h1, h2⟩ := hc
    exact ⟨c1, c2, e, renC_to s (fun h hh => hn h (by simp [namesRs, hh])) h1, renCs_to ss (fun h hh => hn h (by simp [namesRs, hh])) h2⟩
theorem renV_to : ∀ (s : Slot) {v : Value}, (∀ h ∈ namesR s, Rp h) → RenS ρ ok w s v → RenS ρ' ok w (renS m s) v
  | .row h, v, hn, hc => by rw [renS]; rw [RenS] at hc ⊢; rw [hρ h (hn h (by simp [namesR]))]; exact hc
  | .elt h sz i off, v, hn, hc => by rw [renS]; rw [RenS] at hc ⊢; rw [hρ h (hn h (by simp [namesR]))]; exact hc
  | .ptr ss, v, hn, hc => by
    rw [renS]
    rw [RenS] at hc ⊢
    obtain ⟨ad, cs', e, h1, h2, h3⟩ := hc
    exact ⟨ad, cs', e, h1.imp (fun e => by rw [e]; rfl) id, renCs_to ss (fun h hh => hn h (by simpa [namesR] using hh)) h2, h3⟩
  | .agg ss, v, hn, hc => by
    rw [renS]
    rw [RenS] at hc ⊢
    obtain ⟨cs, h1, e⟩ := hc
    exact ⟨cs, renCs_to ss (fun h hh => hn h (by simpa [namesR] using hh)) h1, e⟩
  | .tup ss, v, hn, hc => by
    rw [renS]
    rw [RenS] at hc ⊢
    obtain ⟨vs, h1, e⟩ := hc
    exact ⟨vs, renVs_to ss (fun h hh => hn h (by simpa [namesR] using hh)) h1, e⟩
  | .fn f ss, v, hn, hc => by
    rw [renS]
    rw [RenS] at hc ⊢
    obtain ⟨vs, e, h1⟩ := hc
    exact ⟨vs, e, renVs_to ss (fun h hh => hn h (by simpa [namesR] using hh)) h1⟩
  | .val t x, v, hn, hc => by rw [renS]; rw [RenS] at hc ⊢; exact hc
  | .box k off, v, hn, hc => by rw [renS]; rw [RenS] at hc ⊢; rw [hb]; exact hc
  | .nilp, v, hn, hc => by rw [renS]; rw [RenS] at hc ⊢; exact hc
  | .nilf, v, hn, hc => by rw [renS]; rw [RenS] at hc ⊢; exact hc
theorem renVs_to : ∀ (ss : List Slot) {vs : List Value}, (∀ h ∈ namesRs ss, Rp h) → RenVs ρ ok w ss vs → RenVs ρ' ok w (renL m ss) vs
  | [], vs, hn, hc => by rw [renL]; rw [RenVs] at hc ⊢; exact hc
  | s :: ss, vs, hn, hc => by
    rw [renL]
    rw [RenVs] at hc ⊢
    obtain ⟨v, vs', e, h1, h2⟩ := hc
    exact ⟨v, vs', e, renV_to s (fun h hh => hn h (by simp [namesRs, hh])) h1, renVs_to ss (fun h hh => hn h (by simp [namesRs, hh])) h2⟩
end
end

theorem RowOk.move' {h k : Nat} {R : Row} (r : RowOk ρ ok w h R) (hρ : ρ'.row k = ρ.row h) : RowOk ρ' ok w k R := by
  obtain ⟨cs, ho, hc⟩ := r
  exact ⟨cs, by rw [hρ]; exact ho, hc⟩

theorem Rel.rename (r : Rel C ρ ok st a w) {m : List (Nat × Nat)} (hst : st.ren m = some st') : ∃ ρ', Rel C ρ' ok st' a w := by
  unfold VState.ren at hst
  split at hst
  case h_2 => cases hst
  rename_i hall
  cases hst
  rw [List.all_eq_true] at hall
  have hinv : ∀ h ∈ st.namesR, renN (swapL m) (renN m h) = h := fun h hh => Nat.eq_of_beq_eq_true (hall h hh)
  let ρ' : Own := { row := fun k => ρ.row (renN (swapL m) k), box := ρ.box }
  have hρ : ∀ h, h ∈ st.namesR → ρ'.row (renN m h) = ρ.row h := fun h hh => by show ρ.row _ = _; rw [hinv h hh]
  have inS : ∀ p ∈ st.slots, ∀ h ∈ namesR p.2, h ∈ st.namesR := fun p hp h hh => List.mem_append.2 (.inl (List.mem_flatMap.2 ⟨p, hp, hh⟩))
  have inR : ∀ p ∈ st.rows, p.1 ∈ st.namesR := fun p hp => List.mem_append.2 (.inr (List.mem_append.2 (.inl (List.mem_map.2 ⟨p, hp, rfl⟩))))
  have inB : ∀ p ∈ st.boxes, ∀ h ∈ namesRs p.2.2, h ∈ st.namesR := fun p hp h hh => List.mem_append.2 (.inr (List.mem_append.2 (.inr (List.mem_flatMap.2 ⟨p, hp, hh⟩))))
  have hk : ∀ x ∈ (VState.mk (st.slots.map fun p => (p.1, renS m p.2)) (st.rows.map fun p => (renN m p.1, p.2)) (st.boxes.map fun p => (p.1, (p.2.1, renL m p.2.2)))).keys,
      ∃ y ∈ st.keys, blk ρ' x = blk ρ y ∧ (∀ h, y = .r h → x = .r (renN m h)) ∧ (∀ k, y = .b k → x = .b k) := by
    intro x hx
    rcases List.mem_append.1 hx with hx | hx
    · obtain ⟨p, hp, rfl⟩ := List.mem_map.1 hx
      obtain ⟨q, hq, rfl⟩ := List.mem_map.1 hp
      refine ⟨.r q.1, mem_keys_r hq, ?_, (fun h e => by cases e; rfl), (fun k e => by cases e)⟩
      simp only [blk, hρ _ (inR q hq)]
    · obtain ⟨p, hp, rfl⟩ := List.mem_map.1 hx
      obtain ⟨q, hq, rfl⟩ := List.mem_map.1 hp
      exact ⟨.b q.1, mem_keys_b hq, rfl, (fun h e => by cases e), (fun k e => by cases e; rfl)⟩
  refine ⟨ρ', r.os, r.tape, r.output, r.size, r.keep, r.okb, r.ok0, r.defers, r.tmps, fun h => r.one _, ?_, ?_, ?_, ?_, ?_⟩
  · intro p hp
    obtain ⟨q, hq, rfl⟩ := List.mem_map.1 hp
    obtain ⟨v, h1, h2⟩ := r.slots q hq
    exact ⟨v, h1, renV_to (Rp := fun h => h ∈ st.namesR) hρ rfl _ (inS q hq) h2⟩
  · intro p hp
    obtain ⟨q, hq, rfl⟩ := List.mem_map.1 hp
    exact (r.rows q hq).move' (hρ _ (inR q hq))
  · intro p hp
    obtain ⟨q, hq, rfl⟩ := List.mem_map.1 hp
    obtain ⟨cs, h1, h2⟩ := r.boxes q hq
    exact ⟨cs, h1, renCs_to (Rp := fun h => h ∈ st.namesR) hρ rfl _ (inB q hq) h2⟩
  · intro x hx b hxb
    obtain ⟨y, hy, e, _⟩ := hk x hx
    exact r.mine y hy b (by rw [← e]; exact hxb)
  · intro x hx y hy b hxb hyb
    obtain ⟨x', hx', ex, h1, h2⟩ := hk x hx
    obtain ⟨y', hy', ey, h3, h4⟩ := hk y hy
    have := r.apart x' hx' y' hy' b (by rw [← ex]; exact hxb) (by rw [← ey]; exact hyb)
    subst this
    cases x' with
    | r h => rw [h1 h rfl, h3 h rfl]
    | b k => rw [h2 k rfl, h4 k rfl]

/-! ### What is kept -/
structure Fin where
  ks : List Nat
  rs : List Nat := []
  bs : List Nat := []
  fz : List Nat := []
  rn : List (Nat × Nat) := []
def frzAll : List Nat → VState → Option VState
  | [], st => some st
  | h :: hs, st => (st.frz h).bind (frzAll hs)
def VState.fin (st : VState) (f : Fin) : Option VState :=
  (st.keep f.ks f.rs f.bs).bind fun s => (frzAll f.fz s).bind fun s => match f.rn with
    | [] => some s
    | m => s.ren m

theorem Rel.frozen (hC : ∀ b, ¬ C.mine0 b) : ∀ {hs : List Nat} {st st' : VState} {ok : Nat → Prop}, Rel C ρ ok st a w → frzAll hs st = some st' → ∃ ok', Rel C ρ ok' st' a w
  | [], st, st', ok, r, h => by cases h; exact ⟨ok, r⟩
  | k :: hs, st, st', ok, r, h => by
    obtain ⟨s, hs', h⟩ := bindS h
    obtain ⟨ok', r'⟩ := r.freeze hC hs'
    exact Rel.frozen hC r' h

theorem Rel.fin (r : Rel C ρ ok st a w) (hC : ∀ b, ¬ C.mine0 b) {f : Fin} (h : st.fin f = some st') : ∃ ρ' ok', Rel C ρ' ok' st' a w := by
  obtain ⟨s1, h1, h⟩ := bindS h
  obtain ⟨s2, h2, h⟩ := bindS h
  obtain ⟨ok', r'⟩ := Rel.frozen hC (r.kept h1) h2
  split at h
  · cases h
    exact ⟨ρ, ok', r'⟩
  · obtain ⟨ρ', r''⟩ := r'.rename h
    exact ⟨ρ', ok', r''⟩
end
end Go.V
