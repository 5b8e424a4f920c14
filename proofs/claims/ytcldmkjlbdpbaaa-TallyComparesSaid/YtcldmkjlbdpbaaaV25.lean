/- The value logic, part 25: pieces whose ways meet, and loops, whatever comes behind. -/
import Derived.Test.YtcldmkjlbdpbaaaV24
set_option linter.unusedVariables false
set_option linter.unusedSimpArgs false
set_option linter.unusedSectionVars false
namespace Go.V
open Go.RowKit (Below)

section
variable {C : Ctx} {st st' : VState} {T : Nat → Option TI} {P : Program} {n : Nat} {Q : Exit → VState → Prop} {x y z c : Code}

/-- All ways come to one state. -/
def joinQ (st1 : VState) (e : Exit) (st : VState) : Prop := e = .normal ∧ st = st1
theorem j_next {st1 : VState} (h : st = st1) : joinQ st1 .normal st := ⟨rfl, h⟩
theorem vw_join {st1 : VState} (hx : VWp P C x st (joinQ st1)) (hy : Q .normal st1) : VWp P C x st Q := by
  refine hx.mono ?_
  rintro e st' ⟨rfl, rfl⟩
  exact hy
/-- The ways meet, or return. -/
theorem vw_meet {σ ρ R : Type} {B : σ → VState} {Rq : ρ → VState → Prop} {o : Out σ σ ρ} {k : σ → Option R} {rr : ρ → Option R} {v : R} (h : o.fin (fun s => s) k rr = some v)
    (hx : VWp P C x st (meetQ B Rq o)) (hk : ∀ s, k s = some v → Q .normal (B s)) (hr : ∀ r st', rr r = some v → Rq r st' → Q .ret st') : VWp P C x st Q := by
  refine hx.mono ?_
  intro e st' hm
  cases o with
  | next s => obtain ⟨rfl, rfl⟩ := hm; exact hk s h
  | brk s => obtain ⟨rfl, rfl⟩ := hm; exact hk s h
  | ret r => obtain ⟨rfl, hm⟩ := hm; exact hr r st' h hm

section
variable {σ τ ρ R : Type} {S : Nat → σ → VState} {B : τ → VState} {p : σ → τ} {Rq : ρ → VState → Prop} {id : Nat} {o : Out σ τ ρ} {k : τ → Option R} {rr : ρ → Option R} {v : R}

theorem vw_loop (h : o.fin p k rr = some v) (hl : VWp P C (.loop c) st (loopQ id B p Rq o)) (hk : ∀ t, k t = some v → Q .normal (B t)) (hr : ∀ r st', rr r = some v → Rq r st' → Q .ret st') :
    VWp P C (.block id (.loop c)) st Q := by
  have hb : Nat.beq id id = true := Nat.beq_refl id
  refine vwp_block (hl.mono ?_)
  intro e st' hm
  cases o with
  | next s =>
    obtain ⟨rfl, rfl⟩ := hm
    simp only [inB, hb]
    exact hk _ h
  | brk t =>
    obtain ⟨rfl, rfl⟩ := hm
    simp only [inB, hb]
    exact hk _ h
  | ret r =>
    obtain ⟨rfl, hm⟩ := hm
    exact hr r st' h hm

/-- A loop with a number of rounds. -/
theorem vw_for {N : Nat} {body : Nat → σ → Option (Out σ τ ρ)} {s0 : σ} (ho : forR body N 0 s0 = some o) (h : o.fin p k rr = some v) (h0 : st = S 0 s0)
    (hbody : ∀ i s o, i < N → body i s = some o → VWp P C c (S i s) (roundQ S (loopQ id B p Rq) i o)) (hend : ∀ s, VWp P C c (S N s) (endQ (loopQ id B p Rq) s))
    (hk : ∀ t, k t = some v → Q .normal (B t)) (hr : ∀ r st', rr r = some v → Rq r st' → Q .ret st') : VWp P C (.block id (.loop c)) st Q := by
  subst h0
  refine vw_loop h (vwp_for (n := N) (body := body) S (loopQ id B p Rq) (fun i s o hi hb => (hbody i s o hi hb).mono ?_) (fun s => hend s) N 0 s0 o (by omega) ho) hk hr
  intro e st' hq
  cases o <;> exact hq
/-- A loop without. -/
theorem vw_wh {body : σ → Option (Out σ τ ρ)} {W : σ → VState} {s0 : σ} (ho : wh body s0 = some o) (h : o.fin p k rr = some v) (h0 : st = W s0)
    (hbody : ∀ s o, body s = some o → VWp P C c (W s) (roundQ (fun _ => W) (loopQ id B p Rq) 0 o))
    (hk : ∀ t, k t = some v → Q .normal (B t)) (hr : ∀ r st', rr r = some v → Rq r st' → Q .ret st') : VWp P C (.block id (.loop c)) st Q := by
  subst h0
  refine vw_loop h (vwp_wh (body := body) W (loopQ id B p Rq) (fun s o hb => (hbody s o hb).mono ?_) s0 o ho) hk hr
  intro e st' hq
  cases o <;> exact hq
end

theorem r_retR {fn : Func} {ρ : Type} {res : ρ → Slot} {rows : ρ → List (Nat × Row)} {r : ρ} (h : retR T fn res rows r st) : Exit.ret ≠ Exit.normal ∧ Exit.ret = Exit.ret ∧ retR T fn res rows r st := ⟨(fun e => by cases e), rfl, h⟩
theorem m_retR {fn : Func} {ρ : Type} {res : ρ → Slot} {rows : ρ → List (Nat × Row)} {r : ρ} (h : retR T fn res rows r st) : Exit.ret = Exit.ret ∧ retR T fn res rows r st := ⟨rfl, h⟩
theorem r_nextE (h : st = st') : Exit.normal = Exit.normal ∧ st = st' := ⟨rfl, h⟩
theorem r_brkE {id : Nat} (h : st = st') : Exit.exit id ≠ Exit.normal ∧ Exit.exit id = Exit.exit id ∧ st = st' := ⟨(fun e => by cases e), rfl, h⟩

/-- So many rounds, each told by itself. -/
def roundsQ (P : Program) (C : Ctx) (c : Code) (Q : Exit → VState → Prop) (k : Nat) (e : Exit) (st : VState) : Prop :=
  match e with
  | .normal => vrounds P C c Q k st
  | e => Q e st
theorem vw_rounds {id : Nat} (k : Nat) (h : vrounds P C c (inB id Q) k st) : VWp P C (.block id (.loop c)) st Q := vwp_block (vwp_loop k h)
theorem v_round {k : Nat} (h : VWp P C c st (roundsQ P C c Q k)) : vrounds P C c Q (k + 1) st := by
  refine h.mono ?_
  intro e st' hq
  cases e <;> exact hq

/-- A slice is no longer than memory bears. -/
theorem vw_len {k e : Nat} {t : Ty} {l : List t.D} (h : assoc k st.slots = some (.val (.sl e t) l)) (hw : l.length ≤ 9223372036854775807 → VWp P C x st Q) : VWp P C x st Q := vwp_len h hw
theorem vw_lenR {k : Nat} {R : Row} (h : assoc k st.rows = some R) (hw : R.l.length ≤ 9223372036854775807 → VWp P C x st Q) : VWp P C x st Q := by
  intro ρ ok a w r
  obtain ⟨cs, ho, _⟩ := r.rows _ (assoc_mem h)
  refine hw ?_ ρ ok a w r
  rcases ho.2 with ⟨_, h0⟩ | ⟨g, cap, cur, _, _, _, h1, h2, _⟩
  · have h0' : R.l.length = 0 := h0
    omega
  · simp only [maxLen] at h2
    have h1' : R.l.length ≤ cap := h1
    omega
end
end Go.V
