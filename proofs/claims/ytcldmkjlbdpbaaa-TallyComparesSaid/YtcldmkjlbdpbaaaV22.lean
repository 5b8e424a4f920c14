/- The value logic, part 22: the rules that a printed proof uses. -/
import Derived.Test.YtcldmkjlbdpbaaaV21
set_option linter.unusedVariables false
set_option linter.unusedSimpArgs false
set_option linter.unusedSectionVars false
namespace Go.V
open Go.RowKit (Below)

def vregF (P : Program) (T : Nat → Option TI) (n : Nat) (ops : List Oper) (anns : List (Nat × Ann)) (f : Fin) (st : VState) : Option (List Prop × VState) :=
  (vseq P T n ops 0 ops anns st).bind fun q => (q.2.fin f).map fun s => (q.1, s)
def vanyF (P : Program) (T : Nat → Option TI) (n : Nat) (ops : List Oper) (anns : List (Nat × Ann)) (f : Fin) (st : VState) : Option (List Prop × VState) :=
  (vanyGo P T n ops 0 ops anns [] st).bind fun xs => match pairsOk 0 xs, xs.all (selfOk st) with
    | true, true => ((steps xs st).fin f).map fun s => (xs.flatMap (fun x => x.E.ps), s)
    | _, _ => none

theorem ifS {p : Prop} [Decidable p] {α : Type} {x : Option α} {b : α} (h : (if p then x else none) = some b) : p ∧ x = some b := by
  split at h
  · rename_i hp
    exact ⟨hp, h⟩
  · cases h
theorem condS {b : Bool} {α : Type} {x y : Option α} {r : α} (h : (cond b x y) = some r) : (b = true ∧ x = some r) ∨ (b = false ∧ y = some r) := by
  cases b
  · exact .inr ⟨rfl, h⟩
  · exact .inl ⟨rfl, h⟩
theorem condT {b : Bool} {α : Type} {x y : Option α} {r : α} (h : (cond b x y) = some r) (hb : b = true) : x = some r := by
  subst hb; exact h
theorem condF {b : Bool} {α : Type} {x y : Option α} {r : α} (h : (cond b x y) = some r) (hb : b = false) : y = some r := by
  subst hb; exact h

/-- What comes behind a loop, or a piece whose ways meet. -/
def Out.fin {σ τ ρ R : Type} (o : Out σ τ ρ) (p : σ → τ) (k : τ → Option R) (r : ρ → Option R) : Option R :=
  match o with
  | .next s => k (p s)
  | .brk t => k t
  | .ret x => r x
@[simp] theorem Out.fin_next {σ τ ρ R : Type} {s : σ} {p : σ → τ} {k : τ → Option R} {r : ρ → Option R} : (Out.next s).fin p k r = k (p s) := rfl
@[simp] theorem Out.fin_brk {σ τ ρ R : Type} {t : τ} {p : σ → τ} {k : τ → Option R} {r : ρ → Option R} : (Out.brk t).fin p k r = k t := rfl
@[simp] theorem Out.fin_ret {σ τ ρ R : Type} {x : ρ} {p : σ → τ} {k : τ → Option R} {r : ρ → Option R} : (Out.ret x : Out σ τ ρ).fin p k r = r x := rfl

section
variable {C : Ctx} {st st' : VState} {T : Nat → Option TI} {P : Program} {n : Nat} {Q : Exit → VState → Prop} {x y z c : Code}

theorem vw_reg (hT : TOk P T) (hc : OkC C n) {id : Nat} {l : List Oper} {anns : List (Nat × Ann)} {f : Fin} {ps : List Prop}
    (h : vregF P T n l anns f st = some (ps, st')) (hp : AllP ps) (hq : Q .normal st') : VWp P C (.region id l.toArray false) st Q := by
  intro ρ ok a w r
  obtain ⟨q, hq', h⟩ := bindS h
  obtain ⟨s, hs, e⟩ := mapS h
  cases e
  refine wp_region_list ?_
  rw [List.toList_toArray]
  have hv : vseq P T n l.toArray.toList 0 l anns st = some (q.1, q.2) := by rw [List.toList_toArray]; exact hq'
  exact vseq_sound hT hc.n (ops := l.toArray) l 0 hv hp r fun ρ' ok' a' w' r' =>
    let ⟨ρ2, ok2, r2⟩ := r'.fin hc.no hs
    ⟨ρ2, ok2, st', r2, hq⟩

theorem vw_any (hT : TOk P T) (hm : P.follows .mixedOrders = true) (hc : OkC C n) {id : Nat} {l : List Oper} {anns : List (Nat × Ann)} {f : Fin} {ps : List Prop}
    (h : vanyF P T n l anns f st = some (ps, st')) (hp : AllP ps) (hq : Q .normal st') : VWp P C (.region id l.toArray true) st Q := by
  obtain ⟨xs, hxs, h⟩ := bindS h
  split at h
  case h_2 => cases h
  rename_i h1 h2
  obtain ⟨s, hs, e⟩ := mapS h
  cases e
  have key : ∀ ks rs bs s', (steps xs st).keep ks rs bs = some s' → vany P T n l anns ks rs bs st = some (xs.flatMap (fun x => x.E.ps), s') := by
    intro ks rs bs s' hk
    unfold vany
    rw [hxs]
    simp only [Option.bind_some, h1, h2, hk, Option.map_some]
  obtain ⟨s1, hs1, hs⟩ := bindS hs
  have hv := vwp_any (C := C) (Q := fun e st' => e = .normal ∧ st' = s1) hT hm hc.n (id := id) (key _ _ _ _ hs1) hp ⟨rfl, rfl⟩
  intro ρ ok a w r
  refine wp_mono (hv ρ ok a w r) ?_
  rintro e a' w' ⟨ρ', ok', st2, r', rfl, rfl⟩
  obtain ⟨s2, h2, h3⟩ := bindS hs
  obtain ⟨ok2, r2⟩ := Rel.frozen hc.no r' h2
  split at h3
  · cases h3
    exact ⟨ρ', ok2, st', r2, hq⟩
  · obtain ⟨ρ2, r3⟩ := r2.rename h3
    exact ⟨ρ2, ok2, st', r3, hq⟩

theorem sq_reg (hT : TOk P T) (hc : OkC C n) {id : Nat} {l : List Oper} {anns : List (Nat × Ann)} {f : Fin} {ps : List Prop}
    (h : vregF P T n l anns f st = some (ps, st')) (hp : AllP ps) (hq : VWp P C y st' Q) : VWp P C (.seq (.region id l.toArray false) y) st Q := vwp_seq (vw_reg hT hc h hp hq)
theorem sq_any (hT : TOk P T) (hm : P.follows .mixedOrders = true) (hc : OkC C n) {id : Nat} {l : List Oper} {anns : List (Nat × Ann)} {f : Fin} {ps : List Prop}
    (h : vanyF P T n l anns f st = some (ps, st')) (hp : AllP ps) (hq : VWp P C y st' Q) : VWp P C (.seq (.region id l.toArray true) y) st Q := vwp_seq (vw_any hT hm hc h hp hq)

/-- Ways that meet: what stands where they do. -/
def meetQ {σ ρ : Type} (B : σ → VState) (Rq : ρ → VState → Prop) (o : Out σ σ ρ) (e : Exit) (st : VState) : Prop :=
  match o with
  | .next s => e = .normal ∧ st = B s
  | .brk s => e = .normal ∧ st = B s
  | .ret r => e = .ret ∧ Rq r st
/-- A piece of code whose ways meet behind it. -/
theorem sq_meet {σ ρ R : Type} {B : σ → VState} {Rq : ρ → VState → Prop} {o : Out σ σ ρ} {k : σ → Option R} {rr : ρ → Option R} {v : R} (h : o.fin id k rr = some v)
    (hx : VWp P C x st (meetQ B Rq o)) (hk : ∀ s, k s = some v → VWp P C y (B s) Q) (hr : ∀ r st', rr r = some v → Rq r st' → Q .ret st') : VWp P C (.seq x y) st Q := by
  refine vwp_seq (hx.mono ?_)
  intro e st' hm
  cases o with
  | next s => obtain ⟨rfl, rfl⟩ := hm; exact hk s h
  | brk s => obtain ⟨rfl, rfl⟩ := hm; exact hk s h
  | ret r => obtain ⟨rfl, hm⟩ := hm; exact hr r st' h hm
/-- ... that all go on. -/
theorem sq_join {st1 : VState} (hx : VWp P C x st (fun e st' => e = .normal ∧ st' = st1)) (hy : VWp P C y st1 Q) : VWp P C (.seq x y) st Q := by
  refine vwp_seq (hx.mono ?_)
  rintro e st' ⟨rfl, rfl⟩
  exact hy
theorem sq_cond {k : Nat} {b : Bool} (hb : assoc k st.slots = some (.val .bool b)) (h1 : b = true → VWp P C x st (thn P C z Q)) (h2 : b = false → VWp P C y st (thn P C z Q)) :
    VWp P C (.seq (.cond (.tmp k) x y) z) st Q := vwp_seq (vwp_cond hb h1 h2)
theorem sq_block {id : Nat} (h : VWp P C x st (inB id (thn P C y Q))) : VWp P C (.seq (.block id x) y) st Q := vwp_seq (vwp_block h)
theorem sq_skip (h : VWp P C y st Q) : VWp P C (.seq .skip y) st Q := vwp_seq (vwp_skip h)
/-- Nothing is done, less is known. -/
theorem vw_skipF (hc : OkC C n) {f : Fin} (h : st.fin f = some st') (hq : Q .normal st') : VWp P C .skip st Q := by
  intro ρ ok a w r
  obtain ⟨ρ', ok', r'⟩ := r.fin hc.no h
  exact wp_skip ⟨ρ', ok', st', r', hq⟩
/-- Less is known. -/
theorem vw_fin (hc : OkC C n) {f : Fin} (h : st.fin f = some st') (hq : VWp P C x st' Q) : VWp P C x st Q := by
  intro ρ ok a w r
  obtain ⟨ρ', ok', r'⟩ := r.fin hc.no h
  exact hq ρ' ok' a w r'

/-! ### Loops -/
/-- What stands where a loop is left. -/
def loopQ {σ τ ρ : Type} (id : Nat) (B : τ → VState) (p : σ → τ) (Rq : ρ → VState → Prop) (o : Out σ τ ρ) (e : Exit) (st : VState) : Prop :=
  match o with
  | .next s => e = .exit id ∧ st = B (p s)
  | .brk t => e = .exit id ∧ st = B t
  | .ret r => e = .ret ∧ Rq r st
/-- What stands behind a round. -/
def roundQ {σ τ ρ : Type} (S : Nat → σ → VState) (Post : Out σ τ ρ → Exit → VState → Prop) (i : Nat) (o : Out σ τ ρ) (e : Exit) (st : VState) : Prop :=
  match o with
  | .next s => e = .normal ∧ st = S (i + 1) s
  | .brk t => e ≠ .normal ∧ Post (.brk t) e st
  | .ret r => e ≠ .normal ∧ Post (.ret r) e st
def endQ {σ τ ρ : Type} (Post : Out σ τ ρ → Exit → VState → Prop) (s : σ) (e : Exit) (st : VState) : Prop := e ≠ .normal ∧ Post (.next s) e st

section
variable {σ τ ρ R : Type} {S : Nat → σ → VState} {B : τ → VState} {p : σ → τ} {Rq : ρ → VState → Prop} {id : Nat} {o : Out σ τ ρ} {k : τ → Option R} {rr : ρ → Option R} {v : R}

theorem sq_loop (h : o.fin p k rr = some v) (hl : VWp P C (.loop c) st (loopQ id B p Rq o)) (hk : ∀ t, k t = some v → VWp P C y (B t) Q) (hr : ∀ r st', rr r = some v → Rq r st' → Q .ret st') :
    VWp P C (.seq (.block id (.loop c)) y) st Q := by
  have hb : Nat.beq id id = true := Nat.beq_refl id
  refine sq_block (hl.mono ?_)
  intro e st' hm
  cases o with
  | next s =>
    obtain ⟨rfl, rfl⟩ := hm
    simp only [inB, hb]
    exact hk _ h
  | brk t =>
    obtain ⟨rfl, rfl⟩ := hm
    simp only [inB, hb]
    exact hk _ h
  | ret r =>
    obtain ⟨rfl, hm⟩ := hm
    exact hr r st' h hm

theorem sq_for {N : Nat} {body : Nat → σ → Option (Out σ τ ρ)} {s0 : σ} (ho : forR body N 0 s0 = some o) (h : o.fin p k rr = some v) (h0 : st = S 0 s0)
    (hbody : ∀ i s o, i < N → body i s = some o → VWp P C c (S i s) (roundQ S (loopQ id B p Rq) i o)) (hend : ∀ s, VWp P C c (S N s) (endQ (loopQ id B p Rq) s))
    (hk : ∀ t, k t = some v → VWp P C y (B t) Q) (hr : ∀ r st', rr r = some v → Rq r st' → Q .ret st') : VWp P C (.seq (.block id (.loop c)) y) st Q := by
  subst h0
  refine sq_loop h (vwp_for (n := N) (body := body) S (loopQ id B p Rq) (fun i s o hi hb => (hbody i s o hi hb).mono ?_) (fun s => hend s) N 0 s0 o (by omega) ho) hk hr
  intro e st' hq
  cases o <;> exact hq

theorem sq_wh {body : σ → Option (Out σ τ ρ)} {W : σ → VState} {s0 : σ} (ho : wh body s0 = some o) (h : o.fin p k rr = some v) (h0 : st = W s0)
    (hbody : ∀ s o, body s = some o → VWp P C c (W s) (roundQ (fun _ => W) (loopQ id B p Rq) 0 o))
    (hk : ∀ t, k t = some v → VWp P C y (B t) Q) (hr : ∀ r st', rr r = some v → Rq r st' → Q .ret st') : VWp P C (.seq (.block id (.loop c)) y) st Q := by
  subst h0
  refine sq_loop h (vwp_wh (body := body) W (loopQ id B p Rq) (fun s o hb => (hbody s o hb).mono ?_) s0 o ho) hk hr
  intro e st' hq
  cases o <;> exact hq

theorem r_next {Post : Out σ τ ρ → Exit → VState → Prop} {i : Nat} {s : σ} (h : st = S (i + 1) s) : roundQ S Post i (.next s) .normal st := ⟨rfl, h⟩
theorem r_brk {i : Nat} {t : τ} (h : st = B t) : roundQ S (loopQ id B p Rq) i (.brk t) (.exit id) st := ⟨(fun e => by cases e), rfl, h⟩
theorem r_ret {i : Nat} {r : ρ} (h : Rq r st) : roundQ S (loopQ id B p Rq) i (.ret r) .ret st := ⟨(fun e => by cases e), rfl, h⟩
theorem r_end {s : σ} (h : st = B (p s)) : endQ (loopQ id B p Rq) s (.exit id) st := ⟨(fun e => by cases e), rfl, h⟩
end

/-- What a function hands back, at a return. -/
def retR (T : Nat → Option TI) (fn : Func) {ρ : Type} (res : ρ → Slot) (rows : ρ → List (Nat × Row)) (r : ρ) (st : VState) : Prop := resOf T st fn.results.toList = some (res r) ∧ st.rows = rows r
theorem ret_q {fn : Func} {ρ : Type} {res : ρ → Slot} {rows : ρ → List (Nat × Row)} {r : ρ} (h : retR T fn res rows r st) : retQ T fn (res r) (rows r) .ret st := ⟨.inl rfl, h.1, h.2⟩
theorem norm_q {fn : Func} {ρ : Type} {res : ρ → Slot} {rows : ρ → List (Nat × Row)} {r : ρ} (h : retR T fn res rows r st) : retQ T fn (res r) (rows r) .normal st := ⟨.inr rfl, h.1, h.2⟩
theorem m_next {σ ρ : Type} {B : σ → VState} {Rq : ρ → VState → Prop} {s : σ} (h : st = B s) : meetQ B Rq (.next s) .normal st := ⟨rfl, h⟩
theorem m_ret {σ ρ : Type} {B : σ → VState} {Rq : ρ → VState → Prop} {r : ρ} (h : Rq r st) : meetQ B Rq (.ret r) .ret st := ⟨rfl, h⟩

/-- A result that is no more written. -/
theorem callOK_frz {f : Nat} {args : List Slot} {h : Nat} {R : Row} (hc : CallOK P f args (.row h) [(h, R)]) : CallOK P f args (.val (.sl R.e R.t) R.l) [] := by
  refine ⟨hc.1, fun ρ ok w vs hone hok hvs => (hc.2 ρ ok w vs hone hok hvs).mono ?_⟩
  rintro e w' ⟨v, ρ', ok', rfl, hB⟩
  have hv := hB.val
  rw [RenS] at hv
  refine ⟨v, ρ', fun b => ok' b ∨ blk ρ' (.r h) = some b, rfl, hB.below, fun b hb => .inl (hB.oks b hb), ?_, hB.one, ?_, (fun p hp => by cases hp), (fun p hp => by cases hp), (fun p hp => by cases hp)⟩
  · rintro b (hb | hb)
    · exact hB.oks' b hb
    · exact .inr ⟨(hB.new (h, R) (by simp) b hb).1, (hB.rows (h, R) (by simp)).lt hb⟩
  · exact row_as_val (hB.rows (h, R) (by simp)) (fun b hb => .inl hb) (fun b hb => .inr hb) hv
end
end Go.V
