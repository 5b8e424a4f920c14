/- The value logic, part 16: regions that go in their order, control, and whole functions. -/
import Derived.Test.YtcldmkjlbdpbaaaV15
set_option linter.unusedVariables false
set_option linter.unusedSimpArgs false
namespace Go.V
open Go.RowKit (Below)

theorem allP_append {l l' : List Prop} : AllP (l ++ l') ↔ AllP l ∧ AllP l' := by
  induction l with
  | nil => simp [AllP]
  | cons p l ih => simp [AllP, ih, and_assoc]

/-- Is the operation carried out? -/
def guardOk (ops : List Oper) (st : VState) (o : Oper) : Option Bool :=
  match o.guard with
  | none => some true
  | some (j, want) => match (ops[j]?).bind (·.dst) with
    | some d => match assoc d st.slots with
      | some (.val .bool b) => match (b : Bool), want with
        | true, true => some true
        | false, false => some true
        | true, false => some false
        | false, true => some false
      | some (.tup []) => some false
      | _ => none
    | none => none

def vseq (P : Program) (T : Nat → Option TI) (n : Nat) (ops : List Oper) : Nat → List Oper → List (Nat × Ann) → VState → Option (List Prop × VState)
  | _, [], _, st => some ([], st)
  | i, o :: os, anns, st => match guardOk ops st o with
    | none => none
    | some false => match (match o.dst with | some d => Nat.blt d n | none => true) with
      | true => vseq P T n ops (i + 1) os anns (st.put o.dst (some (.tup [])))
      | false => none
    | some true => (vop P T st o ((assoc i anns).getD {})).bind fun E => match (match o.dst with | some d => Nat.blt d n | none => true) with
      | true => (vseq P T n ops (i + 1) os anns ((st.after E).put o.dst E.s)).map fun q => (E.ps ++ q.1, q.2)
      | false => none

def keepL {α : Type} : List Nat → List (Nat × α) → Option (List (Nat × α))
  | [], _ => some []
  | k :: ks, l => (assoc k l).bind fun s => (keepL ks l).map fun r => (k, s) :: r
def VState.keep (st : VState) (ks rs bs : List Nat) : Option VState :=
  (keepL ks st.slots).bind fun s => (keepL rs st.rows).bind fun r => (keepL bs st.boxes).map fun b => ⟨s, r, b⟩

theorem keepL_mem {α : Type} : ∀ {ks : List Nat} {l r : List (Nat × α)}, keepL ks l = some r → ∀ p ∈ r, p ∈ l
  | [], l, r, h, p, hp => by cases h; cases hp
  | k :: ks, l, r, h, p, hp => by
    simp only [keepL] at h
    obtain ⟨s, hs, h⟩ := bindS h
    obtain ⟨r', hr, rfl⟩ := mapS h
    rcases List.mem_cons.1 hp with rfl | hp
    · exact assoc_mem hs
    · exact keepL_mem hr p hp

section
variable {C : Ctx} {ρ : Own} {ok : Nat → Prop} {st st' : VState} {a : Act} {w : World} {T : Nat → Option TI} {P : Program}

theorem Rel.kept (r : Rel C ρ ok st a w) {ks rs bs : List Nat} (h : st.keep ks rs bs = some st') : Rel C ρ ok st' a w := by
  obtain ⟨s, hs, h⟩ := bindS h
  obtain ⟨r1, hr, h⟩ := bindS h
  obtain ⟨b, hb, rfl⟩ := mapS h
  exact r.less (keepL_mem hs) (keepL_mem hr) (keepL_mem hb)

theorem guardOk_sound (r : Rel C ρ ok st a w) {ops : Array Oper} {o : Oper} {g : Bool} (h : guardOk ops.toList st o = some g) : Region.wanted o (yielded ops a.tmps) = g := by
  unfold guardOk at h
  unfold Region.wanted
  split at h
  · rename_i e
    rw [e]
    cases h
    rfl
  · rename_i j want e
    rw [e]
    dsimp only
    split at h
    · rename_i d hd
      split at h
      · rename_i b hb
        obtain ⟨v, hv, hs⟩ := r.slots _ (assoc_mem hb)
        obtain rfl := inv_bool hs
        have hy : yielded ops a.tmps j = some b := by
          unfold yielded
          rw [Array.getElem?_toList] at hd
          rw [hd]
          simp only [Option.bind_some]
          rw [hv]
        rw [hy]
        split at h <;> cases h <;> rfl
      · rename_i hb
        obtain ⟨v, hv, hs⟩ := r.slots _ (assoc_mem hb)
        cases h
        rw [RenS] at hs
        obtain ⟨vs, h1, e⟩ := hs
        rw [RenVs] at h1
        subst h1
        subst e
        have hy : yielded ops a.tmps j = none := by
          unfold yielded
          rw [Array.getElem?_toList] at hd
          rw [hd]
          simp only [Option.bind_some]
          rw [hv]
        rw [hy]
        rfl
      · cases h
    · cases h

theorem Rel.put (r : Rel C ρ ok st a w) {d : Option Nat} (hd : (match d with | some d => Nat.blt d C.n | none => true) = true) {s : Option Slot} {v : Value} (hs : ∀ s', s = some s' → RenS ρ ok w s' v) : Rel C ρ ok (st.put d s) (a.put d v) w := by
  cases d with
  | none =>
    have e : a.put none v = a := rfl
    rw [e]
    cases s <;> exact r
  | some d =>
    cases s with
    | none => exact r.unset d v
    | some s => exact r.set (Nat.le_of_ble_eq_true hd) (hs s rfl)

theorem ren_undef : RenS ρ ok w (.tup []) undef := by rw [RenS]; exact ⟨[], by rw [RenVs], rfl⟩

theorem vseq_sound (hT : TOk P T) {n : Nat} (hn : C.n = n) {ops : Array Oper} {Q : Exit → Act → World → Prop} : ∀ (l : List Oper) (i : Nat) {anns : List (Nat × Ann)} {st st' : VState} {ps : List Prop} {ρ : Own} {ok : Nat → Prop} {a : Act} {w : World},
    vseq P T n ops.toList i l anns st = some (ps, st') → AllP ps → Rel C ρ ok st a w → (∀ ρ' ok' a' w', Rel C ρ' ok' st' a' w' → Q .normal a' w') → wpList P ops Q l a w
  | [], i, anns, st, st', ps, ρ, ok, a, w, h, hp, r, hQ => by
    cases h
    exact wpList_nil (hQ ρ ok a w r)
  | o :: l, i, anns, st, st', ps, ρ, ok, a, w, h, hp, r, hQ => by
    simp only [vseq] at h
    split at h
    · cases h
    · rename_i hg
      have hg' := guardOk_sound r hg
      split at h
      · rename_i hd
        refine wpList_step fun K hK => ?_
        rw [if_neg (by rw [hg']; simp)]
        exact hK _ _ (vseq_sound (ρ := ρ) (ok := ok) hT hn l (i + 1) h hp (r.put (by rw [hn]; exact hd) (fun s' e => by cases e; exact ren_undef)) hQ)
      · cases h
    · rename_i hg
      have hg' := guardOk_sound r hg
      obtain ⟨E, hE, h⟩ := bindS h
      split at h
      · rename_i hd
        obtain ⟨q, hq, e⟩ := mapS h
        cases e
        rw [allP_append] at hp
        refine wpList_step fun K hK => ?_
        rw [if_pos hg']
        refine vop_sound hT r hE hp.1 _ _ (fun v ρ' ok' w' hs hR _ _ => hK _ _ (vseq_sound (ρ := ρ') (ok := ok') hT hn l (i + 1) (ps := q.1) (st' := q.2) hq hp.2 ?_ hQ))
        exact hR.put (by rw [hn]; exact hd) hs
      · cases h

/-- FROM THIS STATE THE CODE COMES TO THAT. -/
def VWp (P : Program) (C : Ctx) (c : Code) (st : VState) (Q : Exit → VState → Prop) : Prop :=
  ∀ ρ ok a w, Rel C ρ ok st a w → c.wp P (fun e a' w' => ∃ ρ' ok' st', Rel C ρ' ok' st' a' w' ∧ Q e st') a w

theorem VWp.mono {c : Code} {Q Q' : Exit → VState → Prop} (h : VWp P C c st Q) (hq : ∀ e st', Q e st' → Q' e st') : VWp P C c st Q' :=
  fun ρ ok a w r => wp_mono (h ρ ok a w r) fun e a' w' ⟨ρ', ok', st', r', q⟩ => ⟨ρ', ok', st', r', hq e st' q⟩

/-- A region in its order, and what is kept of the state behind it. -/
def vregion (P : Program) (T : Nat → Option TI) (n : Nat) (ops : List Oper) (anns : List (Nat × Ann)) (ks rs bs : List Nat) (st : VState) : Option (List Prop × VState) :=
  (vseq P T n ops 0 ops anns st).bind fun q => (q.2.keep ks rs bs).map fun s => (q.1, s)

theorem vwp_region (hT : TOk P T) {n : Nat} (hn : C.n = n) {id : Nat} {l : List Oper} {anns : List (Nat × Ann)} {ks rs bs : List Nat} {ps : List Prop} {Q : Exit → VState → Prop}
    (h : vregion P T n l anns ks rs bs st = some (ps, st')) (hp : AllP ps) (hq : Q .normal st') : VWp P C (.region id l.toArray false) st Q := by
  intro ρ ok a w r
  obtain ⟨q, hq', h⟩ := bindS h
  obtain ⟨s, hs, e⟩ := mapS h
  cases e
  refine wp_region_list ?_
  rw [List.toList_toArray]
  have hv : vseq P T n l.toArray.toList 0 l anns st = some (q.1, q.2) := by rw [List.toList_toArray]; exact hq'
  exact vseq_sound hT hn (ops := l.toArray) l 0 hv hp r fun ρ' ok' a' w' r' => ⟨ρ', ok', st', r'.kept hs, hq⟩

def thn (P : Program) (C : Ctx) (y : Code) (Q : Exit → VState → Prop) : Exit → VState → Prop
  | .normal, st => VWp P C y st Q
  | e, st => Q e st

theorem vwp_seq {x y : Code} {Q : Exit → VState → Prop} (h : VWp P C x st (thn P C y Q)) : VWp P C (.seq x y) st Q := by
  intro ρ ok a w r
  refine wp_seq (wp_mono (h ρ ok a w r) ?_)
  rintro e a' w' ⟨ρ', ok', st', r', q⟩
  cases e <;> first | exact q ρ' ok' a' w' r' | exact ⟨ρ', ok', st', r', q⟩

theorem vwp_skip {Q : Exit → VState → Prop} (h : Q .normal st) : VWp P C .skip st Q := fun ρ ok a w r => wp_skip ⟨ρ, ok, st, r, h⟩
theorem vwp_exit {id : Nat} {Q : Exit → VState → Prop} (h : Q (.exit id) st) : VWp P C (.exit id) st Q := fun ρ ok a w r => wp_exit ⟨ρ, ok, st, r, h⟩
theorem vwp_ret {Q : Exit → VState → Prop} (h : Q .ret st) : VWp P C .ret st Q := fun ρ ok a w r => wp_ret ⟨ρ, ok, st, r, h⟩

theorem vwp_cond {k : Nat} {x y : Code} {Q : Exit → VState → Prop} {b : Bool} (hb : assoc k st.slots = some (.val .bool b)) (h1 : b = true → VWp P C x st Q) (h2 : b = false → VWp P C y st Q) :
    VWp P C (.cond (.tmp k) x y) st Q := by
  intro ρ ok a w r
  obtain ⟨v, hv, hs⟩ := r.slots _ (assoc_mem hb)
  obtain rfl := inv_bool hs
  have he : a.eval (.tmp k) = .bool b := by simp [Act.eval, Array.getD_eq_getD_getElem?, hv]
  cases b with
  | true => exact wp_cond_true he (h1 rfl ρ ok a w r)
  | false => exact wp_cond_false he (h2 rfl ρ ok a w r)

def inB (id : Nat) (Q : Exit → VState → Prop) : Exit → VState → Prop
  | .exit id', st => match Nat.beq id' id with
    | true => Q .normal st
    | false => Q (.exit id') st
  | e, st => Q e st

theorem vwp_block {id : Nat} {c : Code} {Q : Exit → VState → Prop} (h : VWp P C c st (inB id Q)) : VWp P C (.block id c) st Q := by
  intro ρ ok a w r
  refine wp_block (wp_mono (h ρ ok a w r) ?_)
  rintro e a' w' ⟨ρ', ok', st', r', q⟩
  cases e with
  | exit id' =>
    simp only [inB] at q
    simp only [Exit.inBlock]
    split at q
    · rename_i e
      rw [if_pos (Nat.eq_of_beq_eq_true e)]
      exact ⟨ρ', ok', st', r', q⟩
    · rename_i e
      rw [if_neg (by rintro rfl; rw [Nat.beq_refl] at e; cases e)]
      exact ⟨ρ', ok', st', r', q⟩
  | _ => exact ⟨ρ', ok', st', r', q⟩

/-- Less is known, names are others. -/
theorem vwp_keep {c : Code} {Q : Exit → VState → Prop} {ks rs bs : List Nat} (h : st.keep ks rs bs = some st') (hw : VWp P C c st' Q) : VWp P C c st Q :=
  fun ρ ok a w r => hw ρ ok a w (r.kept h)

/-! ### Loops: so many rounds -/
def vrounds (P : Program) (C : Ctx) (c : Code) (Q : Exit → VState → Prop) : Nat → VState → Prop
  | 0, _ => False
  | n + 1, st => VWp P C c st fun e st' => match e with
    | .normal => vrounds P C c Q n st'
    | e => Q e st'

theorem vwp_loop {c : Code} {Q : Exit → VState → Prop} (n : Nat) (h : vrounds P C c Q n st) : VWp P C (.loop c) st Q := by
  intro ρ ok a w r
  refine wp_loop_rounds n ?_
  induction n generalizing st ρ ok a w with
  | zero => exact h.elim
  | succ n ih =>
    rw [rounds_succ]
    refine wp_mono (h ρ ok a w r) ?_
    rintro e a' w' ⟨ρ', ok', st', r', q⟩
    cases e <;> first | exact ih q ρ' ok' a' w' r' | exact ⟨ρ', ok', st', r', q⟩

/-! ### A whole function -/
def numb : Nat → List Slot → List (Nat × Slot)
  | _, [] => []
  | i, s :: ss => (i, s) :: numb (i + 1) ss

/-- What a function hands back. -/
def resL (T : Nat → Option TI) (st : VState) : List ResultVar → Option (List Slot)
  | [] => some []
  | .tmp t :: rs => (assoc t st.slots).bind fun s => (resL T st rs).map fun l => s :: l
  | .cell p t :: rs => (T t).bind fun i => (assoc p st.slots).bind fun s => match s with
    | .box k off => (cellsAt st (.box k off)).bind fun q => (vload i q.2).bind fun s => (resL T st rs).map fun l => s :: l
    | _ => none
def resOf (T : Nat → Option TI) (st : VState) (rs : List ResultVar) : Option Slot :=
  (resL T st rs).bind fun l => match l with
    | [s] => some s
    | l => some (.tup l)

def resM (tmps : Array Value) : ResultVar → Sem Value
  | .tmp t => pure (tmps.getD t undef)
  | .cell p t => do loadVar t (← asAddr (tmps.getD p undef))

theorem resL_sound (hT : TOk P T) (r : Rel C ρ ok st a w) : ∀ {rs : List ResultVar} {l : List Slot}, resL T st rs = some l →
    ∃ vs, (rs.mapM (resM a.tmps)).run P w = .ok vs w ∧ RenVs ρ ok w l vs
  | [], l, h => by
    cases h
    exact ⟨[], by simp, by rw [RenVs]⟩
  | .tmp t :: rs, l, h => by
    obtain ⟨s, hs, h⟩ := bindS h
    obtain ⟨l', hl, rfl⟩ := mapS h
    obtain ⟨vs, h1, h2⟩ := resL_sound hT r hl
    obtain ⟨v, hv, hs'⟩ := r.slots _ (assoc_mem hs)
    refine ⟨v :: vs, ?_, by rw [RenVs]; exact ⟨v, vs, rfl, hs', h2⟩⟩
    simp only [List.mapM_cons, resM, Sem.run_bind, Sem.run_pure, Result.andThen_ok, h1]
    simp [Array.getD_eq_getD_getElem?, hv]
  | .cell p t :: rs, l, h => by
    obtain ⟨i, hi, h⟩ := bindS h
    obtain ⟨s, hs, h⟩ := bindS h
    split at h
    · rename_i k off
      obtain ⟨q, hq, h⟩ := bindS h
      obtain ⟨s', hs', h⟩ := bindS h
      obtain ⟨l', hl, rfl⟩ := mapS h
      obtain ⟨vs, h1, h2⟩ := resL_sound hT r hl
      obtain ⟨v, hv, hr⟩ := r.slots _ (assoc_mem hs)
      have hq1 : q.1 = [] := by
        simp only [cellsAt] at hq
        obtain ⟨B, _, hq⟩ := bindS hq
        obtain ⟨ss, _, e⟩ := mapS hq
        rw [← e]
      obtain ⟨ad, cs, e, hc, hcc⟩ := cells_at r (ps := q.1) (ss := q.2) hq (by rw [hq1]; trivial) hr
      obtain ⟨u, hu, hus⟩ := vload_sound hs' hc
      refine ⟨u :: vs, ?_, by rw [RenVs]; exact ⟨u, vs, rfl, hus, h2⟩⟩
      have hp : a.tmps.getD p undef = .pointer (some ad) := by simp [Array.getD_eq_getD_getElem?, hv, e]
      simp only [List.mapM_cons, resM, Sem.run_bind, Sem.run_pure, Result.andThen_ok, hp, asAddr, run_loadVar hT hi hcc hu, h1]
    · cases h

theorem resOf_sound (hT : TOk P T) (r : Rel C ρ ok st a w) {fn : Func} {s : Slot} (h : resOf T st fn.results.toList = some s) : ∃ v, (results fn a.tmps).run P w = .ok v w ∧ RenS ρ ok w s v := by
  obtain ⟨l, hl, h⟩ := bindS h
  obtain ⟨vs, h1, h2⟩ := resL_sound hT r hl
  have hrun : (results fn a.tmps).run P w = .ok (if h : vs.length = 1 then vs[0] else .tuple vs.toArray) w := by
    have e : results fn a.tmps = (do
        let vs ← fn.results.mapM (resM a.tmps)
        pure (if h : vs.size = 1 then vs[0] else .tuple vs)) := by
      unfold results
      congr 1
    rw [e, Array.mapM_eq_mapM_toList]
    simp only [map_eq_pure_bind, Sem.run_bind]
    rw [h1]
    simp only [Result.andThen_ok, Sem.run_pure, List.size_toArray, List.getElem_toArray]
  split at h
  · rename_i s'
    cases h
    rw [RenVs] at h2
    obtain ⟨v, vs', rfl, g1, g2⟩ := h2
    rw [RenVs] at g2
    subst g2
    exact ⟨v, by rw [hrun]; rfl, g1⟩
  · rename_i l' hne
    cases h
    have hlen : ¬ vs.length = 1 := by
      intro h1
      obtain ⟨v, rfl⟩ := List.length_eq_one_iff.1 h1
      cases l with
      | nil => rw [RenVs] at h2; cases h2
      | cons s l =>
        rw [RenVs] at h2
        obtain ⟨v', vs', e, _, g2⟩ := h2
        cases e
        cases l with
        | nil => exact hne s rfl
        | cons s2 l =>
          rw [RenVs] at g2
          obtain ⟨_, _, e, _⟩ := g2
          cases e
    rw [dif_neg hlen] at hrun
    exact ⟨_, hrun, by rw [RenS]; exact ⟨vs, h2, rfl⟩⟩

/-- A call that may write nothing of what was there. -/
structure OkC (C : Ctx) (n : Nat) : Prop where
  n : C.n = n
  no : ∀ b, ¬ C.mine0 b

/-- What stands where a function returns. -/
def retQ (T : Nat → Option TI) (fn : Func) (res : Slot) (rows : List (Nat × Row)) : Exit → VState → Prop := fun e st =>
  (e = .ret ∨ e = .normal) ∧ resOf T st fn.results.toList = some res ∧ st.rows = rows

theorem numb_mem : ∀ {ss : List Slot} {vs : List Value} {i : Nat}, RenVs ρ ok w ss vs → ∀ p ∈ numb i ss, ∃ v, i ≤ p.1 ∧ vs[p.1 - i]? = some v ∧ RenS ρ ok w p.2 v
  | [], vs, i, h, p, hp => by cases hp
  | s :: ss, vs, i, h, p, hp => by
    rw [RenVs] at h
    obtain ⟨v, vs', rfl, h1, h2⟩ := h
    rcases List.mem_cons.1 hp with rfl | hp
    · exact ⟨v, Nat.le_refl _, by simp, h1⟩
    · obtain ⟨u, h3, h4, h5⟩ := numb_mem h2 p hp
      refine ⟨u, by omega, ?_, h5⟩
      rw [show p.1 - i = (p.1 - (i + 1)) + 1 by omega, List.getElem?_cons_succ]
      exact h4

theorem renVs_length : ∀ {ss : List Slot} {vs : List Value}, RenVs ρ ok w ss vs → vs.length = ss.length
  | [], vs, h => by rw [RenVs] at h; rw [h]; rfl
  | s :: ss, vs, h => by
    rw [RenVs] at h
    obtain ⟨v, vs', rfl, _, h2⟩ := h
    simp [renVs_length h2]

theorem callOK_of' (hT : TOk P T) {f : Nat} {fn : Func} {c : Code} {args : List Slot} {res : Slot} {rows : List (Nat × Row)} (hfn : P.funcs[f]? = some fn) (hb : fn.body = some c) (hname : (fn.name == "runtime.NumGoroutine") = false)
    (hn : args.length ≤ fn.ntmps) (h : ∀ C : Ctx, OkC C fn.ntmps → VWp P C c ⟨numb 0 args, [], []⟩ (retQ T fn res rows)) : CallOK P f args res rows := by
  refine ⟨⟨fn, hfn, hname, by rw [hb]; rfl⟩, fun ρ ok w vs hone hok hvs => ?_⟩
  refine calls_of_wp hfn hb ?_
  have hlen := renVs_length hvs
  let C : Ctx := ⟨w, ok, fun _ => False, fn.ntmps⟩
  have r : Rel C ρ ok ⟨numb 0 args, [], []⟩ { tmps := vs.toArray ++ Array.replicate (fn.ntmps - vs.toArray.size) undef, defers := [] } w := by
    refine ⟨rfl, rfl, rfl, Nat.le_refl _, fun _ _ _ => rfl, fun b hb => ⟨hok b hb, .inl hb⟩, fun _ h => h, rfl, ?_, hone, ?_, (fun p hp => by cases hp), (fun p hp => by cases hp), (fun x hx => by simp [VState.keys] at hx), (fun x hx => by simp [VState.keys] at hx)⟩
    · simp only [Array.size_append, List.size_toArray, Array.size_replicate]
      show vs.length + (fn.ntmps - vs.length) = fn.ntmps
      omega
    · intro p hp
      obtain ⟨v, _, h2, h3⟩ := numb_mem hvs p hp
      refine ⟨v, ?_, h3⟩
      have hlt : p.1 < vs.length := by
        rcases Nat.lt_or_ge (p.1 - 0) vs.length with h | h
        · simpa using h
        · rw [List.getElem?_eq_none h] at h2; cases h2
      rw [Array.getElem?_append, if_pos (by simpa using hlt)]
      simpa using h2
  refine wp_mono (h C ⟨rfl, fun _ h => h⟩ ρ ok _ w r) ?_
  rintro e a' w' ⟨ρ', ok', st', r', he, hres, hrows⟩
  obtain ⟨v, hv, hs⟩ := resOf_sound hT r' hres
  have hback : ∃ v' ρ'' ok'', Ending.returned v = .returned v' ∧ Back ok w res rows v' ρ'' ok'' w' := by
    refine ⟨v, ρ', ok', rfl, ⟨⟨r'.os, r'.tape, r'.output, r'.size, fun b hb => r'.keep b hb (fun h => h)⟩, r'.ok0, fun b hb => ?_, r'.one, hs, ?_, ?_, ?_⟩⟩
    · obtain ⟨h1, h2⟩ := r'.okb b hb
      rcases h2 with h2 | h2
      · exact .inl h2
      · exact .inr ⟨h2, h1⟩
    · rw [← hrows]; exact r'.rows
    · rw [← hrows]
      intro p hp b hb
      obtain ⟨h1, h2⟩ := r'.mine _ (mem_keys_r hp) b hb
      exact ⟨h1.resolve_right (fun h => h), h2⟩
    · rw [← hrows]
      intro p hp q hq b hb hb'
      have := r'.apart _ (mem_keys_r hp) _ (mem_keys_r hq) b hb hb'
      injection this
  rcases he with rfl | rfl
  · exact ⟨r'.defers, v, hv, hback⟩
  · exact ⟨r'.defers, v, hv, hback⟩
end
end Go.V
