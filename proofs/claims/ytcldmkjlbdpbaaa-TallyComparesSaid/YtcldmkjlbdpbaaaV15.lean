/- The value logic, part 15: calls, and every operation in one theorem. -/
import Derived.Test.YtcldmkjlbdpbaaaV14
set_option linter.unusedVariables false
set_option linter.unusedSimpArgs false
namespace Go.V
open Go.RowKit (Below)

section
variable {C : Ctx} {ρ : Own} {ok : Nat → Prop} {st : VState} {a : Act} {w : World} {T : Nat → Option TI} {P : Program}

/-- During a call all that the call owns may be read. -/
def okAll (ρ : Own) (ok : Nat → Prop) (st : VState) : Nat → Prop := fun b => ok b ∨ ∃ x ∈ st.keys, blk ρ x = some b

theorem moves_all : Moves ρ ρ ok (okAll ρ ok st) w w (fun _ => True) (fun _ => True) := ⟨fun _ _ => rfl, fun _ _ => rfl, fun _ h => .inl h, fun _ _ _ => rfl⟩

theorem rnl_at {t : Ty} : ∀ {l : List t.D} {cs : List Value} (i : Nat) {x : t.D}, RnL (Rn ok w t) l cs → l[i]? = some x → ∃ d, Rn ok w t x d ∧ ∀ j u, d[j]? = some u → cs[i * t.size + j]? = some u
  | [], cs, i, x, h, hx => by simp at hx
  | y :: l, cs, i, x, h, hx => by
    obtain ⟨c1, c2, rfl, h1, h2⟩ := h
    have hl := Rn.length h1
    cases i with
    | zero =>
      simp at hx
      subst hx
      refine ⟨c1, h1, fun j u hu => ?_⟩
      have : j < c1.length := by
        rcases Nat.lt_or_ge j c1.length with h | h
        · exact h
        · rw [List.getElem?_eq_none h] at hu; cases hu
      rw [Nat.zero_mul, Nat.zero_add, List.getElem?_append, if_pos this]
      exact hu
    | succ i =>
      obtain ⟨d, g1, g2⟩ := rnl_at i h2 (by simpa using hx)
      refine ⟨d, g1, fun j u hu => ?_⟩
      have := g2 j u hu
      rw [Nat.add_mul, Nat.one_mul, List.getElem?_append, if_neg (by omega), hl, show i * t.size + t.size + j - t.size = i * t.size + j by omega]
      exact this

theorem row_as_val {h : Nat} {R : Row} (r : RowOk ρ ok w h R) {ok' : Nat → Prop} (hok : ∀ b, ok b → ok' b) (hb : ∀ b, blk ρ (.r h) = some b → ok' b) {v : Value} (hv : v = ρ.row h) :
    RenS ρ ok' w (.val (.sl R.e R.t) R.l) v := by
  obtain ⟨cs, ho, hc⟩ := r
  rcases ho.2 with ⟨h0, h00⟩ | ⟨g, cap, cur, h0, _, hh, hnc, hcm, hcs, htake⟩
  · have hl : R.l = [] := List.eq_nil_of_length_eq_zero h00
    rw [hv, h0, hl]
    have := ren_sl (ρ := ρ) (ok := ok') (w := w) (e := R.e) (t := R.t) (l := []) (A := none) (c := 0) (Nat.le_refl _) (Nat.zero_le _) row0_nil
    exact this
  · rw [hv, h0]
    refine ren_sl hnc hcm (fun i x hx => ?_)
    obtain ⟨d, g1, g2⟩ := rnl_at i hc hx
    refine ⟨⟨g, 0, none⟩, d, rfl, hb g (by simp [blk, h0, Value.ownBlock]), Rn.move hok (fun _ _ _ => rfl) g1, fun j u hu => ?_⟩
    exact ho.cells (g := g) (by rw [h0]; rfl) _ _ (g2 j u hu)

theorem vw_sound (r : Rel C ρ ok st a w) {s s' : Slot} {v : Value} (h : vw st s = some s') (hv : RenS ρ ok w s v) : RenS ρ (okAll ρ ok st) w s' v := by
  unfold vw at h
  split at h
  · obtain ⟨R, hR, e⟩ := mapS h
    subst e
    rw [RenS] at hv
    exact row_as_val (r.rows _ (assoc_mem hR)) (fun _ h => .inl h) (fun b hb => .inr ⟨_, mem_keys_r (assoc_mem hR), hb⟩) hv
  · rename_i k off
    obtain ⟨B, hB, h⟩ := bindS h
    split at h
    · obtain ⟨ss, hss, e⟩ := mapS h
      subst e
      rw [RenS] at hv
      obtain ⟨cs, hh, hc⟩ : BoxOk ρ ok w k B := r.boxes _ (assoc_mem hB)
      obtain ⟨hle, hd⟩ := dropC_sound hss hc
      rw [RenS]
      refine ⟨_, _, hv, .inr (.inr ⟨_, mem_keys_b (assoc_mem hB), rfl⟩), RenCs.move moves_all ss (fun _ _ => trivial) (fun _ _ => trivial) hd, fun j u hu => ?_⟩
      rw [List.getElem?_drop] at hu
      have ha : (⟨ρ.box k, off, none⟩ : Addr).add j = ⟨ρ.box k, off + j, none⟩ := by unfold Addr.add; split <;> simp_all
      rw [ha, cell_of_row w _ _ _ _ _ hh]
      simpa using hu
    · cases h
  · split at h
    · cases h
      exact RenS.move moves_all _ (fun _ _ => trivial) (fun _ _ => trivial) hv
    · cases h

theorem vwL_sound (r : Rel C ρ ok st a w) : ∀ {ss l : List Slot} {vs : List Value}, vwL st ss = some l → RenVs ρ ok w ss vs → RenVs ρ (okAll ρ ok st) w l vs
  | [], l, vs, h, hv => by cases h; rw [RenVs] at hv ⊢; exact hv
  | s :: ss, l, vs, h, hv => by
    obtain ⟨x, hx, h⟩ := bindS h
    obtain ⟨l', hl, rfl⟩ := mapS h
    rw [RenVs] at hv ⊢
    obtain ⟨v, vs', e, h1, h2⟩ := hv
    exact ⟨v, vs', e, vw_sound r hx h1, vwL_sound r hl h2⟩
theorem vwA_sound (r : Rel C ρ ok st a w) {s s' : Slot} {v : Value} (h : vwA st s = some s') (hv : RenS ρ ok w s v) : RenS ρ (okAll ρ ok st) w s' v := by
  unfold vwA at h
  split at h
  · obtain ⟨l, hl, rfl⟩ := mapS h
    rw [RenS] at hv ⊢
    obtain ⟨vs, e, h1⟩ := hv
    exact ⟨vs, e, vwL_sound r hl h1⟩
  · exact vw_sound r h hv
theorem vwAs_sound (r : Rel C ρ ok st a w) : ∀ {ss l : List Slot} {vs : List Value}, vwAs st ss = some l → RenVs ρ ok w ss vs → RenVs ρ (okAll ρ ok st) w l vs
  | [], l, vs, h, hv => by cases h; rw [RenVs] at hv ⊢; exact hv
  | s :: ss, l, vs, h, hv => by
    obtain ⟨x, hx, h⟩ := bindS h
    obtain ⟨l', hl, rfl⟩ := mapS h
    rw [RenVs] at hv ⊢
    obtain ⟨v, vs', e, h1, h2⟩ := hv
    exact ⟨v, vs', e, vwA_sound r hx h1, vwAs_sound r hl h2⟩

theorem RenVs.append : ∀ {ss ss' : List Slot} {vs vs' : List Value}, RenVs ρ ok w ss vs → RenVs ρ ok w ss' vs' → RenVs ρ ok w (ss ++ ss') (vs ++ vs')
  | [], ss', vs, vs', h, h' => by rw [RenVs] at h; subst h; exact h'
  | s :: ss, ss', vs, vs', h, h' => by
    rw [RenVs] at h
    obtain ⟨v, l, rfl, h1, h2⟩ := h
    rw [List.cons_append, RenVs]
    exact ⟨v, l ++ vs', rfl, h1, RenVs.append h2 h'⟩

/-- What the operation does to the state, for whatever goes on. -/
def Does (P : Program) (C : Ctx) (ρ : Own) (st : VState) (E : Eff) (o : Oper) (a : Act) (w : World) : Prop :=
  ∀ (K : Act → World → Prop) (Q : Exit → Act → World → Prop), (∀ v ρ' ok' w', (∀ s', E.s = some s' → RenS ρ' ok' w' s' v) → Rel C ρ' ok' (st.after E) a w' →
    ((∀ h, st.hasR h = true → ρ'.row h = ρ.row h) ∧ (∀ k, st.hasB k = true → ρ'.box k = ρ.box k)) → (∀ x ∈ (st.del E.dr E.db).keys, ∀ b, blk ρ x = some b → w'.heap[b]? = w.heap[b]?) → K (a.put o.dst v) w') → o.wp P a w K Q

theorem does_of_leaves {E : Eff} {o : Oper} (h : Leaves P C ρ st E o a w) : Does P C ρ st E o a w := by
  obtain ⟨nx, ρ', ok', w', hr, hs, hR, h1, h2⟩ := h
  obtain ⟨ps, es, dr, db, nr, nb⟩ := E
  dsimp only at hs h2
  intro K Q hK
  unfold Oper.wp
  rw [hr]
  rcases hs with ⟨rfl, rfl⟩ | ⟨v, s', rfl, rfl, hv⟩
  · rw [Oper.upon_skip]
    exact hK undef ρ' ok' w' (fun s' e => by cases e) hR h1 h2
  · rw [Oper.upon_value]
    exact hK v ρ' ok' w' (fun s'' e => by cases e; exact hv) hR h1 h2

theorem run_callFunc {g : Nat} (hf : HasFn P g) (vs : Array Value) : (callFunc g vs).run P w = .ok (.enter g vs) w := by
  obtain ⟨fn, h1, h2, h3⟩ := hf
  have h2' : ¬ fn.name = "runtime.NumGoroutine" := by simpa using h2
  have h3' : ¬ fn.body = none := by intro e; rw [e] at h3; cases h3
  simp [callFunc, program, Sem.run, h1, h2', h3']

theorem exec_call {o : Oper} {c : Call} {fo : Operand} {g : Nat} {caps : List Value} (ho : o.op = .call c) (hcal : c.callee = .value fo) (hf : HasFn P g) (hv : a.eval fo = .func (.func g) #[] caps.toArray) :
    (execOp a.eval o).run P w = .ok (.enter g ((c.args.toList.map a.eval) ++ caps).toArray) w := by
  simp only [execOp, ho, resolve, hcal, Deferred.ofValue, hv, invoke, Sem.run_bind, Sem.run_pure, Result.andThen_ok]
  rw [run_callFunc hf]
  congr 2
  simp [← Array.toList_map]

theorem usesOnly_sound {an : Ann} (h : vop0.usesOnly an = true) : (∀ k, usesB k an.res = false) ∧ (∀ h, usesR h an.res = true → ∃ p ∈ an.rows, p.1 = h) := by
  unfold vop0.usesOnly at h
  split at h
  · rename_i h' e
    rw [List.any_eq_true] at h
    obtain ⟨p, hp, e2⟩ := h
    rw [e]
    refine ⟨fun _ => rfl, fun h1 hu => ⟨p, hp, ?_⟩⟩
    simp only [usesR] at hu
    rw [Nat.eq_of_beq_eq_true e2, Nat.eq_of_beq_eq_true hu]
  · rename_i ss e
    rw [e]
    have key : ∀ (ss : List Slot), (ss.all fun s => match s with | .row h => an.rows.any fun p => Nat.beq p.1 h | s => closedS s) = true → (∀ k, usesBs k ss = false) ∧ (∀ h, usesRs h ss = true → ∃ p ∈ an.rows, p.1 = h) := by
      intro ss
      induction ss with
      | nil => intro _; exact ⟨fun _ => rfl, fun h hu => by simp [usesRs] at hu⟩
      | cons s ss ih =>
        intro hh
        rw [List.all_cons, Bool.and_eq_true] at hh
        obtain ⟨g1, g2⟩ := ih hh.2
        have h1 := hh.1
        split at h1
        · rename_i h'
          rw [List.any_eq_true] at h1
          obtain ⟨p, hp, e2⟩ := h1
          refine ⟨fun k => by simp [usesBs, usesB, g1 k], fun h hu => ?_⟩
          simp only [usesRs, usesR, Bool.or_eq_true] at hu
          rcases hu with hu | hu
          · exact ⟨p, hp, by rw [Nat.eq_of_beq_eq_true e2, Nat.eq_of_beq_eq_true hu]⟩
          · exact g2 h hu
        · have hc := closed_uses _ h1
          refine ⟨fun k => by simp [usesBs, hc.2 k, g1 k], fun h hu => ?_⟩
          simp only [usesRs, hc.1 h, Bool.false_or] at hu
          exact g2 h hu
    have hk := key ss h
    exact ⟨fun k => by simpa [usesB] using hk.1 k, fun h hu => hk.2 h (by simpa [usesR] using hu)⟩
  · rename_i s _ _
    have hc := closed_uses _ h
    exact ⟨hc.2, fun h hu => by rw [hc.1 h] at hu; cases hu⟩

/-- The names of two ones' own, joined: these of the second. -/
def Own.join (ρ ρ' : Own) (rows : List (Nat × Row)) : Own := { ρ with row := fun h => match rows.any (fun p => Nat.beq p.1 h) with
  | true => ρ'.row h
  | false => ρ.row h }
theorem join_mem {ρ' : Own} {rows : List (Nat × Row)} {p : Nat × Row} (hp : p ∈ rows) : (ρ.join ρ' rows).row p.1 = ρ'.row p.1 := by
  have : (rows.any fun q => Nat.beq q.1 p.1) = true := List.any_eq_true.2 ⟨p, hp, Nat.beq_refl _⟩
  simp [Own.join, this]
theorem join_not {ρ' : Own} {rows : List (Nat × Row)} {h : Nat} (hh : ∀ p ∈ rows, p.1 ≠ h) : (ρ.join ρ' rows).row h = ρ.row h := by
  have : (rows.any fun q => Nat.beq q.1 h) = false := by
    rw [← Bool.not_eq_true, List.any_eq_true]
    rintro ⟨p, hp, e⟩
    exact hh p hp (Nat.eq_of_beq_eq_true e)
  simp [Own.join, this]

/-- What comes back of a call, taken in. -/
theorem Rel.took (r : Rel C ρ ok st a w) {res : Slot} {rows : List (Nat × Row)} {v : Value} {ρ' : Own} {okc ok' ok2 : Nat → Prop} {w' : World} (hB : Back okc w res rows v ρ' ok' w')
    (hfresh : ∀ p ∈ rows, st.hasR p.1 = false) (hok : ∀ b, ok b → ok2 b) (hok' : ∀ b, ok2 b → ok b ∨ (w.heap.size ≤ b ∧ b < w'.heap.size))
    (hrow : ∀ p ∈ rows, RowOk ρ' ok2 w' p.1 p.2) (hnew : ∀ p ∈ rows, ∀ b, blk ρ' (.r p.1) = some b → w.heap.size ≤ b ∧ ¬ ok2 b) :
    Rel C (ρ.join ρ' rows) ok2 ((st.del [] []).add rows []) a w' := by
  have hb := hB.below
  have hR : ∀ h, st.hasR h = true → (ρ.join ρ' rows).row h = ρ.row h := fun h hh => join_not (fun p hp e => by rw [← e, hfresh p hp] at hh; cases hh)
  refine r.step [] [] rows [] hb.os hb.tape hb.output hb.size (fun b hlt _ _ => hb.block b hlt) (fun x hx b hxb => hb.block b (r.lt (mem_del_keys hx).1 hxb))
    hok hok' (fun h => ?_) hR (fun _ _ => rfl) (fun p hp => ?_) (fun p hp => by cases hp) ?_ ?_
  · unfold Own.join
    dsimp only
    split
    · exact hB.one h
    · exact r.one h
  · exact (hrow p hp).move (join_mem hp) (fun _ h => h) (fun _ _ _ => rfl) (fun _ _ => rfl)
  · intro x hx b hxb
    simp only [VState.keys, List.map_nil, List.append_nil, List.mem_map] at hx
    obtain ⟨p, hp, rfl⟩ := hx
    simp only [blk, join_mem hp] at hxb
    obtain ⟨h1, h2⟩ := hnew p hp b hxb
    exact ⟨.inl h1, h2⟩
  · intro x hx y hy b hxb hyb
    simp only [VState.keys, List.map_nil, List.append_nil, List.mem_map] at hx hy
    obtain ⟨p, hp, rfl⟩ := hx
    obtain ⟨q, hq, rfl⟩ := hy
    simp only [blk, join_mem hp, join_mem hq] at hxb hyb
    rw [hB.apart p hp q hq b hxb hyb]

theorem vcall_sound (hT : TOk P T) (r : Rel C ρ ok st a w) {o : Oper} {c : Call} {fo : Operand} {an : Ann} (ho : o.op = .call c) (hcal : c.callee = .value fo) (hus : vop0.usesOnly an = true) {E : Eff}
    (h : vcall P T st fo c.args.toList c.argTypes.toList an = some E) (hp : AllP E.ps) : Does P C ρ st E o a w := by
  unfold vcall at h
  split at h
  case h_2 => cases h
  rename_i g caps hfo
  obtain ⟨ss, hss, h⟩ := bindS h
  have hf := ev_sound r hfo
  rw [RenS] at hf
  obtain ⟨cvs, hfv, hcv⟩ := hf
  have hargs := (evs_sound r hss).append hcv
  obtain ⟨huB, huR⟩ := usesOnly_sound hus
  have fin : ∀ (okc ok2 : Nat → Prop) (v : Value) (ρ' : Own) (ok' : Nat → Prop) (w' : World), an.rows.all (fun p => !st.hasR p.1) = true → Back okc w an.res an.rows v ρ' ok' w' → (∀ b, ok b → ok2 b) → (∀ b, ok2 b → ok b ∨ (w.heap.size ≤ b ∧ b < w'.heap.size)) →
      (∀ p ∈ an.rows, RowOk ρ' ok2 w' p.1 p.2) → (∀ p ∈ an.rows, ∀ b, blk ρ' (.r p.1) = some b → w.heap.size ≤ b ∧ ¬ ok2 b) → RenS ρ' ok2 w' an.res v →
      ∀ (K : Act → World → Prop), (∀ v ρ' ok' w', (∀ s', some an.res = some s' → RenS ρ' ok' w' s' v) → Rel C ρ' ok' ((st.del [] []).add an.rows []) a w' →
        ((∀ h, st.hasR h = true → ρ'.row h = ρ.row h) ∧ (∀ k, st.hasB k = true → ρ'.box k = ρ.box k)) → (∀ x ∈ (st.del [] []).keys, ∀ b, blk ρ x = some b → w'.heap[b]? = w.heap[b]?) → K (a.put o.dst v) w') → K (a.put o.dst v) w' := by
    intro okc ok2 v ρ' ok' w' hfr hB h1 h2 h3 h4 h5 K hK
    rw [List.all_eq_true] at hfr
    have hfresh : ∀ p ∈ an.rows, st.hasR p.1 = false := fun p hp => by simpa using hfr p hp
    refine hK v (ρ.join ρ' an.rows) ok2 w' (fun s' e => ?_) (r.took hB hfresh h1 h2 h3 h4) ⟨fun h hh => join_not (fun p hp e => by rw [← e, hfresh p hp] at hh; cases hh), fun _ _ => rfl⟩ (keep_new r hB.below)
    cases e
    refine RenS.move (R := fun h => ∃ p ∈ an.rows, p.1 = h) (B := fun _ => False) ⟨?_, fun _ h => h.elim, fun _ h => h, fun _ _ _ => rfl⟩ _ huR (fun k hk => by rw [huB k] at hk; cases hk) h5
    rintro h ⟨p, hp, rfl⟩
    exact join_mem hp
  split at h
  · rename_i hflat
    rw [Bool.and_eq_true] at hflat
    obtain ⟨hfl1, hfl2⟩ := hflat
    rw [List.all_eq_true] at hfl2
    obtain ⟨fs, hfs, h⟩ := bindS h
    split at h
    case h_2 => cases h
    rename_i hfr
    cases h
    obtain ⟨hhas, hcall⟩ := hp.1
    have hargs' := vwAs_sound r hfs hargs
    intro K Q hK
    unfold Oper.wp
    rw [exec_call ho hcal hhas hfv, Oper.upon_enter]
    refine (hcall ρ (okAll ρ ok st) w _ r.one (fun b hb => ?_) hargs').mono ?_
    · rcases hb with hb | ⟨x, hx, hb⟩
      · exact (r.okb b hb).1
      · exact r.lt hx hb
    · rintro e w' ⟨v, ρ', ok', rfl, hB⟩
      refine fin _ ok v ρ' ok' w' hfr hB (fun _ h => h) (fun _ h => .inl h) (fun p hp => (hB.rows p hp).flat (hfl2 p hp)) (fun p hp b hb => ?_) ?_ K hK
      · have := (hB.new p hp b hb).1
        exact ⟨this, fun h => by have := (r.okb b h).1; omega⟩
      · exact flat_val an.res hfl1 (fun _ _ => rfl) hB.val
  · split at h
    case h_2 => cases h
    rename_i hfr
    cases h
    obtain ⟨hhas, hcall⟩ := hp.1
    intro K Q hK
    unfold Oper.wp
    rw [exec_call ho hcal hhas hfv, Oper.upon_enter]
    refine (hcall ρ ok w _ r.one (fun b hb => (r.okb b hb).1) hargs).mono ?_
    rintro e w' ⟨v, ρ', ok', rfl, hB⟩
    exact fin _ ok' v ρ' ok' w' hfr hB hB.oks hB.oks' hB.rows hB.new hB.val K hK

theorem vnil_sound (r : Rel C ρ ok st a w) {o : Oper} {x : Operand} {t id : Nat} (ho : o.op = .assign x ∨ o.op = .move x) {E : Eff} (h : vnil T st t x id = some E) : Does P C ρ st E o a w := by
  unfold vnil at h
  split at h
  · rename_i hk
    obtain ⟨i, hi, h⟩ := bindS h
    split at h
    · rename_i e u hty
      cases h
      refine does_of_leaves ?_
      obtain ⟨h1, h2⟩ := r.newRow (h := id) (e := e) (t := u) (l := []) (v := .slice none 0 0) (w' := w) ⟨rfl, rfl, rfl, Nat.le_refl _, fun _ _ => rfl⟩ (cs := []) ⟨by simp, .inl ⟨rfl, rfl⟩⟩ rfl hk (fun b hb => by cases hb)
      refine ⟨_, _, _, _, ?_, .inr ⟨_, _, rfl, rfl, h2⟩, h1, setR_agree hk, fun _ _ _ _ => rfl⟩
      rcases ho with ho | ho
      · simp only [execOp, ho]
        rfl
      · simp only [execOp, ho]
        rfl
    · cases h
  · cases h

theorem vop1_sound (hT : TOk P T) (r : Rel C ρ ok st a w) {o : Oper} {an : Ann} {E : Eff} (h : vop0.vop1 P T st o an = some E) (hp : AllP E.ps) : Does P C ρ st E o a w := by
  unfold vop0.vop1 at h
  split at h
  · rename_i c ho
    split at h
    · rename_i fo hcal
      split at h
      · rename_i hus
        exact vcall_sound hT r ho hcal hus h hp
      · cases h
    · exact does_of_leaves (veff_sound hT r h hp)
  · exact does_of_leaves (veff_sound hT r h hp)

theorem vop0_sound (hT : TOk P T) (r : Rel C ρ ok st a w) {o : Oper} {an : Ann} {E : Eff} (h : vop0 P T st o an = some E) (hp : AllP E.ps) : Does P C ρ st E o a w := by
  unfold vop0 at h
  split at h
  · rename_i x ho _
    exact vnil_sound r (.inl ho) h
  · rename_i x ho _
    exact vnil_sound r (.inr ho) h
  · exact vop1_sound hT r h hp

theorem allP_app {l l' : List Prop} (h : AllP (l ++ l')) : AllP l ∧ AllP l' := by
  induction l with
  | nil => exact ⟨trivial, h⟩
  | cons p l ih => exact ⟨⟨h.1, (ih h.2).1⟩, (ih h.2).2⟩

/-- EVERY OPERATION. -/
theorem vop_sound (hT : TOk P T) (r : Rel C ρ ok st a w) {o : Oper} {an : Ann} {E : Eff} (h : vop P T st o an = some E) (hp : AllP E.ps) : Does P C ρ st E o a w := by
  obtain ⟨E0, h0, h⟩ := bindS h
  unfold Ann.mend at h
  have key : ∀ (s0 s1 : Slot) (p : Prop), E0.s = some s0 → E = { E0 with ps := E0.ps ++ [p], s := some s1 } → (p → s0 = s1) → Does P C ρ st E o a w := by
    intro s0 s1 p e0 e1 hpe
    subst e1
    have hps := allP_app hp
    have hx := hpe hps.2.1
    have hd := vop0_sound hT r h0 hps.1
    intro K Q hK
    refine hd K Q fun v ρ' ok' w' hs hR h1 h2 => hK v ρ' ok' w' (fun s' e => ?_) hR h1 h2
    cases e
    rw [← hx]
    exact hs _ e0
  split at h
  · cases h
    exact vop0_sound hT r h0 hp
  · rename_i b _ hb
    split at h
    · rename_i x hx
      have e := (Option.some.inj h).symm
      exact key _ _ _ hx e (fun e => by rw [e])
    · cases h
  · rename_i n _ hn
    split at h
    · rename_i k x hx
      have e := (Option.some.inj h).symm
      exact key _ _ _ hx e (fun e => by rw [e])
    · cases h
end
end Go.V
