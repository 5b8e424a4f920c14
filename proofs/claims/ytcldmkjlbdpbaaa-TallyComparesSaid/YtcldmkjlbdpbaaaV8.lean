/- The value logic, part 8: every operation that reads alone, in one theorem. -/
import Derived.Test.YtcldmkjlbdpbaaaV7
set_option linter.unusedVariables false
set_option linter.unusedSimpArgs false
namespace Go.V
open Go.RowKit (Below)

section
variable {C : Ctx} {ρ : Own} {ok : Nat → Prop} {st : VState} {a : Act} {w : World} {T : Nat → Option TI} {P : Program}

theorem run_bounds {l h : Option Int} {n c : Nat} {b : Bool} (hc : n ≤ c) (hp : AllP (vslice l h n)) :
    (Instr.sliceBounds b n c (l.map (Value.int .i64)) (h.map (Value.int .i64)) none).run P w = .ok ((l.getD 0).toNat, (h.getD n).toNat, c) w ∧ (l.getD 0).toNat ≤ (h.getD n).toNat ∧ (h.getD n).toNat ≤ n := by
  cases l with
  | none =>
    cases h with
    | none => exact ⟨by simp [Instr.sliceBounds], by simp, by simp⟩
    | some h =>
      have hb : 0 ≤ h ∧ h ≤ (n : Int) := hp.1
      refine ⟨?_, by simp, by simp; omega⟩
      have h1 : 0 ≤ h ∧ h ≤ (c : Int) := ⟨hb.1, by omega⟩
      simp [Instr.sliceBounds, Instr.sliceBound, asIntOf, h1]
  | some l =>
    cases h with
    | none =>
      have hb : 0 ≤ l ∧ l ≤ (n : Int) := hp.1
      refine ⟨?_, by simp; omega, by simp⟩
      simp [Instr.sliceBounds, Instr.sliceBound, asIntOf, hb]
    | some h =>
      have hb : 0 ≤ l ∧ l ≤ h ∧ h ≤ (n : Int) := hp.1
      refine ⟨?_, by simp; omega, by simp; omega⟩
      have h1 : 0 ≤ h ∧ h ≤ (c : Int) := ⟨by omega, by omega⟩
      have h2 : 0 ≤ l ∧ l ≤ ((h.toNat : Nat) : Int) := ⟨hb.1, by omega⟩
      simp [Instr.sliceBounds, Instr.sliceBound, asIntOf, h1, h2]
      intro h3
      omega

theorem cutL_eq {α : Type} (l h : Option Int) (xs : List α) : cutL l h xs = (xs.take ((h.getD xs.length).toNat)).drop ((l.getD 0).toNat) := by
  cases l <;> cases h <;> simp [cutL]
theorem cutS_eq (l h : Option Int) (s : ByteArray) : cutS l h s = s.extract ((l.getD 0).toNat) ((h.getD s.size).toNat) := by
  cases l <;> cases h <;> simp [cutS]

theorem p_slice (hT : TOk P T) (r : Rel C ρ ok st a w) {o : Oper} {t : Nat} {x : Operand} {lo hi mx : Option Operand} (ho : o.op = .slice t x lo hi mx) {ps : List Prop} {s : Slot}
    (h : vpure T st o = some (ps, s)) (hp : AllP ps) : ∃ v, Gives P a w o v ∧ RenS ρ ok w s v := by
  unfold vpure at h
  rw [ho] at h
  dsimp only at h
  split at h
  · cases h
  · obtain ⟨i, hi', h⟩ := bindS h
    obtain ⟨l, hl, h⟩ := bindS h
    obtain ⟨m, hm, h⟩ := bindS h
    have hu := run_desc (w := w) hT hi'
    have e1 := evO_sound r hl
    have e2 := evO_sound r hm
    split at h
    · rename_i str hd hx
      cases h
      rw [hd] at hu
      have he := inv_str (ev_sound r hx)
      obtain ⟨hb, hb1, hb2⟩ := run_bounds (P := P) (w := w) (b := false) (Nat.le_refl _) hp
      refine ⟨_, gives_of (s := Instr.sliceAt t (a.eval x) (lo.map a.eval) (hi.map a.eval) none) (by simp [execOp, ho]) ?_, ren_str⟩
      rw [e1, e2, he]
      simp only [Instr.sliceAt, Instr.slice, Sem.run_bind, hu, Result.andThen_ok, Option.isSome_none, Bool.false_eq_true, if_false, hb, Sem.run_pure, cutS_eq]
    · rename_i e e' u xs hd hx
      obtain ⟨ei, hei, h⟩ := bindS h
      split at h
      · rename_i hsz
        cases h
        have hsz := Nat.eq_of_beq_eq_true hsz
        rw [hd] at hu
        obtain ⟨A, c, hv, h1, h2, h3⟩ := inv_sl (ev_sound r hx)
        obtain ⟨hb, hb1, hb2⟩ := run_bounds (P := P) (w := w) (b := true) h1 hp
        have hlen : (cutL l m xs).length = (m.getD xs.length).toNat - (l.getD 0).toNat := by
          rw [cutL_eq, List.length_drop, List.length_take, Nat.min_eq_left hb2]
        refine ⟨.slice (if c = (l.getD 0).toNat then A else A.map (·.add ((l.getD 0).toNat * ei.size))) ((m.getD xs.length).toNat - (l.getD 0).toNat) (c - (l.getD 0).toNat),
          gives_of (s := Instr.sliceAt t (a.eval x) (lo.map a.eval) (hi.map a.eval) none) (by simp [execOp, ho]) ?_, ?_⟩
        · rw [e1, e2, hv]
          simp only [Instr.sliceAt, Instr.slice, Sem.run_bind, hu, Result.andThen_ok, hb, Sem.run_pure, run_size (hT _ _ hei) w]
        · rw [← hlen]
          refine ren_sl (by omega) (by omega) ?_
          intro k y hk
          rw [cutL_eq, List.getElem?_drop, List.getElem?_take] at hk
          split at hk
          · rename_i hlt
            obtain ⟨ad, cs, rfl, g1, g2, g3⟩ := h3 _ _ hk
            rw [if_neg (by omega)]
            refine ⟨_, cs, rfl, by rw [add_block]; exact g1, g2, fun j v hv => ?_⟩
            rw [add_add, hsz, ← Nat.add_assoc, ← Nat.add_mul]
            exact g3 j v hv
          · cases hk
      · cases h
    · cases h

theorem vlen_sound (hT : TOk P T) (r : Rel C ρ ok st a w) {t : Nat} {s : Slot} {n : Int} {v : Value} (h : vlen T st t s = some n) (hv : RenS ρ ok w s v) (ty : Nat) :
    (Builtin.len_ #[t] ty #[v]).run P w = .ok (.int .i64 n) w := by
  unfold vlen at h
  split at h
  · obtain ⟨i, hi, h⟩ := bindS h
    have hu := run_desc (w := w) hT hi
    split at h
    · rename_i hd
      cases h
      rw [hd] at hu
      obtain rfl := inv_str hv
      simp [Builtin.len_, hu, goInt]
    · cases h
  · obtain ⟨i, hi, h⟩ := bindS h
    have hu := run_desc (w := w) hT hi
    split at h
    · rename_i hd
      cases h
      rw [hd] at hu
      obtain ⟨A, c, rfl, _⟩ := inv_sl hv
      simp [Builtin.len_, hu, goInt]
    · cases h
  · obtain ⟨i, hi, h⟩ := bindS h
    have hu := run_desc (w := w) hT hi
    split at h
    · rename_i hd
      obtain ⟨R, hR, e⟩ := mapS h
      subst e
      rw [hd] at hu
      obtain ⟨cs, ho, hc⟩ := r.rows _ (assoc_mem hR)
      rw [RenS] at hv
      rcases ho.2 with ⟨h0, h00⟩ | ⟨g, cap, cur, h0, _⟩
      · have h00' : R.l.length = 0 := h00
        rw [h0] at hv
        subst hv
        simp [Builtin.len_, hu, goInt, h00']
      · rw [h0] at hv
        subst hv
        simp [Builtin.len_, hu, goInt]
    · cases h
  · cases h

theorem foldI_sound {f : Int → Int → Int} {g : Value → Value → Sem Value} (hg : ∀ k x y, (g (.int k x) (.int k y)) = pure (.int k (f x y))) {k : IntKind} :
    ∀ {ss : List Slot} {vs : List Value} {x n : Int}, foldI f k x ss = some n → RenVs ρ ok w ss vs → (vs.foldlM g (.int k x)).run P w = .ok (.int k n) w
  | [], vs, x, n, h, hv => by
    simp only [foldI] at h
    cases h
    rw [RenVs] at hv
    subst hv
    rfl
  | s :: ss, vs, x, n, h, hv => by
    rw [RenVs] at hv
    obtain ⟨v, vs', rfl, h1, h2⟩ := hv
    unfold foldI at h
    split at h
    · cases ‹s :: ss = []›
    · rename_i k' y ss' e
      cases e
      split at h
      · rename_i hk
        subst hk
        obtain rfl := inv_int h1
        rw [List.foldlM_cons, hg, pure_bind]
        exact foldI_sound hg h h2
      · cases h
    · cases h

theorem p_call (hT : TOk P T) (r : Rel C ρ ok st a w) {o : Oper} {c : Call} (ho : o.op = .call c) {ps : List Prop} {s : Slot}
    (h : vpure T st o = some (ps, s)) (hp : AllP ps) : ∃ v, Gives P a w o v ∧ RenS ρ ok w s v := by
  unfold vpure at h
  rw [ho] at h
  dsimp only at h
  split at h
  · rename_i hcal
    split at h
    · rename_i x t hargs htys
      obtain ⟨s', hs, h⟩ := bindS h
      obtain ⟨n, hn, e⟩ := mapS h
      cases e
      have hl := vlen_sound hT r hn (ev_sound r hs) o.type
      have ha : c.args = #[x] := by rw [← Array.toArray_toList (xs := c.args), hargs]
      have ht : c.argTypes = #[t] := by rw [← Array.toArray_toList (xs := c.argTypes), htys]
      refine ⟨_, ?_, ren_int⟩
      unfold Gives
      simp only [execOp, ho, resolve, hcal, invoke, builtin, Sem.run_bind, Sem.run_pure, Result.andThen_ok, ha, ht, List.map_toArray, List.map_cons, List.map_nil, hl]
    · cases h
  · rename_i hcal
    obtain ⟨ss, hss, h⟩ := bindS h
    split at h
    · obtain ⟨n, hn, e⟩ := mapS h
      cases e
      have hv := evs_sound r hss
      rw [RenVs] at hv
      obtain ⟨v, vs', e, h1, h2⟩ := hv
      obtain rfl := inv_int h1
      have hf := foldI_sound (P := P) (g := Builtin.max2) (fun k x y => rfl) hn h2
      refine ⟨_, ?_, ren_int⟩
      unfold Gives
      simp only [execOp, ho, resolve, hcal, invoke, builtin, Builtin.max_, Sem.run_bind, Sem.run_pure, Result.andThen_ok, Array.toList_map, e, hf]
    · cases h
  · rename_i hcal
    obtain ⟨ss, hss, h⟩ := bindS h
    split at h
    · obtain ⟨n, hn, e⟩ := mapS h
      cases e
      have hv := evs_sound r hss
      rw [RenVs] at hv
      obtain ⟨v, vs', e, h1, h2⟩ := hv
      obtain rfl := inv_int h1
      have hf := foldI_sound (P := P) (g := Builtin.min2) (fun k x y => rfl) hn h2
      refine ⟨_, ?_, ren_int⟩
      unfold Gives
      simp only [execOp, ho, resolve, hcal, invoke, builtin, Builtin.min_, Sem.run_bind, Sem.run_pure, Result.andThen_ok, Array.toList_map, e, hf]
    · cases h
  · cases h

theorem p_simple (hT : TOk P T) (r : Rel C ρ ok st a w) {o : Oper} {ps : List Prop} {s : Slot} (h : vpure T st o = some (ps, s)) (hp : AllP ps)
    (hs : match o.op with | .move _ | .assign _ | .pick .. | .nilCheck _ | .binOp .. | .unOp .. | .convert .. | .makeFunc .. => True | _ => False) : ∃ v, Gives P a w o v ∧ RenS ρ ok w s v := by
  unfold vpure at h
  split at h
  case h_1 x ho =>
    obtain ⟨s', hs', e⟩ := mapS h
    cases e
    exact ⟨_, by unfold Gives; simp [execOp, ho], ev_sound r hs'⟩
  case h_2 x ho =>
    obtain ⟨s', hs', e⟩ := mapS h
    cases e
    exact ⟨_, by unfold Gives; simp [execOp, ho], ev_sound r hs'⟩
  case h_3 c x y ho =>
    split at h
    · rename_i b hb
      have hc := inv_bool (ev_sound r hb)
      cases b
      · obtain ⟨s', hs', e⟩ := mapS h
        cases e
        exact ⟨_, by unfold Gives; simp [execOp, ho, hc, asBool], ev_sound r hs'⟩
      · obtain ⟨s', hs', e⟩ := mapS h
        cases e
        exact ⟨_, by unfold Gives; simp [execOp, ho, hc, asBool], ev_sound r hs'⟩
    · cases h
  case h_4 x ho =>
    split at h
    · rename_i k off hx
      cases h
      have he := ev_sound r hx
      exact ⟨_, by unfold Gives; rw [RenS] at he; simp [execOp, ho, he], he⟩
    · rename_i hx
      cases h
      have he := ev_sound r hx
      refine ⟨_, ?_, he⟩
      rw [RenS] at he
      obtain ⟨ad, n, c, g, he⟩ := he
      unfold Gives
      simp [execOp, ho, he]
    · rename_i hx
      cases h
      have he := ev_sound r hx
      refine ⟨_, ?_, he⟩
      rw [RenS] at he
      obtain ⟨ad, cs, he, _⟩ := he
      unfold Gives
      simp [execOp, ho, he]
    · rename_i hx
      cases h
      have he := ev_sound r hx
      refine ⟨_, ?_, he⟩
      rw [RenS] at he
      obtain ⟨vs, he, _⟩ := he
      unfold Gives
      simp [execOp, ho, he]
    · cases h
  case h_5 op t x y _ ho =>
    obtain ⟨p, hpp, h⟩ := bindS h
    obtain ⟨q, hq, h⟩ := bindS h
    obtain ⟨z, hz, hR⟩ := vbin_sound (P := P) (x := x) (y := y) hT h hp (ev_sound r hpp) (ev_sound r hq)
    exact ⟨z, gives_of (by simp only [execOp, ho]) hz, hR⟩
  case h_6 op _ x ho =>
    split at h
    · rename_i b hb
      cases h
      have hc := inv_bool (ev_sound r hb)
      exact ⟨_, by unfold Gives; simp [execOp, ho, hc, Op.unary], ren_bool⟩
    · rename_i k n hb
      cases h
      have hc := inv_int (ev_sound r hb)
      exact ⟨_, by unfold Gives; simp [execOp, ho, hc, Op.unary, Op.intArith], ren_int⟩
    · cases h
  case h_7 s' d x ho =>
    obtain ⟨i1, hi1, h⟩ := bindS h
    obtain ⟨i, hi, h⟩ := bindS h
    have hu1 := run_desc (w := w) hT hi1
    have hu := run_desc (w := w) hT hi
    split at h
    · rename_i k k' n hd hx
      cases h
      rw [hd] at hu
      have hc := inv_int (ev_sound r hx)
      refine ⟨_, gives_of (s := convert s' d (a.eval x)) (by simp [execOp, ho]) ?_, ren_int⟩
      rw [hc]
      simp [convert, hu1, hu, Conv.intToInt]
    · rename_i b hd hx
      cases h
      rw [hd] at hu
      have hc := inv_str (ev_sound r hx)
      refine ⟨_, gives_of (s := convert s' d (a.eval x)) (by simp [execOp, ho]) ?_, ren_str⟩
      rw [hc]
      simp [convert, hu1, hu]
    · cases h
  case h_8 f first caps ho =>
    split at h
    · rename_i hf
      obtain ⟨ss, hss, e⟩ := mapS h
      cases e
      have hv := evs_sound r hss
      have hfirst : first = #[] := by rw [← Array.toArray_toList (xs := first), hf]
      refine ⟨_, gives_of (s := Instr.makeFunc (.func f) (first.map a.eval) (caps.map a.eval)) (by simp [execOp, ho]) rfl, ?_⟩
      rw [RenS]
      refine ⟨_, ?_, hv⟩
      subst hfirst
      simp only [Array.map_empty, Value.func.injEq, true_and]
      rw [← Array.toList_map]
    · cases h
  all_goals simp_all

theorem vpure_sound (hT : TOk P T) (r : Rel C ρ ok st a w) {o : Oper} {ps : List Prop} {s : Slot} (h : vpure T st o = some (ps, s)) (hp : AllP ps) :
    ∃ v, Gives P a w o v ∧ RenS ρ ok w s v := by
  cases ho : o.op
  case fieldAddr => exact p_fieldAddr hT r ho h hp
  case field => exact p_field hT r ho h hp
  case indexAddr => exact p_indexAddr hT r ho h hp
  case index => exact p_index hT r ho h hp
  case load =>
    refine p_load hT r ho ?_ hp
    unfold vpure at h
    rw [ho] at h
    exact h
  case slice => exact p_slice hT r ho h hp
  case extract => exact p_extract r ho h hp
  case call => exact p_call hT r ho h hp
  all_goals first
    | exact p_simple hT r h hp (by rw [ho]; trivial)
    | (unfold vpure at h; rw [ho] at h; cases h; done)
end
end Go.V
