/- The value logic, part 10: operations that make memory or write what the call owns do what part 9 says. -/
import Derived.Test.YtcldmkjlbdpbaaaV9
set_option linter.unusedVariables false
set_option linter.unusedSimpArgs false
namespace Go.V
open Go.RowKit (Below)

def Own.setB (ρ : Own) (k b : Nat) : Own := { ρ with box := fun x => if x = k then b else ρ.box x }
def Own.setR (ρ : Own) (h : Nat) (v : Value) : Own := { ρ with row := fun x => if x = h then v else ρ.row x }

section
variable {C : Ctx} {ρ : Own} {ok : Nat → Prop} {st : VState} {a : Act} {w : World} {T : Nat → Option TI} {P : Program}

/-- What an operation leaves. -/
def Leaves (P : Program) (C : Ctx) (ρ : Own) (st : VState) (E : Eff) (o : Oper) (a : Act) (w : World) : Prop :=
  ∃ nx ρ' ok' w', (execOp a.eval o).run P w = .ok nx w' ∧ ((nx = .skip ∧ E.s = none) ∨ ∃ v s', nx = .value v ∧ E.s = some s' ∧ RenS ρ' ok' w' s' v) ∧ Rel C ρ' ok' (st.after E) a w' ∧
    ((∀ h, st.hasR h = true → ρ'.row h = ρ.row h) ∧ (∀ k, st.hasB k = true → ρ'.box k = ρ.box k)) ∧ (∀ x ∈ (st.del E.dr E.db).keys, ∀ b, blk ρ x = some b → w'.heap[b]? = w.heap[b]?)

theorem Rel.same (r : Rel C ρ ok st a w) : Rel C ρ ok ((st.del [] []).add [] []) a w :=
  r.less (fun p hp => hp) (fun p hp => (List.mem_filter.1 hp).1) (fun p hp => (List.mem_filter.1 hp).1)

theorem leaves_pure (hT : TOk P T) (r : Rel C ρ ok st a w) {o : Oper} {q : List Prop × Slot} (h : vpure T st o = some q) (hp : AllP q.1) : Leaves P C ρ st { ps := q.1, s := some q.2 } o a w := by
  obtain ⟨v, hv, hs⟩ := vpure_sound hT r (ps := q.1) (s := q.2) h hp
  exact ⟨_, ρ, ok, w, hv, .inr ⟨v, q.2, rfl, rfl, hs⟩, r.same, ⟨fun _ _ => rfl, fun _ _ => rfl⟩, fun _ _ _ _ => rfl⟩

theorem alloc_below (w : World) (o : Obj) : Below w.heap.size w (w.alloc o) := (Below.refl _ _).alloc (Nat.le_refl _) o

theorem ren_toCells {s : Slot} {ss : List Slot} {v : Value} (h : s.toCells = some ss) (hv : RenS ρ ok w s v) (hone : ∀ h, (ρ.row h).oneCell' = true) : RenCs ρ ok w ss v.cells.toList := by
  cases s <;> simp only [Slot.toCells, Option.some.injEq, reduceCtorEq] at h <;> subst h <;> simp only [RenS] at hv
  case val t x =>
    obtain ⟨cs, h1, rfl⟩ := hv
    rw [RenCs.single, RenC]
    by_cases ha : t.isAgg = true
    · simpa [mkv, ha, Value.cells] using h1
    · have hs : t.size = 1 := by cases t <;> simp [Ty.isAgg, Ty.size] at ha ⊢
      have hl := Rn.length h1
      rw [hs] at hl
      obtain ⟨u, rfl⟩ := List.length_eq_one_iff.1 hl
      have ho := Rn.one h1 u (by simp)
      have hu : u.cells = #[u] := by cases u <;> first | rfl | simp [Value.oneCell'] at ho
      simp only [mkv, ha, List.headD_cons, hu]
      simpa [mkv, ha, hu] using h1
  case row h' =>
    subst hv
    rw [RenCs.single, RenC]
    have ho := hone h'
    revert ho
    cases ρ.row h' <;> simp [Value.cells, Value.oneCell']
  case box => subst hv; rw [RenCs.single, RenC]; simp [Value.cells]
  case elt =>
    obtain ⟨ad, n, c, g, rfl⟩ := hv
    rw [RenCs.single, RenC]
    exact ⟨ad, n, c, g, by simp [Value.cells]⟩
  case ptr =>
    obtain ⟨ad, cs', rfl, g⟩ := hv
    rw [RenCs.single, RenC]
    exact ⟨ad, cs', by simp [Value.cells], g⟩
  case agg =>
    obtain ⟨cs, g, rfl⟩ := hv
    simpa [Value.cells] using g
  case fn =>
    obtain ⟨vs, rfl, g⟩ := hv
    rw [RenCs.single, RenC]
    exact ⟨vs, by simp [Value.cells], g⟩
  case nilp => subst hv; rw [RenCs.single, RenC]; simp [Value.cells]
  case nilf => subst hv; rw [RenCs.single, RenC]; simp [Value.cells]

theorem Rel.newBox (r : Rel C ρ ok st a w) {k e : Nat} {ss : List Slot} {cs : List Value} (hc : RenCs ρ ok w ss cs) (hk : st.hasB k = false) (hu : usesBs k ss = false) :
    Rel C (ρ.setB k w.heap.size) ok ((st.del [] []).add [] [(k, (e, ss))]) a (w.alloc (.cells cs.toArray e)) ∧ RenS (ρ.setB k w.heap.size) ok (w.alloc (.cells cs.toArray e)) (.box k 0) (.pointer (some ⟨w.heap.size, 0, none⟩)) := by
  have hb := alloc_below w (.cells cs.toArray e)
  have hbk : (ρ.setB k w.heap.size).box k = w.heap.size := by simp [Own.setB]
  have hB : ∀ k', st.hasB k' = true → (ρ.setB k w.heap.size).box k' = ρ.box k' := fun k' hk' => by
    have : k' ≠ k := by rintro rfl; rw [hk] at hk'; cases hk'
    simp [Own.setB, this]
  refine ⟨r.step [] [] [] [(k, (e, ss))] hb.os hb.tape hb.output hb.size (fun b hlt _ _ => hb.block b hlt) (fun x hx b hxb => hb.block b (r.lt (mem_del_keys hx).1 hxb))
    (fun _ h => h) (fun _ h => .inl h) r.one (fun _ _ => rfl) hB (fun p hp => by cases hp) ?_ ?_ ?_, by rw [RenS, hbk]⟩
  · intro p hp
    rw [List.mem_singleton] at hp
    subst hp
    refine ⟨cs, by rw [hbk]; exact heap_alloc_new w _, ?_⟩
    have m : Moves ρ (ρ.setB k w.heap.size) ok ok w (w.alloc (.cells cs.toArray e)) (fun _ => True) (fun k' => k' ≠ k) := ⟨fun _ _ => rfl, fun k' hk' => by simp [Own.setB, hk'], fun _ h => h, fun b _ hlt => hb.block b hlt⟩
    refine RenCs.move m ss (fun _ _ => trivial) (fun k' hk' => ?_) hc
    rintro rfl
    rw [hu] at hk'
    cases hk'
  · intro x hx b hxb
    simp only [VState.keys, List.map_nil, List.nil_append, List.map_cons, List.mem_singleton] at hx
    subst hx
    simp only [blk, hbk, Option.some.injEq] at hxb
    subst hxb
    exact ⟨.inl (Nat.le_refl _), fun h => by have := (r.okb _ h).1; omega⟩
  · intro x hx y hy b _ _
    simp only [VState.keys, List.map_nil, List.nil_append, List.map_cons, List.mem_singleton] at hx hy
    rw [hx, hy]

/-- A new row of the call's own; its blocks are new. -/
theorem Rel.newRow (r : Rel C ρ ok st a w) {h e : Nat} {t : Ty} {l : List t.D} {v : Value} {w' : World} (hb : Below w.heap.size w w') {cs : List Value}
    (ho : w'.ownsRow 0 e t.size v l.length cs) (hc : RnL (Rn ok w t) l cs) (hk : st.hasR h = false) (hnew : ∀ b, v.ownBlock = some b → w.heap.size ≤ b) :
    Rel C (ρ.setR h v) ok ((st.del [] []).add [(h, ⟨e, t, l⟩)] []) a w' ∧ RenS (ρ.setR h v) ok w' (.row h) v := by
  have hbk : (ρ.setR h v).row h = v := by simp [Own.setR]
  have hR : ∀ k', st.hasR k' = true → (ρ.setR h v).row k' = ρ.row k' := fun k' hk' => by
    have : k' ≠ h := by rintro rfl; rw [hk] at hk'; cases hk'
    simp [Own.setR, this]
  have hone : v.oneCell' = true := by
    rcases ho.2 with ⟨rfl, _⟩ | ⟨g, cap, cur, rfl, _⟩ <;> rfl
  refine ⟨r.step [] [] [(h, ⟨e, t, l⟩)] [] hb.os hb.tape hb.output hb.size (fun b hlt _ _ => hb.block b hlt) (fun x hx b hxb => hb.block b (r.lt (mem_del_keys hx).1 hxb))
    (fun _ h => h) (fun _ h => .inl h) (fun k' => ?_) hR (fun _ _ => rfl) ?_ (fun p hp => by cases hp) ?_ ?_, by rw [RenS, hbk]⟩
  · by_cases hh : k' = h
    · subst hh; rw [hbk]; exact hone
    · simp only [Own.setR, if_neg hh]; exact r.one k'
  · intro p hp
    rw [List.mem_singleton] at hp
    subst hp
    exact ⟨cs, by rw [hbk]; exact ho, RnL.imp (fun x c hx => Rn.move (fun _ h => h) (fun b _ hlt => hb.block b hlt) hx) hc⟩
  · intro x hx b hxb
    simp only [VState.keys, List.map_nil, List.append_nil, List.map_cons, List.mem_singleton] at hx
    subst hx
    simp only [blk, hbk] at hxb
    have := hnew b hxb
    exact ⟨.inl this, fun h => by have := (r.okb _ h).1; omega⟩
  · intro x hx y hy b _ _
    simp only [VState.keys, List.map_nil, List.append_nil, List.map_cons, List.mem_singleton] at hx hy
    rw [hx, hy]

theorem lenC_sound : ∀ {ss : List Slot} {cs : List Value}, RenCs ρ ok w ss cs → cs.length = lenC ss
  | [], cs, h => by rw [RenCs] at h; simp [h, lenC]
  | s :: ss, cs, h => by
    rw [RenCs] at h
    obtain ⟨c1, c2, rfl, h1, h2⟩ := h
    rw [List.length_append, RenC.length h1, lenC_sound h2, lenC]

theorem replC_sound {ss new ss' : List Slot} {off n : Nat} {cs ns : List Value} (h : replC ss off n new = some ss') (hc : RenCs ρ ok w ss cs) (hn : RenCs ρ ok w new ns) :
    off + n ≤ cs.length ∧ RenCs ρ ok w ss' (cs.take off ++ (ns ++ cs.drop (off + n))) := by
  obtain ⟨l1, h1, h⟩ := bindS h
  obtain ⟨l2, h2, rfl⟩ := mapS h
  obtain ⟨_, g1⟩ := takeC_sound h1 hc
  obtain ⟨hle, g2⟩ := dropC_sound h2 hc
  exact ⟨hle, RenCs.append g1 (RenCs.append hn g2)⟩

theorem asmL_sound {t : Ty} : ∀ {n : Nat} {ss : List Slot} {l : List t.D} {cs : List Value}, asmL t n ss = some l → RenCs ρ ok w ss cs → l.length = n ∧ RnL (Rn ok w t) l cs
  | 0, ss, l, cs, h, hc => by
    cases ss with
    | nil =>
      simp only [asmL, Option.some.injEq] at h
      subst h
      rw [RenCs] at hc
      exact ⟨rfl, hc⟩
    | cons _ _ => simp [asmL] at h
  | n + 1, ss, l, cs, h, hc => by
    obtain ⟨p, h1, h⟩ := bindS h
    obtain ⟨l', h2, rfl⟩ := mapS h
    obtain ⟨c1, c2, rfl, g1, g2⟩ := asm_sound (x := p.1) (rest := p.2) h1 hc
    obtain ⟨hl, g3⟩ := asmL_sound h2 g2
    exact ⟨by simp [hl], c1, c2, rfl, g1, g3⟩

/-! ### Parts laid over cells -/
theorem keep_new (r : Rel C ρ ok st a w) {w' : World} (hb : Below w.heap.size w w') {dr db : List Nat} : ∀ x ∈ (st.del dr db).keys, ∀ b, blk ρ x = some b → w'.heap[b]? = w.heap[b]? :=
  fun x hx b hxb => hb.block b (r.lt (mem_del_keys hx).1 hxb)
theorem setB_agree {k b : Nat} (hk : st.hasB k = false) : (∀ h, st.hasR h = true → (ρ.setB k b).row h = ρ.row h) ∧ (∀ k', st.hasB k' = true → (ρ.setB k b).box k' = ρ.box k') :=
  ⟨fun _ _ => rfl, fun k' hk' => by
    have : k' ≠ k := by rintro rfl; rw [hk] at hk'; cases hk'
    simp [Own.setB, this]⟩
theorem setR_agree {h : Nat} {v : Value} (hk : st.hasR h = false) : (∀ h', st.hasR h' = true → (ρ.setR h v).row h' = ρ.row h') ∧ (∀ k', st.hasB k' = true → (ρ.setR h v).box k' = ρ.box k') :=
  ⟨fun k' hk' => by
    have : k' ≠ h := by rintro rfl; rw [hk] at hk'; cases hk'
    simp [Own.setR, this], fun _ _ => rfl⟩

theorem fold_set : ∀ (l : List Value) (k off : Nat) (cs : Array Value), off + k + l.length ≤ cs.size →
    (List.foldl (fun (cs : Array Value) (x : Value × Nat) => cs.setIfInBounds (off + x.2) x.1) cs (l.zipIdx k)).toList = cs.toList.take (off + k) ++ (l ++ cs.toList.drop (off + k + l.length))
  | [], k, off, cs, h => by simp
  | u :: l, k, off, cs, h => by
    rw [List.zipIdx_cons, List.foldl_cons, fold_set l (k + 1) off _ (by simp at h ⊢; omega)]
    have hlt : off + k < cs.toList.length := by simp at h ⊢; omega
    simp only [Array.toList_setIfInBounds, List.length_cons]
    apply List.ext_getElem?
    intro j
    simp only [List.getElem?_append, List.length_take, List.length_set, List.getElem?_take, List.getElem?_set, List.getElem?_drop, List.length_cons, List.getElem?_cons]
    simp only [Array.length_toList] at hlt ⊢
    rcases Nat.lt_trichotomy j (off + k) with hj | hj | hj
    · have h1 : j < min (off + (k + 1)) cs.size := by omega
      have h2 : j < min (off + k) cs.size := by omega
      simp [h1, h2, hj, show j < off + (k + 1) by omega, show ¬ off + k = j by omega]
    · subst hj
      simp [show off + k < min (off + (k + 1)) cs.size by omega, show ¬ off + k < min (off + k) cs.size by omega, hlt, show off + k < off + (k + 1) by omega, show off + k - min (off + k) cs.size = 0 by omega]
    · have h1 : ¬ j < min (off + (k + 1)) cs.size := by omega
      have h2 : ¬ j < min (off + k) cs.size := by omega
      have e1 : min (off + (k + 1)) cs.size = off + k + 1 := by omega
      have e2 : min (off + k) cs.size = off + k := by omega
      simp only [h1, h2, if_false, e1, e2]
      have h3 : ¬ j - (off + k) = 0 := by omega
      have h4 : ¬ j < off + k + 1 := by omega
      have h5 : ¬ j < off + k := by omega
      have h6 : ¬ j < off + (k + 1) := by omega
      simp only [h4, h5, h6, if_false]
      by_cases hl : j - (off + k + 1) < l.length
      · simp only [hl, if_true, show j - (off + k) < l.length + 1 by omega, h3, if_false, show j - (off + k) - 1 = j - (off + k + 1) by omega]
      · simp only [hl, if_false, show ¬ j - (off + k) < l.length + 1 by omega, show ¬ off + k = off + (k + 1) + l.length + (j - (off + k + 1) - l.length) by omega]
        congr 1
        omega

theorem vfill_sound (r : Rel C ρ ok st a w) {place : Nat → Option (Nat × Nat)} {ty : Nat → Nat} : ∀ {ps : List (Nat × Operand)} {ss ss' : List Slot} {cs : Array Value},
    vfill T st place ty ps ss = some ss' → RenCs ρ ok w ss cs.toList → ∃ cs' : Array Value, Instr.fill place cs (ps.map fun p => (p.1, a.eval p.2)) = some cs' ∧ RenCs ρ ok w ss' cs'.toList
  | [], ss, ss', cs, h, hc => by cases h; exact ⟨cs, rfl, hc⟩
  | (j, x) :: ps, ss, ss', cs, h, hc => by
    obtain ⟨q, hq, h⟩ := bindS h
    obtain ⟨s, hs, h⟩ := bindS h
    obtain ⟨l, hl, h⟩ := bindS h
    split at h
    · rename_i hn
      have hn := Nat.eq_of_beq_eq_true hn
      obtain ⟨ss2, h2, h⟩ := bindS h
      have hv := ren_toCells hl (ev_sound r hs) r.one
      have hlen := lenC_sound hv
      obtain ⟨hle, g⟩ := replC_sound h2 hc hv
      simp only [Array.length_toList] at hlen hle
      have hsz : (a.eval x).cells.size = q.2 := by omega
      have hf := fold_set (a.eval x).cells.toList 0 q.1 cs (by simp only [Array.length_toList]; omega)
      obtain ⟨cs', h3, h4⟩ := vfill_sound r (cs := ((a.eval x).cells.zipIdx.foldl (fun cs (c, j) => cs.setIfInBounds (q.1 + j) c) cs)) h (by
        have e : ((a.eval x).cells.zipIdx.foldl (fun cs (c, j) => cs.setIfInBounds (q.1 + j) c) cs).toList = cs.toList.take q.1 ++ ((a.eval x).cells.toList ++ cs.toList.drop (q.1 + q.2)) := by
          rw [← Array.foldl_toList, Array.toList_zipIdx]
          rw [hf]
          simp only [Nat.add_zero, Array.length_toList, hsz]
        rw [e]
        exact g)
      refine ⟨cs', ?_, h4⟩
      simp only [List.map_cons, Instr.fill, hq, hsz]
      rw [if_neg (by simp; omega)]
      exact h3
    · cases h
end
end Go.V
