/- The value logic, part 11: new variables, literals, new rows. -/
import Derived.Test.YtcldmkjlbdpbaaaV10
set_option linter.unusedVariables false
set_option linter.unusedSimpArgs false
namespace Go.V
open Go.RowKit (Below)

section
variable {C : Ctx} {ρ : Own} {ok : Nat → Prop} {st : VState} {a : Act} {w : World} {T : Nat → Option TI} {P : Program}

theorem run_newVar (e : Nat) (v : Value) : (newVar e v).run P w = .ok ⟨w.heap.size, 0, none⟩ (w.alloc (.cells v.cells e)) := by
  rfl
theorem run_newRow (e : Nat) (cs : Array Value) : (newRow e cs).run P w = .ok ⟨w.heap.size, 0, none⟩ (w.alloc (.cells cs e)) := by
  rfl

theorem e_alloc (hT : TOk P T) (r : Rel C ρ ok st a w) {o : Oper} {t id : Nat} (ho : o.op = .alloc t) {E : Eff} (h : veff T st o id = some E) (hp : AllP E.ps) : Leaves P C ρ st E o a w := by
  unfold veff at h
  rw [ho] at h
  obtain ⟨i, hi, h⟩ := bindS h
  obtain ⟨z, hz, h⟩ := bindS h
  split at h
  · rename_i hk hu
    cases h
    have f := hT _ _ hi
    obtain ⟨h1, h2⟩ := r.newBox (k := id) (e := t) (f.zc z hz ρ ok w) hk hu
    simp only [Array.toArray_toList] at h1 h2
    refine ⟨_, _, _, _, ?_, .inr ⟨_, _, rfl, rfl, h2⟩, h1, setB_agree hk, keep_new r (alloc_below _ _)⟩
    simp only [execOp, ho, Instr.alloc, Sem.run_bind, run_zero f w hz, Result.andThen_ok, run_newVar, Sem.run_pure]
  · cases h

theorem e_box (hT : TOk P T) (r : Rel C ρ ok st a w) {o : Oper} {t id : Nat} {x : Operand} (ho : o.op = .box t x) {E : Eff} (h : veff T st o id = some E) (hp : AllP E.ps) : Leaves P C ρ st E o a w := by
  unfold veff at h
  rw [ho] at h
  obtain ⟨s, hs, h⟩ := bindS h
  obtain ⟨ss, hss, h⟩ := bindS h
  split at h
  · rename_i hk hu
    cases h
    obtain ⟨h1, h2⟩ := r.newBox (k := id) (e := t) (ren_toCells hss (ev_sound r hs) r.one) hk hu
    simp only [Array.toArray_toList] at h1 h2
    refine ⟨_, _, _, _, ?_, .inr ⟨_, _, rfl, rfl, h2⟩, h1, setB_agree hk, keep_new r (alloc_below _ _)⟩
    simp only [execOp, ho, Instr.box, Sem.run_bind, Result.andThen_ok, run_newVar, Sem.run_pure]
  · cases h

theorem run_mapM_places (hT : TOk P T) : ∀ (fs : List Field), (∀ f ∈ fs, (T f.type).isSome = true) →
    (fs.mapM fun f => (do pure (f.offset, ← Go.sizeOf f.type) : Sem (Nat × Nat))).run P w = .ok (fs.map fun f => (f.offset, ((T f.type).map (·.size)).getD 0)) w
  | [], _ => by simp
  | f :: fs, h => by
    obtain ⟨i, hi⟩ := Option.isSome_iff_exists.1 (h f (by simp))
    simp only [List.mapM_cons, Sem.run_bind, run_size (hT _ _ hi) w, Result.andThen_ok, Sem.run_pure, run_mapM_places hT fs (fun g hg => h g (by simp [hg])), List.map_cons, hi, Option.map_some, Option.getD_some]

theorem repC_sound {zc : List Slot} {z : Array Value} (hz : RenCs ρ ok w zc z.toList) : ∀ n, RenCs ρ ok w (repC n zc) (List.replicate n z.toList).flatten
  | 0 => by rw [repC, RenCs]; rfl
  | n + 1 => by
    rw [repC, List.replicate_succ, List.flatten_cons]
    exact RenCs.append hz (repC_sound hz n)

theorem getElem?_flatten_rep {α : Type} (l : List α) : ∀ (n j : Nat), j < n * l.length → (List.replicate n l).flatten[j]? = l[j % l.length]?
  | 0, j, h => by simp at h
  | n + 1, j, h => by
    rw [List.replicate_succ, List.flatten_cons, List.getElem?_append]
    split
    · rename_i hlt
      rw [Nat.mod_eq_of_lt hlt]
    · rename_i hge
      have h' := h
      rw [Nat.succ_mul] at h'
      rw [getElem?_flatten_rep l n (j - l.length) (by omega), show j % l.length = (j - l.length) % l.length from Nat.mod_eq_sub_mod (by omega)]

theorem made_flat (z : Array Value) (n : Nat) : ((Array.range (n * z.size)).map (z[· % z.size]!)).toList = (List.replicate n z.toList).flatten := by
  apply List.ext_getElem?
  intro j
  by_cases hj : j < n * z.size
  · rw [getElem?_flatten_rep _ _ _ (by simpa using hj)]
    have hz : 0 < z.size := by rcases Nat.eq_zero_or_pos z.size with h | h; · rw [h] at hj; simp at hj
                               · exact h
    have hm := Nat.mod_lt j hz
    simp only [Array.toList_map, Array.toList_range, List.getElem?_map, Array.length_toList]
    rw [List.getElem?_eq_getElem (by simpa using hj)]
    simp only [List.getElem_range, Option.map_some, Array.getElem?_toList]
    rw [getElem!_pos z _ hm, Array.getElem?_eq_getElem hm]
  · rw [List.getElem?_eq_none (by simp; omega), List.getElem?_eq_none (by simp [List.length_flatten]; omega)]

theorem e_buildSlice (hT : TOk P T) (r : Rel C ρ ok st a w) {o : Oper} {t n id : Nat} {parts : Array (Nat × Operand)} (ho : o.op = .buildSlice t n parts) {E : Eff} (h : veff T st o id = some E) (hp : AllP E.ps) :
    Leaves P C ρ st E o a w := by
  unfold veff at h
  rw [ho] at h
  obtain ⟨i, hi, h⟩ := bindS h
  obtain ⟨e, he, h⟩ := bindS h
  obtain ⟨ei, hei, h⟩ := bindS h
  obtain ⟨z, hz, h⟩ := bindS h
  have hd : i.desc = .slice e := by
    unfold elemOf at he
    split at he
    · cases he; assumption
    · cases he
  have hu := run_desc (w := w) hT hi
  rw [hd] at hu
  have f := hT _ _ hei
  split at h
  · rename_i hle hsz hne
    have hle := Nat.le_of_ble_eq_true hle
    have hsz := Nat.eq_of_beq_eq_true hsz
    have hne : ei.size ≠ 0 := by intro h0; rw [h0] at hne; cases hne
    obtain ⟨ss, hss, h⟩ := bindS h
    obtain ⟨l, hl, h⟩ := bindS h
    split at h
    · rename_i hk
      cases h
      have hzc := f.zc z hz ρ ok w
      have hzl := lenC_sound hzc
      obtain ⟨cs', hf, hcs⟩ := vfill_sound (cs := ((Array.range (n * z.cells.size)).map (z.cells[· % z.cells.size]!))) r hss (by rw [made_flat]; exact repC_sound hzc n)
      obtain ⟨hll, hR⟩ := asmL_sound hl hcs
      have hlen := RnL.length (sz := ei.ty.size) (fun x cs hx => Rn.length hx) hR
      have hcsz : cs'.size = n * ei.size := by simp only [Array.length_toList] at hlen; rw [hlen, hll, hsz]
      -- the zero value has the type's size
      have hzs : n = 0 ∨ z.cells.size = ei.size := by
        have h1 : cs'.size = ((Array.range (n * z.cells.size)).map (z.cells[· % z.cells.size]!)).size := by
          have key : ∀ (ps : List (Nat × Value)) (c c' : Array Value), Instr.fill (fun i => some (i * ei.size, ei.size)) c ps = some c' → c'.size = c.size := by
            intro ps
            induction ps with
            | nil => intro c c' h; simp only [Instr.fill, Option.some.injEq] at h; rw [h]
            | cons p ps ih =>
              intro c c' h
              obtain ⟨j, v⟩ := p
              simp only [Instr.fill] at h
              split at h
              · cases h
              · rw [ih _ _ h]
                have : ∀ (l : List (Value × Nat)) (c : Array Value), (l.foldl (fun cs (x : Value × Nat) => cs.setIfInBounds (j * ei.size + x.2) x.1) c).size = c.size := by
                  intro l
                  induction l with
                  | nil => intro c; rfl
                  | cons x l ih2 => intro c; rw [List.foldl_cons, ih2, Array.size_setIfInBounds]
                rw [← Array.foldl_toList]
                exact this _ _
          exact key _ _ _ hf
        simp only [Array.size_map, Array.size_range] at h1
        rcases Nat.eq_zero_or_pos n with h0 | h0
        · exact .inl h0
        · right
          rw [hcsz] at h1
          exact (Nat.eq_of_mul_eq_mul_left h0 h1).symm
      have hrun : (Instr.buildSlice t n (parts.map fun p => (p.1, a.eval p.2))).run P w = .ok (.slice (some ⟨w.heap.size, 0, none⟩) n n) (w.alloc (.cells cs' e)) := by
        have hlim : ¬ n * ei.size > 2 ^ 24 := by simp; omega
        by_cases h0 : n = 0
        · subst h0
          have hA : ∀ z' : Array Value, (Array.range (0 * ei.size)).map (z'[· % z'.size]!) = #[] := by intro z'; rw [Nat.zero_mul]; simp
          have hB : (Array.range (0 * z.cells.size)).map (z.cells[· % z.cells.size]!) = #[] := by rw [Nat.zero_mul]; simp
          rw [hB] at hf
          simp only [Instr.buildSlice, Sem.run_bind, hu, run_size f w, Result.andThen_ok, if_neg hlim, if_pos (Nat.zero_mul ei.size), Sem.run_pure, hA, Array.toList_map, hf, run_newRow]
        · have hzs := hzs.resolve_left h0
          have h1 : ¬ n * ei.size = 0 := Nat.mul_ne_zero h0 hne
          simp only [Instr.buildSlice, Sem.run_bind, hu, run_size f w, Result.andThen_ok, if_neg hlim, if_neg h1, run_zero f w hz, Sem.run_pure, Array.toList_map]
          rw [hzs] at hf ⊢
          simp only [hf, Sem.run_bind, run_newRow, Result.andThen_ok, Sem.run_pure]
      have hown := World.ownsRow_lit (base := 0) (e := e) (size := ei.ty.size) w cs' n (Nat.zero_le _) (by
        have h3 : n ≤ n * ei.size := Nat.le_mul_of_pos_right _ (by omega)
        simp only [maxLen]; omega) (by rw [hcsz, hsz])
      obtain ⟨h1, h2⟩ := r.newRow (h := id) (e := e) (t := ei.ty) (l := l) (v := .slice (some ⟨w.heap.size, 0, none⟩) n n) (alloc_below w _) (by rw [hll]; exact hown) hR hk (fun b hb => by
        simp only [Value.ownBlock, Option.some.injEq] at hb
        omega)
      refine ⟨_, _, _, _, ?_, .inr ⟨_, _, rfl, rfl, h2⟩, h1, setR_agree hk, keep_new r (alloc_below _ _)⟩
      simp only [execOp, ho, Sem.run_bind]
      rw [hrun]
      rfl
    · cases h
  · cases h

theorem e_build (hT : TOk P T) (r : Rel C ρ ok st a w) {o : Oper} {t id : Nat} {parts : Array (Nat × Operand)} (ho : o.op = .build t parts) {E : Eff} (h : veff T st o id = some E) (hp : AllP E.ps) :
    Leaves P C ρ st E o a w := by
  unfold veff at h
  rw [ho] at h
  obtain ⟨i, hi, h⟩ := bindS h
  obtain ⟨z, hz, h⟩ := bindS h
  split at h
  · rename_i len e hd
    obtain ⟨ei, hei, h⟩ := bindS h
    obtain ⟨ss, hss, e'⟩ := mapS h
    cases e'
    have hu := run_desc (w := w) hT hi
    rw [hd] at hu
    have f := hT _ _ hi
    obtain ⟨cs', hf, hcs⟩ := vfill_sound (cs := z.cells) r hss (f.zc z hz ρ ok w)
    refine ⟨_, ρ, ok, w, ?_, .inr ⟨.agg cs', _, rfl, rfl, by rw [RenS]; exact ⟨_, hcs, by simp⟩⟩, r.same, ⟨fun _ _ => rfl, fun _ _ => rfl⟩, fun _ _ _ _ => rfl⟩
    simp only [execOp, ho, Instr.build, Sem.run_bind, run_zero f w hz, Result.andThen_ok, hu, run_size (hT _ _ hei) w]
    rw [Array.toList_map, hf]
    rfl
  obtain ⟨fs, hfs, h⟩ := bindS h
  split at h
  case h_2 => cases h
  rename_i hall0
  have hall : ∀ f ∈ fs.toList, (T f.type).isSome = true := fun f hf => by
    rw [List.all_eq_true] at hall0
    exact hall0 f hf
  obtain ⟨ss, hss, e⟩ := mapS h
  cases e
  have hd : i.desc = .struct fs := by
    unfold fieldsOf at hfs
    split at hfs
    · cases hfs; assumption
    · cases hfs
  have hu := run_desc (w := w) hT hi
  rw [hd] at hu
  have f := hT _ _ hi
  have hzc := f.zc z hz ρ ok w
  obtain ⟨cs', hf, hcs⟩ := vfill_sound (cs := z.cells) r hss hzc
  have hm := run_mapM_places (w := w) hT fs.toList hall
  refine ⟨_, ρ, ok, w, ?_, .inr ⟨.agg cs', _, rfl, rfl, by rw [RenS]; exact ⟨_, hcs, by simp⟩⟩, r.same, ⟨fun _ _ => rfl, fun _ _ => rfl⟩, fun _ _ _ _ => rfl⟩
  have hplace : (fun j : Nat => (((fs.toList.map fun f : Field => (f.offset, ((T f.type).map (·.size)).getD 0)).toArray)[j]?)) = (fun j => (fs[j]?).bind fun f => (T f.type).map fun fi => (f.offset, fi.size)) := by
    funext j
    simp only [List.getElem?_toArray, List.getElem?_map, Array.getElem?_toList]
    cases hj : fs[j]? with
    | none => rfl
    | some g =>
      have hg : g ∈ fs.toList := by
        rw [← Array.getElem?_toList] at hj
        exact List.mem_of_getElem? hj
      obtain ⟨gi, hgi⟩ := Option.isSome_iff_exists.1 (hall g hg)
      simp [hgi]
  have hmA : (fs.mapM fun f => (do pure (f.offset, ← Go.sizeOf f.type) : Sem (Nat × Nat))).run P w = .ok (fs.toList.map fun f : Field => (f.offset, ((T f.type).map (·.size)).getD 0)).toArray w := by
    rw [Array.mapM_eq_mapM_toList]
    simp only [map_eq_pure_bind, Sem.run_bind]
    rw [hm]
    rfl
  simp only [execOp, ho, Instr.build, Sem.run_bind, run_zero f w hz, Result.andThen_ok, hu, hmA]
  rw [hplace, Array.toList_map, hf]
  rfl

theorem e_makeSlice (hT : TOk P T) (r : Rel C ρ ok st a w) {o : Oper} {t id : Nat} {x y : Operand} (ho : o.op = .makeSlice t x y) {E : Eff} (h : veff T st o id = some E) (hp : AllP E.ps) :
    Leaves P C ρ st E o a w := by
  unfold veff at h
  rw [ho] at h
  obtain ⟨i, hi, h⟩ := bindS h
  obtain ⟨e, he, h⟩ := bindS h
  obtain ⟨ei, hei, h⟩ := bindS h
  obtain ⟨z, hz, h⟩ := bindS h
  obtain ⟨n, hn, h⟩ := bindS h
  obtain ⟨m, hm, h⟩ := bindS h
  obtain ⟨q, hq, h⟩ := bindS h
  have hd : i.desc = .slice e := by
    unfold elemOf at he
    split at he
    · cases he; assumption
    · cases he
  have f := hT _ _ hei
  split at h
  · rename_i hsz hby hrest hk
    cases h
    have hsz := Nat.eq_of_beq_eq_true hsz
    have hby := Nat.le_of_ble_eq_true hby
    obtain ⟨hmn, h0, hlim⟩ := hp.1
    subst hmn
    obtain ⟨k, rfl⟩ := Int.eq_ofNat_of_zero_le h0
    have hlim' : k ≤ 4294967296 := by simp only [LIM] at hlim; omega
    obtain ⟨g, g1, g2, g3, g4⟩ := f.info
    have hund := (hT _ _ hi).und
    rw [hd] at hund
    have hb : g.bytes * k ≤ 281474976710656 := by
      have : g.bytes * k ≤ 32768 * 4294967296 := Nat.mul_le_mul (by omega) hlim'
      omega
    obtain ⟨w', hrun, hown, hgr⟩ := run_make_full (P := P) w 0 t e g z ei.size hund g1 (by rw [g4]; exact hz) g2 .i64 .i64 k hb (by simp only [maxLen]; omega) (Nat.zero_le _)
    have hzc := f.zc z hz ρ ok w
    obtain ⟨c1, c2, hc, hR, hrest'⟩ := asm_sound (x := q.1) (rest := q.2) hq hzc
    rw [hrest, RenCs] at hrest'
    subst hrest'
    rw [List.append_nil] at hc
    have hzl : z.cells.size = ei.size := by
      rw [← Array.length_toList, hc, Rn.length hR, hsz]
    have hRn : ∀ k, RnL (Rn ok w ei.ty) (List.replicate k q.1) (List.replicate k z.cells.toList).flatten := by
      intro k
      induction k with
      | zero => rfl
      | succ k ih =>
        rw [List.replicate_succ, List.replicate_succ, List.flatten_cons]
        exact ⟨_, _, rfl, by rw [hc]; exact hR, ih⟩
    have hcells : (madeCells z.cells (k * ei.size)).toList = (List.replicate k z.cells.toList).flatten := by
      rw [← hzl]
      exact made_flat z.cells k
    rw [hcells, hsz] at hown
    have hbel : Below w.heap.size w w' := ⟨hgr.os, hgr.tape, hgr.output, hgr.size, fun b hb => hgr.block b hb (by simp)⟩
    obtain ⟨h1, h2⟩ := r.newRow (h := id) (e := e) (t := ei.ty) (l := List.replicate k q.1) (v := .slice (some ⟨w.heap.size, 0, none⟩) k k) hbel (by rw [List.length_replicate]; exact hown) (hRn k) hk (fun b hb => by
      simp only [Value.ownBlock, Option.some.injEq] at hb
      omega)
    refine ⟨_, _, _, _, ?_, .inr ⟨_, _, rfl, rfl, h2⟩, h1, setR_agree hk, keep_new r hbel⟩
    simp only [execOp, ho, Sem.run_bind, evI_sound r hn, evI_sound r hm]
    rw [hrun]
    rfl
  · cases h
end
end Go.V
