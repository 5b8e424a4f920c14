/- The value logic, part 18: an operation in a greater state, and what a region's operations do one behind the other. -/
import Derived.Test.YtcldmkjlbdpbaaaV17
set_option linter.unusedVariables false
set_option linter.unusedSimpArgs false
namespace Go.V
open Go.RowKit (Below)

/-! ### Names in slots -/
mutual
def namesR : Slot → List Nat
  | .row h => [h]
  | .elt h _ _ _ => [h]
  | .ptr ss | .agg ss | .tup ss | .fn _ ss => namesRs ss
  | _ => []
def namesRs : List Slot → List Nat
  | [] => []
  | s :: ss => namesR s ++ namesRs ss
end
mutual
def namesB : Slot → List Nat
  | .box k _ => [k]
  | .ptr ss | .agg ss | .tup ss | .fn _ ss => namesBs ss
  | _ => []
def namesBs : List Slot → List Nat
  | [] => []
  | s :: ss => namesB s ++ namesBs ss
end
mutual
theorem usesR_names {h : Nat} : ∀ (s : Slot), usesR h s = true → h ∈ namesR s
  | .val t x, hu => by simp [usesR] at hu
  | .row h', hu => by simp only [usesR] at hu; simp [namesR, Nat.eq_of_beq_eq_true hu]
  | .box k off, hu => by simp [usesR] at hu
  | .elt h' sz i off, hu => by simp only [usesR] at hu; simp [namesR, Nat.eq_of_beq_eq_true hu]
  | .ptr ss, hu => by simpa [namesR] using usesRs_names ss (by simpa [usesR] using hu)
  | .agg ss, hu => by simpa [namesR] using usesRs_names ss (by simpa [usesR] using hu)
  | .tup ss, hu => by simpa [namesR] using usesRs_names ss (by simpa [usesR] using hu)
  | .fn f ss, hu => by simpa [namesR] using usesRs_names ss (by simpa [usesR] using hu)
  | .nilp, hu => by simp [usesR] at hu
  | .nilf, hu => by simp [usesR] at hu
theorem usesRs_names {h : Nat} : ∀ (ss : List Slot), usesRs h ss = true → h ∈ namesRs ss
  | [], hu => by simp [usesRs] at hu
  | s :: ss, hu => by
    simp only [usesRs, Bool.or_eq_true] at hu
    simp only [namesRs, List.mem_append]
    exact hu.imp (usesR_names s) (usesRs_names ss)
end
mutual
theorem usesB_names {h : Nat} : ∀ (s : Slot), usesB h s = true → h ∈ namesB s
  | .val t x, hu => by simp [usesB] at hu
  | .row h', hu => by simp [usesB] at hu
  | .box k off, hu => by simp only [usesB] at hu; simp [namesB, Nat.eq_of_beq_eq_true hu]
  | .elt h' sz i off, hu => by simp [usesB] at hu
  | .ptr ss, hu => by simpa [namesB] using usesBs_names ss (by simpa [usesB] using hu)
  | .agg ss, hu => by simpa [namesB] using usesBs_names ss (by simpa [usesB] using hu)
  | .tup ss, hu => by simpa [namesB] using usesBs_names ss (by simpa [usesB] using hu)
  | .fn f ss, hu => by simpa [namesB] using usesBs_names ss (by simpa [usesB] using hu)
  | .nilp, hu => by simp [usesB] at hu
  | .nilf, hu => by simp [usesB] at hu
theorem usesBs_names {h : Nat} : ∀ (ss : List Slot), usesBs h ss = true → h ∈ namesBs ss
  | [], hu => by simp [usesBs] at hu
  | s :: ss, hu => by
    simp only [usesBs, Bool.or_eq_true] at hu
    simp only [namesBs, List.mem_append]
    exact hu.imp (usesB_names s) (usesBs_names ss)
end

/-- The first state is part of the second. -/
structure Sub (s t : VState) : Prop where
  slots : ∀ p ∈ s.slots, p ∈ t.slots
  rows : ∀ p ∈ s.rows, p ∈ t.rows
  boxes : ∀ p ∈ s.boxes, p ∈ t.boxes

section
variable {C : Ctx} {ρ : Own} {ok : Nat → Prop} {st fp : VState} {a : Act} {w : World} {T : Nat → Option TI} {P : Program}

theorem Sub.keys (h : Sub fp st) : ∀ x ∈ fp.keys, x ∈ st.keys := by
  intro x hx
  rcases List.mem_append.1 hx with h1 | h1
  · obtain ⟨p, hp, rfl⟩ := List.mem_map.1 h1
    exact mem_keys_r (h.rows p hp)
  · obtain ⟨p, hp, rfl⟩ := List.mem_map.1 h1
    exact mem_keys_b (h.boxes p hp)
theorem Sub.hasR (h : Sub fp st) {i : Nat} (hi : fp.hasR i = true) : st.hasR i = true := by
  simp only [VState.hasR, Bool.or_eq_true, List.any_eq_true] at hi ⊢
  rcases hi with (⟨p, hp, hu⟩ | ⟨p, hp, hu⟩) | ⟨p, hp, hu⟩
  · exact .inl (.inl ⟨p, h.slots p hp, hu⟩)
  · exact .inl (.inr ⟨p, h.rows p hp, hu⟩)
  · exact .inr ⟨p, h.boxes p hp, hu⟩
theorem Sub.hasB (h : Sub fp st) {i : Nat} (hi : fp.hasB i = true) : st.hasB i = true := by
  simp only [VState.hasB, Bool.or_eq_true, List.any_eq_true] at hi ⊢
  rcases hi with (⟨p, hp, hu⟩ | ⟨p, hp, hu⟩) | ⟨p, hp, hu⟩
  · exact .inl (.inl ⟨p, h.slots p hp, hu⟩)
  · exact .inl (.inr ⟨p, h.boxes p hp, hu⟩)
  · exact .inr ⟨p, h.boxes p hp, hu⟩

def keysOf {α : Type} (l : List (Nat × α)) : List Nat := l.map (·.1)

/-- What must hold of an effect that is known of a part of the state. -/
structure Fits (fp st : VState) (E : Eff) : Prop where
  newR : ∀ h ∈ keysOf E.nr, fp.hasR h = true ∨ st.hasR h = false
  newB : ∀ h ∈ keysOf E.nb, fp.hasB h = true ∨ st.hasB h = false
  usR : ∀ h, ((∃ s, E.s = some s ∧ usesR h s = true) ∨ ∃ p ∈ E.nb, usesRs h p.2.2 = true) → fp.hasR h = true ∨ h ∈ keysOf E.nr
  usB : ∀ h, ((∃ s, E.s = some s ∧ usesB h s = true) ∨ ∃ p ∈ E.nb, usesBs h p.2.2 = true) → fp.hasB h = true ∨ h ∈ keysOf E.nb
  dupR : ∀ h ∈ keysOf E.nr, h ∈ keysOf fp.rows → h ∈ E.dr
  dupB : ∀ h ∈ keysOf E.nb, h ∈ keysOf fp.boxes → h ∈ E.db

/-- The names of two, joined: those of the second for what is new. -/
noncomputable def Own.mix (ρ ρ' : Own) (R B : Nat → Prop) : Own := by
  classical exact { row := fun h => if R h then ρ'.row h else ρ.row h, box := fun k => if B k then ρ'.box k else ρ.box k }

/-- WHAT AN OPERATION DOES TO A PART OF THE STATE IT DOES TO ALL OF IT. -/
theorem vop_frame (hT : TOk P T) (r : Rel C ρ ok st a w) (hs : Sub fp st) {o : Oper} {an : Ann} {E : Eff} (h : vop P T fp o an = some E) (hp : AllP E.ps) (hf : Fits fp st E) : Does P C ρ st E o a w := by
  let C' : Ctx := ⟨w, ok, fun b => ∃ x ∈ fp.keys, blk ρ x = some b, C.n⟩
  have r' : Rel C' ρ ok fp a w := by
    refine ⟨rfl, rfl, rfl, Nat.le_refl _, fun _ _ _ => rfl, fun b hb => ⟨(r.okb b hb).1, .inl hb⟩, fun _ h => h, r.defers, r.tmps, r.one,
      fun p hp => r.slots p (hs.slots p hp), fun p hp => r.rows p (hs.rows p hp), fun p hp => r.boxes p (hs.boxes p hp), ?_, fun x hx y hy => r.apart x (hs.keys x hx) y (hs.keys y hy)⟩
    intro x hx b hb
    exact ⟨.inr ⟨x, hx, hb⟩, (r.mine x (hs.keys x hx) b hb).2⟩
  intro K Q hK
  refine vop_sound hT r' h hp K Q ?_
  intro v ρ' ok' w' hv hR hag hk2
  let NR : Nat → Prop := fun h => h ∈ keysOf E.nr ∧ st.hasR h = false
  let NB : Nat → Prop := fun h => h ∈ keysOf E.nb ∧ st.hasB h = false
  have mixR : ∀ h, NR h → (ρ.mix ρ' NR NB).row h = ρ'.row h := fun h hh => by simp [Own.mix, hh]
  have mixR' : ∀ h, ¬ NR h → (ρ.mix ρ' NR NB).row h = ρ.row h := fun h hh => by simp [Own.mix, hh]
  have mixB : ∀ h, NB h → (ρ.mix ρ' NR NB).box h = ρ'.box h := fun h hh => by simp [Own.mix, hh]
  have mixB' : ∀ h, ¬ NB h → (ρ.mix ρ' NR NB).box h = ρ.box h := fun h hh => by simp [Own.mix, hh]
  have agR : ∀ h, (fp.hasR h = true ∨ h ∈ keysOf E.nr) → (ρ.mix ρ' NR NB).row h = ρ'.row h := by
    intro h hh
    by_cases hn : NR h
    · exact mixR h hn
    · rw [mixR' h hn]
      rcases hh with hh | hh
      · exact (hag.1 h hh).symm
      · rcases hf.newR h hh with h1 | h1
        · exact (hag.1 h h1).symm
        · exact absurd ⟨hh, h1⟩ hn
  have agB : ∀ h, (fp.hasB h = true ∨ h ∈ keysOf E.nb) → (ρ.mix ρ' NR NB).box h = ρ'.box h := by
    intro h hh
    by_cases hn : NB h
    · exact mixB h hn
    · rw [mixB' h hn]
      rcases hh with hh | hh
      · exact (hag.2 h hh).symm
      · rcases hf.newB h hh with h1 | h1
        · exact (hag.2 h h1).symm
        · exact absurd ⟨hh, h1⟩ hn
  have oldR : ∀ h, st.hasR h = true → (ρ.mix ρ' NR NB).row h = ρ.row h := fun h hh => mixR' h fun hn => by rw [hn.2] at hh; cases hh
  have oldB : ∀ h, st.hasB h = true → (ρ.mix ρ' NR NB).box h = ρ.box h := fun h hh => mixB' h fun hn => by rw [hn.2] at hh; cases hh
  have mv : Moves ρ' (ρ.mix ρ' NR NB) ok' ok' w' w' (fun h => fp.hasR h = true ∨ h ∈ keysOf E.nr) (fun h => fp.hasB h = true ∨ h ∈ keysOf E.nb) := ⟨agR, agB, fun _ h => h, fun _ _ _ => rfl⟩
  have hkeep2 : ∀ x ∈ (st.del E.dr E.db).keys, ∀ b, blk ρ x = some b → w'.heap[b]? = w.heap[b]? := by
    intro x hx b hb
    obtain ⟨hx1, hx2, hx3⟩ := mem_del_keys hx
    by_cases hm : x ∈ fp.keys
    · refine hk2 x ?_ b hb
      rcases List.mem_append.1 hm with h1 | h1
      · obtain ⟨p, hp, rfl⟩ := List.mem_map.1 h1
        exact List.mem_append.2 (.inl (List.mem_map.2 ⟨p, List.mem_filter.2 ⟨hp, not_any_beq.2 (hx2 _ rfl)⟩, rfl⟩))
      · obtain ⟨p, hp, rfl⟩ := List.mem_map.1 h1
        exact List.mem_append.2 (.inr (List.mem_map.2 ⟨p, List.mem_filter.2 ⟨hp, not_any_beq.2 (hx3 _ rfl)⟩, rfl⟩))
    · refine hR.keep b (r.lt hx1 hb) ?_
      rintro ⟨y, hy, hyb⟩
      exact hm (by rw [r.apart x hx1 y (hs.keys y hy) b hb hyb]; exact hy)
  have blkN : ∀ x ∈ (VState.mk [] E.nr E.nb).keys, blk (ρ.mix ρ' NR NB) x = blk ρ' x := by
    intro x hx
    rcases List.mem_append.1 hx with h1 | h1
    · obtain ⟨p, hp, rfl⟩ := List.mem_map.1 h1
      simp only [blk, agR p.1 (.inr (List.mem_map.2 ⟨p, hp, rfl⟩))]
    · obtain ⟨p, hp, rfl⟩ := List.mem_map.1 h1
      simp only [blk, agB p.1 (.inr (List.mem_map.2 ⟨p, hp, rfl⟩))]
  have inAfter : ∀ x ∈ (VState.mk [] E.nr E.nb).keys, x ∈ (fp.after E).keys := by
    intro x hx
    simp only [VState.keys, VState.after, VState.add, List.map_append, List.mem_append] at hx ⊢
    exact hx.imp .inl .inl
  have delAfter : ∀ x ∈ (fp.del E.dr E.db).keys, x ∈ (fp.after E).keys := by
    intro x hx
    simp only [VState.keys, VState.after, VState.add, List.map_append, List.mem_append] at hx ⊢
    exact hx.imp .inr .inr
  refine hK v (ρ.mix ρ' NR NB) ok' w' ?_ ?_ ⟨oldR, oldB⟩ hkeep2
  · intro s' hs'
    exact RenS.move mv s' (fun h hh => hf.usR h (.inl ⟨s', hs', hh⟩)) (fun k hk => hf.usB k (.inl ⟨s', hs', hk⟩)) (hv s' hs')
  · refine r.step E.dr E.db E.nr E.nb hR.os hR.tape hR.output hR.size ?_ hkeep2 hR.ok0 (fun b hb => ?_) (fun h => ?_) oldR oldB ?_ ?_ ?_ ?_
    · intro b hb _ hno
      exact hR.keep b hb fun ⟨x, hx, hxb⟩ => hno ⟨x, hs.keys x hx, hxb⟩
    · obtain ⟨h1, h2⟩ := hR.okb b hb
      rcases h2 with h2 | h2
      · exact .inl h2
      · exact .inr ⟨h2, h1⟩
    · by_cases hn : NR h
      · rw [mixR h hn]; exact hR.one h
      · rw [mixR' h hn]; exact r.one h
    · intro p hp
      have hk : p.1 ∈ keysOf E.nr := List.mem_map.2 ⟨p, hp, rfl⟩
      exact (hR.rows p (List.mem_append.2 (.inl hp))).move (agR _ (.inr hk)) (fun _ h => h) (fun _ _ _ => rfl) (fun _ _ => rfl)
    · intro p hp
      have hk : p.1 ∈ keysOf E.nb := List.mem_map.2 ⟨p, hp, rfl⟩
      exact (hR.boxes p (List.mem_append.2 (.inl hp))).move (agB _ (.inr hk)) mv (fun h hh => hf.usR h (.inr ⟨p, hp, hh⟩)) (fun k hh => hf.usB k (.inr ⟨p, hp, hh⟩)) (fun _ _ => rfl)
    · intro x hx b hxb
      rw [blkN x hx] at hxb
      obtain ⟨h1, h2⟩ := hR.mine x (inAfter x hx) b hxb
      refine ⟨?_, h2⟩
      rcases h1 with h1 | ⟨y, hy, hyb⟩
      · exact .inl h1
      · refine .inr ⟨y, hs.keys y hy, hyb, ?_⟩
        by_cases hd : y ∈ (fp.del E.dr E.db).keys
        · exfalso
          have hby : blk ρ' y = some b := by
            rw [← hyb]
            rcases List.mem_append.1 hy with h3 | h3
            · obtain ⟨p, hp, rfl⟩ := List.mem_map.1 h3
              simp only [blk, hag.1 _ (hasR_row hp)]
            · obtain ⟨p, hp, rfl⟩ := List.mem_map.1 h3
              simp only [blk, hag.2 _ (hasB_key hp)]
          have hxy : x = y := hR.apart x (inAfter x hx) y (delAfter y hd) b hxb hby
          subst hxy
          obtain ⟨_, hd2, hd3⟩ := mem_del_keys hd
          rcases List.mem_append.1 hx with h3 | h3
          · obtain ⟨p, hp, rfl⟩ := List.mem_map.1 h3
            refine hd2 p.1 rfl (hf.dupR p.1 (List.mem_map.2 ⟨p, hp, rfl⟩) ?_)
            rcases List.mem_append.1 hy with h4 | h4
            · obtain ⟨q, hq, e⟩ := List.mem_map.1 h4
              injection e with e
              exact List.mem_map.2 ⟨q, hq, e⟩
            · obtain ⟨q, hq, e⟩ := List.mem_map.1 h4
              cases e
          · obtain ⟨p, hp, rfl⟩ := List.mem_map.1 h3
            refine hd3 p.1 rfl (hf.dupB p.1 (List.mem_map.2 ⟨p, hp, rfl⟩) ?_)
            rcases List.mem_append.1 hy with h4 | h4
            · obtain ⟨q, hq, e⟩ := List.mem_map.1 h4
              cases e
            · obtain ⟨q, hq, e⟩ := List.mem_map.1 h4
              injection e with e
              exact List.mem_map.2 ⟨q, hq, e⟩
        · rcases List.mem_append.1 hy with h3 | h3
          · obtain ⟨p, hp, rfl⟩ := List.mem_map.1 h3
            refine .inl ⟨p.1, rfl, ?_⟩
            by_cases hm : p.1 ∈ E.dr
            · exact hm
            · exact absurd (List.mem_append.2 (.inl (List.mem_map.2 ⟨p, List.mem_filter.2 ⟨hp, not_any_beq.2 hm⟩, rfl⟩))) hd
          · obtain ⟨p, hp, rfl⟩ := List.mem_map.1 h3
            refine .inr ⟨p.1, rfl, ?_⟩
            by_cases hm : p.1 ∈ E.db
            · exact hm
            · exact absurd (List.mem_append.2 (.inr (List.mem_map.2 ⟨p, List.mem_filter.2 ⟨hp, not_any_beq.2 hm⟩, rfl⟩))) hd
    · intro x hx y hy b hxb hyb
      rw [blkN x hx] at hxb
      rw [blkN y hy] at hyb
      exact hR.apart x (inAfter x hx) y (inAfter y hy) b hxb hyb
end
end Go.V
