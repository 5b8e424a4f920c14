/- The value logic, part 12: stores and appends. -/
import Derived.Test.YtcldmkjlbdpbaaaV11
set_option linter.unusedVariables false
set_option linter.unusedSimpArgs false
namespace Go.V
open Go.RowKit (Below)

section
variable {C : Ctx} {ρ : Own} {ok : Nat → Prop} {st : VState} {a : Act} {w : World} {T : Nat → Option TI} {P : Program}

theorem setRow_other' (w : World) (g : Nat) (cs : Array Value) : ∀ b, b ≠ g → (w.setRow g cs).heap[b]? = w.heap[b]? := fun b h => setRow_other w g b cs h
theorem setRow_size (w : World) (g : Nat) (cs : Array Value) : (w.setRow g cs).heap.size = w.heap.size := by simp [World.setRow]

theorem run_storeVar {t : Nat} {i : TI} (f : TFact P t i) {g off : Nat} {e : Nat} {cur : Array Value} {v : Value} (hg : w.heap[g]? = some (.cells cur e (0, 0))) (hv : v.cells.size = i.size) (hfit : off + i.size ≤ cur.size)
    (h1 : ∀ u ∈ v.cells.toList, u.oneCell' = true) : (storeVar t ⟨g, off, none⟩ v).run P w = .ok () (w.setRow g (cur.toList.take off ++ (v.cells.toList ++ cur.toList.drop (off + i.size))).toArray) := by
  have hst := run_storeCells_at P g off e v.cells.toList 0 cur w hg (by simp only [Array.length_toList]; omega) h1
  simp only [Nat.add_zero, Array.length_toList, hv] at hst
  simp only [storeVar, Sem.run_bind, run_size f w, Result.andThen_ok]
  rw [if_neg (by simpa using hv), hst, List.append_assoc]

set_option maxHeartbeats 1000000 in
theorem e_store (hT : TOk P T) (r : Rel C ρ ok st a w) {o : Oper} {t id : Nat} {p x : Operand} (ho : o.op = .store t p x) {E : Eff} (h : veff T st o id = some E) (hp : AllP E.ps) : Leaves P C ρ st E o a w := by
  unfold veff at h
  rw [ho] at h
  obtain ⟨i, hi, h⟩ := bindS h
  obtain ⟨s, hs, h⟩ := bindS h
  obtain ⟨ss, hss, h⟩ := bindS h
  have f := hT _ _ hi
  split at h
  · cases h
  rename_i hlen
  have hlen := Nat.eq_of_beq_eq_true hlen
  have hv := ren_toCells hss (ev_sound r hs) r.one
  have hvl := lenC_sound hv
  have hvs : (a.eval x).cells.size = i.size := by simpa [hlen] using hvl
  have hone := RenCs.one r.one hv
  split at h
  · rename_i k off hpt
    obtain ⟨B, hB, h⟩ := bindS h
    obtain ⟨ss', hss', e⟩ := mapS h
    cases e
    have hpv := ev_sound r hpt
    rw [RenS] at hpv
    obtain ⟨cs, hh, hc⟩ : BoxOk ρ ok w k B := r.boxes _ (assoc_mem hB)
    obtain ⟨hle, hc'⟩ := replC_sound hss' hc hv
    have hrun := run_storeVar (P := P) f (off := off) hh hvs (by simpa using hle) hone
    simp only [] at hrun
    have hkey : Key.b k ∈ st.keys := mem_keys_b (assoc_mem hB)
    have hother : ∀ b, b ≠ ρ.box k → (w.setRow (ρ.box k) (cs.take off ++ ((a.eval x).cells.toList ++ cs.drop (off + i.size))).toArray).heap[b]? = w.heap[b]? := fun b hb => setRow_other' _ _ _ b hb
    have hkeep2 : ∀ y ∈ (st.del [] [k]).keys, ∀ b, blk ρ y = some b → (w.setRow (ρ.box k) (cs.take off ++ ((a.eval x).cells.toList ++ cs.drop (off + i.size))).toArray).heap[b]? = w.heap[b]? := by
      intro y hy b hyb
      refine hother b ?_
      rintro rfl
      obtain ⟨hy1, _, hy2⟩ := mem_del_keys hy
      have := r.apart y hy1 _ hkey _ hyb rfl
      subst this
      exact hy2 k rfl (by simp)
    refine ⟨.skip, ρ, ok, w.setRow (ρ.box k) (cs.take off ++ ((a.eval x).cells.toList ++ cs.drop (off + i.size))).toArray, ?_, .inl ⟨rfl, rfl⟩, ?_, ⟨fun _ _ => rfl, fun _ _ => rfl⟩, hkeep2⟩
    · simp only [execOp, ho, Instr.storeAt, hpv, Instr.sureAddr, Sem.run_bind, Sem.run_pure, Result.andThen_ok]
      rw [hrun]
      rfl
    · have hmem : ∀ b, ok b → b < w.heap.size → (w.setRow (ρ.box k) (cs.take off ++ ((a.eval x).cells.toList ++ cs.drop (off + i.size))).toArray).heap[b]? = w.heap[b]? := fun b hb _ =>
        hother b (by rintro rfl; exact (r.mine _ hkey _ rfl).2 hb)
      refine r.step [] [k] [] [(k, (B.1, ss'))] rfl rfl rfl (by rw [setRow_size]; exact Nat.le_refl _) ?_ hkeep2 (fun _ h => h) (fun _ h => .inl h) r.one (fun _ _ => rfl) (fun _ _ => rfl) (fun p hp => by cases hp) ?_ ?_ ?_
      · intro b hlt _ hno
        exact hother b (by rintro rfl; exact hno ⟨_, hkey, rfl⟩)
      · intro q hq
        rw [List.mem_singleton] at hq
        subst hq
        refine ⟨_, setRow_heap w _ _ _ _ _ hh, ?_⟩
        have m : Moves ρ ρ ok ok w (w.setRow (ρ.box k) (cs.take off ++ ((a.eval x).cells.toList ++ cs.drop (off + i.size))).toArray) (fun _ => True) (fun _ => True) := ⟨fun _ _ => rfl, fun _ _ => rfl, fun _ h => h, hmem⟩
        exact RenCs.move m ss' (fun _ _ => trivial) (fun _ _ => trivial) hc'
      · intro y hy b hyb
        simp only [VState.keys, List.map_nil, List.nil_append, List.map_cons, List.mem_singleton] at hy
        subst hy
        exact ⟨.inr ⟨_, hkey, hyb, .inr ⟨k, rfl, by simp⟩⟩, (r.mine _ hkey b hyb).2⟩
      · intro y hy z hz b _ _
        simp only [VState.keys, List.map_nil, List.nil_append, List.map_cons, List.mem_singleton] at hy hz
        rw [hy, hz]
  · rename_i h' sz n off hpt
    obtain ⟨R, hR, h⟩ := bindS h
    split at h
    · cases h
    rename_i hsz
    have hsz := Nat.eq_of_beq_eq_true hsz
    obtain ⟨ss', hss', h⟩ := bindS h
    obtain ⟨q, hq, h⟩ := bindS h
    split at h
    case h_2 => cases h
    rename_i hq2
    cases h
    have hi' : n.toNat < R.l.length := hp.1
    have hpv := ev_sound r hpt
    rw [RenS] at hpv
    obtain ⟨ad, m, c, hrow, hpv⟩ := hpv
    obtain ⟨cs, hown, hc⟩ : RowOk ρ ok w h' R := r.rows _ (assoc_mem hR)
    have hkey : Key.r h' ∈ st.keys := mem_keys_r (assoc_mem hR)
    rcases hown.2 with ⟨h0, h00⟩ | ⟨g, cap, cur, h0, hg0, hh, hnc, hcm, hcs, htake⟩
    · have : R.l.length = 0 := h00
      omega
    · rw [hrow] at h0
      cases h0
      -- the element's cells, and what they become
      have hlenR := RnL.length (sz := R.t.size) (fun x cs hx => Rn.length hx) hc
      have split3 : ∀ {l : List R.t.D} {cs : List Value} (j : Nat), RnL (Rn ok w R.t) l cs → j < l.length →
          Rn ok w R.t (l.getD j R.t.zero) ((cs.drop (j * R.t.size)).take R.t.size) ∧
          ∀ (y : R.t.D) (ds : List Value), Rn ok w R.t y ds → RnL (Rn ok w R.t) (l.set j y) (cs.take (j * R.t.size) ++ (ds ++ cs.drop (j * R.t.size + R.t.size))) := by
        intro l
        induction l with
        | nil => intro cs j h hj; simp at hj
        | cons x l ih =>
          intro cs j h hj
          obtain ⟨c1, c2, rfl, h1, h2⟩ := h
          have hl1 := Rn.length h1
          cases j with
          | zero =>
            simp only [Nat.zero_mul, List.drop_zero, List.getD_cons_zero, List.take_zero, List.nil_append, Nat.zero_add, List.set_cons_zero]
            refine ⟨?_, fun y ds hy => ⟨ds, c2, ?_, hy, h2⟩⟩
            · rw [List.take_append, List.take_of_length_le (by omega), hl1, Nat.sub_self, List.take_zero, List.append_nil]
              exact h1
            · rw [List.drop_append, List.drop_eq_nil_of_le (by omega), hl1, Nat.sub_self, List.drop_zero, List.nil_append]
          | succ j =>
            obtain ⟨g1, g2⟩ := ih j h2 (by simpa using hj)
            rw [List.getD_cons_succ, Nat.add_mul, Nat.one_mul]
            refine ⟨?_, fun y ds hy => ?_⟩
            · rw [List.drop_append, List.drop_eq_nil_of_le (by omega), List.nil_append, hl1, Nat.add_sub_cancel]
              exact g1
            · rw [List.set_cons_succ]
              refine ⟨c1, _, ?_, h1, g2 y ds hy⟩
              rw [List.take_append, List.take_of_length_le (by omega), hl1, Nat.add_sub_cancel, List.append_assoc]
              congr 3
              rw [List.drop_append, List.drop_eq_nil_of_le (by omega), List.nil_append, hl1]
              congr 1
              omega
      obtain ⟨hel, hset⟩ := split3 n.toNat hc hi'
      obtain ⟨hle, hc'⟩ := replC_sound hss' (renCs_cellsOf hel) hv
      obtain ⟨d1, d2, hd, hRn, hrest⟩ := asm_sound (x := q.1) (rest := q.2) hq hc'
      rw [hq2, RenCs] at hrest
      subst hrest
      rw [List.append_nil] at hd
      have hel_len := Rn.length hel
      have hnew := hset q.1 d1 hRn
      have hd1 := Rn.length hRn
      have hmul : n.toNat * R.t.size + R.t.size ≤ R.l.length * R.t.size := by
        rw [← Nat.succ_mul]
        exact Nat.mul_le_mul_right _ hi'
      have hcl : cs.length = R.l.length * R.t.size := hlenR
      have hcap : R.l.length * R.t.size ≤ c * R.t.size := Nat.mul_le_mul_right _ hnc
      have hoff : off + i.size ≤ R.t.size := by omega
      have hfit : n.toNat * sz + off + i.size ≤ cur.size := by rw [hsz, hcs]; omega
      have hrun := run_storeVar (P := P) f (off := n.toNat * sz + off) hh hvs hfit hone
      have hcur : ∀ j, j < R.l.length * R.t.size → cur.toList[j]? = cs[j]? := by
        intro j hj
        rw [← htake, List.getElem?_take, if_pos hj]
      -- the cells of the row behind the store
      have hcells : (cur.toList.take (n.toNat * sz + off) ++ ((a.eval x).cells.toList ++ cur.toList.drop (n.toNat * sz + off + i.size))).take (R.l.length * R.t.size) =
          cs.take (n.toNat * R.t.size) ++ (d1 ++ cs.drop (n.toNat * R.t.size + R.t.size)) := by
        rw [← hd]
        have hvl' : (a.eval x).cells.toList.length = i.size := by simpa using hvs
        apply List.ext_getElem?
        intro j
        simp only [List.getElem?_take, List.getElem?_append, List.length_take, List.length_append, List.length_drop, hvl', List.getElem?_drop, Array.length_toList, hsz, hcs, hcl]
        have e1 : min (n.toNat * R.t.size + off) (c * R.t.size) = n.toNat * R.t.size + off := by omega
        have e2 : min (n.toNat * R.t.size) (R.l.length * R.t.size) = n.toNat * R.t.size := by omega
        have e3 : min off (min R.t.size (R.l.length * R.t.size - n.toNat * R.t.size)) = off := by omega
        have e4 : min R.t.size (R.l.length * R.t.size - n.toNat * R.t.size) = R.t.size := by omega
        have e5 : min off R.t.size = off := by omega
        simp only [e1, e2, e3, e4, e5]
        repeat' split
        all_goals first
          | omega
          | rfl
          | exact hcur _ (by omega)
          | (rw [hcur _ (by omega)]; congr 1; omega)
          | (congr 1; omega)
          | (rw [List.getElem?_eq_none (by omega)])
      have hother : ∀ b, b ≠ g → (w.setRow g (cur.toList.take (n.toNat * sz + off) ++ ((a.eval x).cells.toList ++ cur.toList.drop (n.toNat * sz + off + i.size))).toArray).heap[b]? = w.heap[b]? := fun b hb => setRow_other' _ _ _ b hb
      have hblk : blk ρ (.r h') = some g := by simp [blk, hrow, Value.ownBlock]
      have hmem : ∀ b, ok b → b < w.heap.size → (w.setRow g (cur.toList.take (n.toNat * sz + off) ++ ((a.eval x).cells.toList ++ cur.toList.drop (n.toNat * sz + off + i.size))).toArray).heap[b]? = w.heap[b]? := fun b hb _ =>
        hother b (by rintro rfl; exact (r.mine _ hkey _ hblk).2 hb)
      have hkeep2 : ∀ y ∈ (st.del [h'] []).keys, ∀ b, blk ρ y = some b → (w.setRow g (cur.toList.take (n.toNat * sz + off) ++ ((a.eval x).cells.toList ++ cur.toList.drop (n.toNat * sz + off + i.size))).toArray).heap[b]? = w.heap[b]? := by
        intro y hy b hyb
        refine hother b ?_
        rintro rfl
        obtain ⟨hy1, hy2, _⟩ := mem_del_keys hy
        have := r.apart y hy1 _ hkey _ hyb hblk
        subst this
        exact hy2 h' rfl (by simp)
      refine ⟨.skip, ρ, ok, w.setRow g (cur.toList.take (n.toNat * sz + off) ++ ((a.eval x).cells.toList ++ cur.toList.drop (n.toNat * sz + off + i.size))).toArray, ?_, .inl ⟨rfl, rfl⟩, ?_, ⟨fun _ _ => rfl, fun _ _ => rfl⟩, hkeep2⟩
      · simp only [execOp, ho, Instr.storeAt, hpv, Instr.sureAddr, Sem.run_bind, Sem.run_pure, Result.andThen_ok]
        rw [Nat.zero_add, hrun]
        rfl
      · refine r.step [h'] [] [(h', ⟨R.e, R.t, R.l.set n.toNat q.1⟩)] [] rfl rfl rfl (by rw [setRow_size]; exact Nat.le_refl _) ?_ hkeep2 (fun _ h => h) (fun _ h => .inl h) r.one (fun _ _ => rfl) (fun _ _ => rfl) ?_ (fun p hp => by cases hp) ?_ ?_
        · intro b hlt _ hno
          exact hother b (by rintro rfl; exact hno ⟨_, hkey, hblk⟩)
        · intro q' hq'
          rw [List.mem_singleton] at hq'
          subst hq'
          refine ⟨_, ?_, RnL.imp (fun x c hx => Rn.move (fun _ h => h) hmem hx) hnew⟩
          show World.ownsRow _ 0 R.e R.t.size (ρ.row h') (R.l.set n.toNat q.1).length _
          rw [List.length_set]
          refine ⟨?_, .inr ⟨g, c, _, hrow, Nat.zero_le _, setRow_heap w _ _ _ _ _ hh, hnc, hcm, ?_, hcells⟩⟩
          · rw [RnL.length (sz := R.t.size) (fun x cs hx => Rn.length hx) hnew, List.length_set]
          · simp only [List.size_toArray, List.length_append, List.length_take, List.length_drop, Array.length_toList, hvs, hcs]
            rw [hsz]
            omega
        · intro y hy b hyb
          simp only [VState.keys, List.map_nil, List.append_nil, List.map_cons, List.mem_singleton] at hy
          subst hy
          exact ⟨.inr ⟨_, hkey, hyb, .inl ⟨h', rfl, by simp⟩⟩, (r.mine _ hkey b hyb).2⟩
        · intro y hy z hz b _ _
          simp only [VState.keys, List.map_nil, List.append_nil, List.map_cons, List.mem_singleton] at hy hz
          rw [hy, hz]
  · cases h
end
end Go.V
