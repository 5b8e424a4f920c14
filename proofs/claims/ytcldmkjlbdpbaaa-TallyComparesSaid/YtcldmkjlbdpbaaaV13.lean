/- The value logic, part 13: appends, and every operation but calls of functions, in one theorem. -/
import Derived.Test.YtcldmkjlbdpbaaaV12
set_option linter.unusedVariables false
set_option linter.unusedSimpArgs false
namespace Go.V
open Go.RowKit (Below)

section
variable {C : Ctx} {ρ : Own} {ok : Nat → Prop} {st : VState} {a : Act} {w : World} {T : Nat → Option TI} {P : Program}

theorem row0_cells {t : Ty} {A : Option Addr} : ∀ {l : List t.D} (k : Nat),
    (∀ (i : Nat) (x : t.D), l[i]? = some x → ∃ ad cs, A = some ad ∧ ok ad.block ∧ Rn ok w t x cs ∧ ∀ (j : Nat) (u : Value), cs[j]? = some u → w.cell? (ad.add ((k + i) * t.size + j)) = some u) →
    ∃ news, RnL (Rn ok w t) l news ∧ ∀ ad, A = some ad → ∀ (j : Nat) (u : Value), news[j]? = some u → w.cell? (ad.add (k * t.size + j)) = some u
  | [], k, h => ⟨[], rfl, fun ad _ j u hu => by simp at hu⟩
  | x :: l, k, h => by
    obtain ⟨ad, cs, rfl, _, hR, hc⟩ := h 0 x rfl
    obtain ⟨news, h1, h2⟩ := row0_cells (l := l) (k + 1) (fun i y hy => by
      obtain ⟨ad', cs', e, g0, g1, g2⟩ := h (i + 1) y hy
      exact ⟨ad', cs', e, g0, g1, fun j u hu => by have := g2 j u hu; rwa [show k + (i + 1) = k + 1 + i by omega] at this⟩)
    refine ⟨cs ++ news, ⟨cs, news, rfl, hR, h1⟩, fun ad' e j u hu => ?_⟩
    cases e
    have hl := Rn.length hR
    rw [List.getElem?_append] at hu
    split at hu
    · simpa using hc j u hu
    · have := h2 ad rfl (j - cs.length) u hu
      rw [Nat.add_mul, Nat.one_mul, hl] at this
      rwa [show k * t.size + t.size + (j - t.size) = k * t.size + j by omega] at this

theorem readL_sound (r : Rel C ρ ok st a w) {t : Nat} {x : Operand} {u : Ty} {l : List u.D} (h : readL T st t x u = some l) :
    ∃ A c news, a.eval x = .slice A l.length c ∧ RnL (Rn ok w u) l news ∧ (∀ ad, A = some ad → ∀ (j : Nat) (v : Value), news[j]? = some v → w.cell? (ad.add j) = some v) ∧ (A = none → l = []) := by
  unfold readL at h
  split at h
  · rename_i e u' l' hx
    split at h
    · rename_i hu
      subst hu
      cases h
      obtain ⟨A, c, hv, _, _, h3⟩ := inv_sl (ev_sound r hx)
      obtain ⟨news, g1, g2⟩ := row0_cells (A := A) (l := l') 0 (fun i y hy => by
        obtain ⟨ad, cs, e, g0, g1, g2⟩ := h3 i y hy
        exact ⟨ad, cs, e, g0, g1, fun j u hu => by simpa using g2 j u hu⟩)
      refine ⟨A, c, news, hv, g1, fun ad e j u hu => by simpa using g2 ad e j u hu, fun e => ?_⟩
      cases l' with
      | nil => rfl
      | cons y l' =>
        obtain ⟨ad, _, e', _⟩ := h3 0 y rfl
        rw [e] at e'
        cases e'
    · cases h
  · rename_i h' hx
    obtain ⟨R, hR, h⟩ := bindS h
    split at h
    · rename_i hu
      obtain ⟨e, t', l'⟩ := R
      simp only at hu
      subst hu
      cases h
      obtain ⟨cs, hown, hc⟩ : RowOk ρ ok w h' ⟨e, t', l'⟩ := r.rows _ (assoc_mem hR)
      have hv := ev_sound r hx
      rw [RenS] at hv
      rcases hown.2 with ⟨h0, h00⟩ | ⟨g, cap, cur, h0, _, hh, _⟩
      · have hl : l' = [] := List.eq_nil_of_length_eq_zero h00
        subst hl
        exact ⟨none, 0, cs, by rw [hv, h0]; rfl, hc, fun ad e => (by cases e), fun _ => rfl⟩
      · refine ⟨some ⟨g, 0, none⟩, cap, cs, by rw [hv, h0], hc, fun ad e j v hv' => ?_, fun e => by cases e⟩
        cases e
        exact hown.cells (by rw [h0]; rfl) j v hv'
    · cases h
  · cases h

theorem append_none {e : Nat} {g : TypeInfo} {t ty n c : Nat} {v : Value} {xs : List Value} {size : Nat} (ht : P.underlying t = some (.slice e)) (hi : P.info? e = some g) (hown : w.ownsRow 0 e size v n xs) :
    (Builtin.append_ #[t, t] ty #[v, .slice none 0 c]).run P w = .ok v w := by
  rcases hown.2 with ⟨rfl, rfl⟩ | ⟨g, cap, cur, rfl, _, _, hnc, _⟩
  · simp [Builtin.append_, run_underlying ht, Go.sizeOf, typeInfo, hi, Builtin.lenOf, Builtin.firstCells]
  · simp [Builtin.append_, run_underlying ht, Go.sizeOf, typeInfo, hi, Builtin.lenOf, Builtin.firstCells, hnc, storeCells]

theorem append_core {t ty e m c : Nat} {i : TI} {z v : Value} {n size : Nat} {xs news : List Value} {A : Option Addr} (f : TFact P e i) (hz : i.zero = some z) (ht : P.underlying t = some (.slice e)) (hsize : i.size = size) (hzs : z.cells.size = size) (h0 : 0 < size)
    (hby : i.bytes ≤ 32768) (hown : w.ownsRow 0 e size v n xs) (hl : news.length = m * size) (hA : ∀ ad, A = some ad → ∀ (j : Nat) (v : Value), news[j]? = some v → w.cell? (ad.add j) = some v) (hn : A = none → m = 0)
    (h1 : ∀ u ∈ news, u.oneCell' = true) (hlim : n + m ≤ LIM) :
    ∃ v' w', (Builtin.append_ #[t, t] ty #[v, .slice A m c]).run P w = .ok v' w' ∧ w'.ownsRow 0 e size v' (n + m) (xs ++ news) ∧ w.grownBy w' v.ownBlock ∧ (v'.ownBlock = v.ownBlock ∨ v'.ownBlock = some w.heap.size) := by
  obtain ⟨g, g1, g2, g3, g4⟩ := f.info
  cases A with
  | none =>
    have hm := hn rfl
    subst hm
    have hnil : news = [] := List.eq_nil_of_length_eq_zero (by simpa using hl)
    subst hnil
    exact ⟨v, w, append_none ht g1 hown, by simpa using hown, ⟨rfl, rfl, rfl, Nat.le_refl _, fun _ _ _ => rfl⟩, .inl rfl⟩
  | some ad =>
    have hlim' : n + m ≤ 4294967296 := hlim
    obtain ⟨v', w', h2, h3, h4, _, h5⟩ := run_append_own_at (P := P) w 0 t ty e g z size i.bytes ht g1 (by rw [g4]; exact hz) (by rw [g2]; exact hsize) g3 hzs h0 v n xs hown ad m c news hl (hA ad rfl) h1
      (by simp only [maxLen]; omega) (by
        have : (n + m) * i.bytes ≤ 4294967296 * 32768 := Nat.mul_le_mul hlim' hby
        omega) (Nat.zero_le _)
    exact ⟨v', w', h2, h3, h4, h5⟩

theorem e_append (hT : TOk P T) (r : Rel C ρ ok st a w) {o : Oper} {id : Nat} {c : Call} (ho : o.op = .call c) (hcal : c.callee = .builtin .append) {E : Eff} (h : veff T st o id = some E) (hp : AllP E.ps) : Leaves P C ρ st E o a w := by
  unfold veff at h
  rw [ho] at h
  dsimp only at h
  rw [hcal] at h
  dsimp only at h
  split at h
  case h_2 => cases h
  rename_i s x t t' hargs htys
  split at h
  case h_1 => cases h
  rename_i htt
  have htt := Nat.eq_of_beq_eq_true htt
  subst htt
  obtain ⟨i, hi, h⟩ := bindS h
  obtain ⟨e, he, h⟩ := bindS h
  obtain ⟨ei, hei, h⟩ := bindS h
  obtain ⟨z, hz, h⟩ := bindS h
  have ha : c.args = #[s, x] := by rw [← Array.toArray_toList (xs := c.args), hargs]
  have hty : c.argTypes = #[t, t] := by rw [← Array.toArray_toList (xs := c.argTypes), htys]
  have hd : i.desc = .slice e := by
    unfold elemOf at he
    split at he
    · cases he; assumption
    · cases he
  have hund := (hT _ _ hi).und
  rw [hd] at hund
  have f := hT _ _ hei
  have hexec : ∀ v' w', (Builtin.append_ #[t, t] o.type #[a.eval s, a.eval x]).run P w = .ok v' w' → (execOp a.eval o).run P w = .ok (.value v') w' := by
    intro v' w' hr
    simp only [execOp, ho, resolve, hcal, invoke, builtin, Sem.run_bind, Sem.run_pure, Result.andThen_ok, ha, hty, List.map_toArray, List.map_cons, List.map_nil, hr]
  split at h
  case h_2 => cases h
  rename_i hk hby hne
  have hby := Nat.le_of_ble_eq_true hby
  have hne : ei.size ≠ 0 := by intro h0; rw [h0] at hne; cases hne
  split at h
  · -- a row of the call's own
    rename_i h' hs
    obtain ⟨R, hR, h⟩ := bindS h
    split at h
    case h_2 => cases h
    rename_i hRe hsz
    have hRe := Nat.eq_of_beq_eq_true hRe
    have hsz := Nat.eq_of_beq_eq_true hsz
    obtain ⟨l, hl, e'⟩ := mapS h
    cases e'
    obtain ⟨A, cc, news, hx, hnews, hcell, hnil⟩ := readL_sound r hl
    obtain ⟨cs, hown, hc⟩ : RowOk ρ ok w h' R := r.rows _ (assoc_mem hR)
    have hv := ev_sound r hs
    rw [RenS] at hv
    have hkey : Key.r h' ∈ st.keys := mem_keys_r (assoc_mem hR)
    have hzl : z.cells.size = ei.size := f.zs z hz
    have hnl := RnL.length (sz := R.t.size) (fun x cs hx => Rn.length hx) hnews
    rw [hRe] at hown
    obtain ⟨v', w', hrun, hown', hgr, hat⟩ := append_core (ty := o.type) (c := cc) f hz hund hsz (by rw [hzl, hsz]) (by omega) hby hown hnl hcell (fun e => by rw [hnil e]; rfl) (RnL.all (fun x c hx => Rn.one hx) hnews) hp.1
    rw [← hx, ← hv] at hrun
    have hmem : ∀ b, ok b → b < w.heap.size → w'.heap[b]? = w.heap[b]? := fun b hb hlt => hgr.block b hlt (fun e => (r.mine _ hkey b e.symm).2 hb)
    have hRnL : RnL (Rn ok w R.t) (R.l ++ l) (cs ++ news) := by
      clear hown hown' hrun hp
      revert hc
      generalize R.l = k
      intro hc
      induction k generalizing cs with
      | nil => rw [show cs = [] from hc]; exact hnews
      | cons y k ih =>
        obtain ⟨c1, c2, rfl, g1, g2⟩ := hc
        exact ⟨c1, c2 ++ news, by rw [List.append_assoc], g1, ih _ g2⟩
    have hkeep2 : ∀ y ∈ (st.del [h'] []).keys, ∀ b, blk ρ y = some b → w'.heap[b]? = w.heap[b]? := by
      intro y hy b hyb
      obtain ⟨hy1, hy2, _⟩ := mem_del_keys hy
      refine hgr.block b (r.lt hy1 hyb) (fun e => ?_)
      have := r.apart y hy1 _ hkey b hyb e.symm
      subst this
      exact hy2 h' rfl (by simp)
    refine ⟨_, ρ.setR id v', ok, w', hexec _ _ hrun, .inr ⟨v', _, rfl, rfl, by rw [RenS]; simp [Own.setR]⟩, ?_, setR_agree hk, hkeep2⟩
    have hbk : (ρ.setR id v').row id = v' := by simp [Own.setR]
    have hRr : ∀ k', st.hasR k' = true → (ρ.setR id v').row k' = ρ.row k' := fun k' hk' => by
      have : k' ≠ id := by rintro rfl; rw [hk] at hk'; cases hk'
      simp [Own.setR, this]
    have hone : v'.oneCell' = true := by
      rcases hown'.2 with ⟨rfl, _⟩ | ⟨g, cap, cur, rfl, _⟩ <;> rfl
    refine r.step [h'] [] [(id, ⟨e, R.t, R.l ++ l⟩)] [] hgr.os hgr.tape hgr.output hgr.size ?_ hkeep2 (fun _ h => h) (fun _ h => .inl h) (fun k' => ?_) hRr (fun _ _ => rfl) ?_ (fun p hp => by cases hp) ?_ ?_
    · intro b hlt _ hno
      exact hgr.block b hlt (fun e => hno ⟨_, hkey, e.symm⟩)
    · by_cases hh : k' = id
      · subst hh; rw [hbk]; exact hone
      · simp only [Own.setR, if_neg hh]; exact r.one k'
    · intro p hp
      rw [List.mem_singleton] at hp
      subst hp
      refine ⟨cs ++ news, ?_, RnL.imp (fun x c hx => Rn.move (fun _ h => h) hmem hx) hRnL⟩
      show World.ownsRow _ 0 e R.t.size ((ρ.setR id v').row id) (R.l ++ l).length _
      rw [hbk, List.length_append]
      exact hown'
    · intro y hy b hyb
      simp only [VState.keys, List.map_nil, List.append_nil, List.map_cons, List.mem_singleton] at hy
      subst hy
      simp only [blk, hbk] at hyb
      rcases hat with hat | hat
      · rw [hat] at hyb
        exact ⟨.inr ⟨_, hkey, hyb, .inl ⟨h', rfl, by simp⟩⟩, (r.mine _ hkey b hyb).2⟩
      · rw [hat] at hyb
        simp only [Option.some.injEq] at hyb
        subst hyb
        exact ⟨.inl (Nat.le_refl _), fun h => by have := (r.okb _ h).1; omega⟩
    · intro y hy z hz b _ _
      simp only [VState.keys, List.map_nil, List.append_nil, List.map_cons, List.mem_singleton] at hy hz
      rw [hy, hz]
  · -- onto nil
    rename_i e0 u hs
    split at h
    case h_2 => cases h
    have hsz := Nat.eq_of_beq_eq_true ‹Nat.beq ei.size u.size = true›
    obtain ⟨l, hl, e'⟩ := mapS h
    cases e'
    obtain ⟨A, cc, news, hx, hnews, hcell, hnil⟩ := readL_sound r hl
    have hzl : z.cells.size = ei.size := f.zs z hz
    have hnl := RnL.length (sz := u.size) (fun x cs hx => Rn.length hx) hnews
    have hlim : 0 + l.length ≤ LIM := by rw [Nat.zero_add]; exact hp.1
    obtain ⟨v', w', hrun, hown', hgr, hat⟩ := append_core (ty := o.type) (c := cc) f hz hund hsz (by rw [hzl, hsz]) (by omega) hby (World.ownsRow_nil w 0 e u.size) hnl hcell (fun e => by rw [hnil e]; rfl) (RnL.all (fun x c hx => Rn.one hx) hnews) hlim
    rw [← hx] at hrun
    rw [Nat.zero_add, List.nil_append] at hown'
    have hbel : Below w.heap.size w w' := ⟨hgr.os, hgr.tape, hgr.output, hgr.size, fun b hb => hgr.block b hb (by simp [Value.ownBlock])⟩
    obtain ⟨h1, h2⟩ := r.newRow (h := id) (e := e) (t := u) (l := l) (v := v') hbel hown' hnews hk (fun b hb => by
      rcases hat with hat | hat
      · rw [hat] at hb
        simp [Value.ownBlock] at hb
      · rw [hat] at hb
        simp only [Option.some.injEq] at hb
        omega)
    exact ⟨_, _, _, _, hexec _ _ hrun, .inr ⟨_, _, rfl, rfl, h2⟩, h1, setR_agree hk, keep_new r hbel⟩
  · cases h

/-- EVERY OPERATION BUT CALLS OF FUNCTIONS. -/
theorem veff_sound (hT : TOk P T) (r : Rel C ρ ok st a w) {o : Oper} {id : Nat} {E : Eff} (h : veff T st o id = some E) (hp : AllP E.ps) : Leaves P C ρ st E o a w := by
  have hpure : (vpure T st o).map (fun r => ({ ps := r.1, s := some r.2 } : Eff)) = some E → Leaves P C ρ st E o a w := by
    intro h
    obtain ⟨q, hq, e⟩ := mapS h
    subst e
    exact leaves_pure hT r hq hp
  cases ho : o.op
  case alloc => exact e_alloc hT r ho h hp
  case box => exact e_box hT r ho h hp
  case build => exact e_build hT r ho h hp
  case buildSlice => exact e_buildSlice hT r ho h hp
  case makeSlice => exact e_makeSlice hT r ho h hp
  case store => exact e_store hT r ho h hp
  case call c =>
    by_cases hc : c.callee = .builtin .append
    · exact e_append hT r ho hc h hp
    · refine hpure ?_
      unfold veff at h
      rw [ho] at h
      dsimp only at h
      split at h
      · rename_i h1
        exact absurd h1 hc
      · exact h
  all_goals
    refine hpure ?_
    unfold veff at h
    rw [ho] at h
    exact h
end
end Go.V
