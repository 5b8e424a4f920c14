/- The value logic, part 7: every operation that reads alone. -/
import Derived.Test.YtcldmkjlbdpbaaaV6
set_option linter.unusedVariables false
set_option linter.unusedSimpArgs false
namespace Go.V
open Go.RowKit (Below)

section
variable {C : Ctx} {ρ : Own} {ok : Nat → Prop} {st : VState} {a : Act} {w : World} {T : Nat → Option TI} {P : Program}

/-- The operation gives this value and turns nothing. -/
def Gives (P : Program) (a : Act) (w : World) (o : Oper) (v : Value) : Prop := (execOp a.eval o).run P w = .ok (.value v) w

theorem gives_of {o : Oper} {s : Sem Value} {v : Value} (h : execOp a.eval o = (do pure (.value (← s)))) (hs : s.run P w = .ok v w) : Gives P a w o v := by
  unfold Gives
  rw [h, Sem.run_bind, hs]
  rfl

theorem run_load {ad : Addr} {v : Value} (h : w.cell? ad = some v) : (Go.load ad).run P w = .ok v w := by
  simp [Go.load, Sem.run, h]

theorem run_loadVar (hT : TOk P T) {t : Nat} {i : TI} (hi : T t = some i) {ad : Addr} {cs : List Value} (hc : ∀ (j : Nat) (u : Value), cs[j]? = some u → w.cell? (ad.add j) = some u)
    {v : Value} (hv : if i.agg = true then v = .agg (cs.take i.size).toArray ∧ i.size ≤ cs.length else cs[0]? = some v) : (loadVar t ad).run P w = .ok v w := by
  have f := hT t i hi
  unfold loadVar
  rw [Sem.run_bind, run_isAgg f w, Result.andThen_ok]
  split
  · rename_i ha
    rw [if_pos ha] at hv
    obtain ⟨rfl, hl⟩ := hv
    have h1 := run_loadCells_list (P := P) (w := w) ad (cs.take i.size) (fun j u hu => by
      rw [List.getElem?_take] at hu
      split at hu
      · exact hc j u hu
      · cases hu)
    rw [List.length_take, Nat.min_eq_left hl] at h1
    simp only [Sem.run_bind, run_size f w, Result.andThen_ok, h1, Sem.run_pure]
  · rename_i ha
    rw [if_neg ha] at hv
    have := hc 0 v hv
    have e : ad.add 0 = ad := by simp [Addr.add]
    rw [e] at this
    exact run_load this

theorem p_load (hT : TOk P T) (r : Rel C ρ ok st a w) {o : Oper} {t : Nat} {x : Operand} (ho : o.op = .load t x) {ps : List Prop} {s : Slot}
    (h : ((T t).bind fun i => (ev T st 0 x).bind fun p => (cellsAt st p).bind fun q => (vload i q.2).map fun s => (q.1, s)) = some (ps, s)) (hp : AllP ps) :
    ∃ v, Gives P a w o v ∧ RenS ρ ok w s v := by
  obtain ⟨i, hi, h⟩ := bindS h
  obtain ⟨p, hpp, h⟩ := bindS h
  obtain ⟨⟨ps', ss⟩, hq, h⟩ := bindS h
  obtain ⟨s', hl, e⟩ := mapS h
  cases e
  obtain ⟨ad, cs, e, hc, hcc⟩ := cells_at r hq hp (ev_sound r hpp)
  obtain ⟨v, hv, hs⟩ := vload_sound hl hc
  refine ⟨v, gives_of (s := Instr.loadAt t (a.eval x)) (by simp [execOp, ho]) ?_, hs⟩
  simp only [Instr.loadAt, e, Instr.sureAddr, Sem.run_bind, Sem.run_pure, Result.andThen_ok]
  exact run_loadVar hT hi hcc hv

theorem run_fieldPlace {f : Field} {i : TI} (hf : TFact P f.type i) (hz : Nat.beq i.size 0 = false) (ad : Addr) : (fieldPlace ad f).run P w = .ok (ad.add f.offset) w := by
  unfold fieldPlace
  rw [Sem.run_bind, run_size hf w, Result.andThen_ok, if_neg (by intro h; rw [h] at hz; cases hz)]
  rfl

theorem add_lit0 (b o n : Nat) : (⟨b, o, none⟩ : Addr).add n = ⟨b, o + n, none⟩ := by unfold Addr.add; split <;> simp_all

theorem p_fieldAddr (hT : TOk P T) (r : Rel C ρ ok st a w) {o : Oper} {t : Nat} {x : Operand} {j : Nat} (ho : o.op = .fieldAddr t x j) {ps : List Prop} {s : Slot}
    (h : vpure T st o = some (ps, s)) (hp : AllP ps) : ∃ v, Gives P a w o v ∧ RenS ρ ok w s v := by
  unfold vpure at h
  rw [ho] at h
  obtain ⟨i, hi, h⟩ := bindS h
  obtain ⟨fs, hfs, h⟩ := bindS h
  obtain ⟨f, hf, h⟩ := bindS h
  obtain ⟨fi, hfi, h⟩ := bindS h
  have hd : i.desc = .struct fs := by
    unfold fieldsOf at hfs
    split at hfs
    · cases hfs; assumption
    · cases hfs
  have hu := run_desc (w := w) hT hi
  rw [hd] at hu
  split at h
  · cases h
  · rename_i hz
    have key : ∀ ad : Addr, a.eval x = .pointer (some ad) → Gives P a w o (.pointer (some (ad.add f.offset))) := by
      intro ad he
      refine gives_of (s := Instr.fieldAt t (a.eval x) j) (by simp [execOp, ho]) ?_
      simp only [Instr.fieldAt, Sem.run_bind, hu, Result.andThen_ok, hf, he, Instr.sureAddr, Sem.run_pure, run_fieldPlace (hT _ _ hfi) hz]
    split at h
    · rename_i k off hx
      cases h
      have he := ev_sound r hx
      rw [RenS] at he
      exact ⟨_, key _ he, by rw [RenS, add_lit0]⟩
    · rename_i h' sz n off hx
      cases h
      have he := ev_sound r hx
      rw [RenS] at he
      obtain ⟨ad, m, c, g, he⟩ := he
      exact ⟨_, key _ he, by rw [RenS]; exact ⟨ad, m, c, g, by rw [add_lit0]; simp only [Nat.add_assoc]⟩⟩
    · rename_i ss hx
      obtain ⟨l, hl, e⟩ := mapS h
      cases e
      have he := ev_sound r hx
      rw [RenS] at he
      obtain ⟨ad, cs, he, ho', g1, g2⟩ := he
      obtain ⟨hle, hd⟩ := dropC_sound hl g1
      refine ⟨_, key _ he, ?_⟩
      rw [RenS]
      refine ⟨_, _, rfl, ?_, hd, fun j u hu => ?_⟩
      · rcases ho' with rfl | ho'
        · left
          simp only [RenCs] at g1
          subst g1
          cases hoff : f.offset with
          | zero => rw [hoff] at hl; simpa [dropC] using hl.symm
          | succ n => rw [hoff] at hl; simp [dropC] at hl
        · right
          rw [add_block]
          exact ho'
      · rw [add_add]
        exact ofCells g2 _ j u hu
    · cases h

theorem p_field (hT : TOk P T) (r : Rel C ρ ok st a w) {o : Oper} {t : Nat} {x : Operand} {j : Nat} (ho : o.op = .field t x j) {ps : List Prop} {s : Slot}
    (h : vpure T st o = some (ps, s)) (hp : AllP ps) : ∃ v, Gives P a w o v ∧ RenS ρ ok w s v := by
  unfold vpure at h
  rw [ho] at h
  obtain ⟨i, hi, h⟩ := bindS h
  obtain ⟨fs, hfs, h⟩ := bindS h
  obtain ⟨f, hf, h⟩ := bindS h
  obtain ⟨fi, hfi, h⟩ := bindS h
  have hd : i.desc = .struct fs := by
    unfold fieldsOf at hfs
    split at hfs
    · cases hfs; assumption
    · cases hfs
  have hu := run_desc (w := w) hT hi
  rw [hd] at hu
  split at h
  · rename_i ss hx
    obtain ⟨l, hl, h⟩ := bindS h
    obtain ⟨s', hs', e⟩ := mapS h
    cases e
    have he := ev_sound r hx
    rw [RenS] at he
    obtain ⟨cs, g1, he⟩ := he
    obtain ⟨hle, hd2⟩ := dropC_sound hl g1
    obtain ⟨v, hv, hs⟩ := vload_sound hs' hd2
    refine ⟨v, gives_of (s := Instr.field t (a.eval x) j) (by simp [execOp, ho]) ?_, hs⟩
    simp only [Instr.field, Sem.run_bind, hu, Result.andThen_ok, hf, he, asAgg, Sem.run_pure, part, run_isAgg (hT _ _ hfi) w]
    split
    · rename_i ha
      rw [if_pos ha] at hv
      obtain ⟨rfl, h2⟩ := hv
      simp only [Sem.run_bind, run_size (hT _ _ hfi) w, Result.andThen_ok, Sem.run_pure]
      congr 2
      rw [List.extract_toArray, List.extract_eq_take_drop]
      simp
    · rename_i ha
      rw [if_neg ha] at hv
      rw [List.getElem?_drop] at hv
      simp only [List.getElem?_toArray]
      rw [show f.offset + 0 = f.offset from rfl] at hv
      rw [hv]
      rfl
  · cases h

theorem p_indexAddr (hT : TOk P T) (r : Rel C ρ ok st a w) {o : Oper} {t : Nat} {x n : Operand} (ho : o.op = .indexAddr t x n) {ps : List Prop} {s : Slot}
    (h : vpure T st o = some (ps, s)) (hp : AllP ps) : ∃ v, Gives P a w o v ∧ RenS ρ ok w s v := by
  unfold vpure at h
  rw [ho] at h
  obtain ⟨i, hi, h⟩ := bindS h
  split at h
  · rename_i len e hd
    obtain ⟨ei, hei, h⟩ := bindS h
    obtain ⟨m, hm, h⟩ := bindS h
    have hu := run_desc (w := w) hT hi
    rw [hd] at hu
    have hn := evI_sound r hm
    have key : ∀ ad : Addr, a.eval x = .pointer (some ad) → 0 ≤ m ∧ m < (len : Int) → Gives P a w o (.pointer (some (ad.add (m.toNat * ei.size)))) := by
      intro ad he' hb
      refine gives_of (s := Instr.indexAt t (a.eval x) (a.eval n)) (by simp [execOp, ho]) ?_
      simp only [Instr.indexAt, he', hn, asIntOf, Instr.sureAddr, Sem.run_bind, Sem.run_pure, Result.andThen_ok, hu, if_pos hb, run_size (hT _ _ hei) w]
    split at h
    · rename_i k off hx
      cases h
      have he := ev_sound r hx
      rw [RenS] at he
      exact ⟨_, key _ he hp.1, by rw [RenS, add_lit0]⟩
    · rename_i h' sz q off hx
      cases h
      have he := ev_sound r hx
      rw [RenS] at he
      obtain ⟨ad, mm, c, g, he⟩ := he
      exact ⟨_, key _ he hp.1, by rw [RenS]; exact ⟨ad, mm, c, g, by rw [add_lit0]; simp only [Nat.add_assoc]⟩⟩
    · rename_i ss hx
      split at h
      · rename_i hz
        have hz := Nat.eq_of_beq_eq_true hz
        cases h
        have he := ev_sound r hx
        have e0 : ∀ ad : Addr, ad.add 0 = ad := fun ad => by simp [Addr.add]
        have hg := fun ad h => key ad h hp.1
        rw [hz] at hg
        have hrs : RenS ρ ok w (.ptr ss) (a.eval x) := he
        rw [RenS] at he
        obtain ⟨ad, cs, e1, h2⟩ := he
        refine ⟨_, hg ad e1, ?_⟩
        rw [e0, ← e1]
        exact hrs
      · rename_i hz
        obtain ⟨l, hl, e⟩ := mapS h
        cases e
        have he := ev_sound r hx
        rw [RenS] at he
        obtain ⟨ad, cs, he, ho', g1, g2⟩ := he
        obtain ⟨hle, hd'⟩ := dropC_sound hl g1
        refine ⟨_, key _ he hp.1, ?_⟩
        rw [RenS]
        refine ⟨_, _, rfl, ?_, hd', fun j u hu => ?_⟩
        · rcases ho' with rfl | ho'
          · exfalso
            cases hoff : m.toNat * ei.size with
            | zero => rw [hoff] at hz; cases hz
            | succ n => rw [hoff] at hl; simp [dropC] at hl
          · right
            rw [add_block]
            exact ho'
        · rw [add_add]
          exact ofCells g2 _ j u hu
    · cases h
  obtain ⟨e, he, h⟩ := bindS h
  obtain ⟨ei, hei, h⟩ := bindS h
  obtain ⟨m, hm, h⟩ := bindS h
  have hd : i.desc = .slice e := by
    unfold elemOf at he
    split at he
    · cases he; assumption
    · cases he
  have hu := run_desc (w := w) hT hi
  rw [hd] at hu
  have hn := evI_sound r hm
  have key : ∀ (ad : Addr) (len c : Nat), a.eval x = .slice (some ad) len c → 0 ≤ m ∧ m < (len : Int) → Gives P a w o (.pointer (some (ad.add (m.toNat * ei.size)))) := by
    intro ad len c he' hb
    refine gives_of (s := Instr.indexAt t (a.eval x) (a.eval n)) (by simp [execOp, ho]) ?_
    simp only [Instr.indexAt, he', hn, asIntOf, Sem.run_bind, Sem.run_pure, Result.andThen_ok, hu, if_pos hb, run_size (hT _ _ hei) w]
  split at h
  · rename_i u l hx
    split at h
    · rename_i hsz
      cases h
      have hsz := Nat.eq_of_beq_eq_true hsz
      have hb := hp.1
      obtain ⟨A, c, hv, h1, h2, h3⟩ := inv_sl (ev_sound r hx)
      obtain ⟨ad, cs, rfl, hok, hR, hc⟩ := h3 m.toNat (l.getD m.toNat u.zero) (by rw [List.getD_eq_getElem?_getD, List.getElem?_eq_getElem (show m.toNat < l.length by omega)]; rfl)
      refine ⟨_, key _ _ _ hv hb, ?_⟩
      rw [RenS]
      refine ⟨_, cs, rfl, .inr (by rw [add_block]; exact hok), renCs_cellsOf hR, fun j v hv => ?_⟩
      rw [add_add, hsz]
      exact hc j v hv
    · cases h
  · rename_i h' hx
    obtain ⟨R, hR, h⟩ := bindS h
    split at h
    · rename_i hsz
      cases h
      have hsz := Nat.eq_of_beq_eq_true hsz
      have hb := hp.1
      obtain ⟨cs, ho', hc⟩ := r.rows _ (assoc_mem hR)
      have he' := ev_sound r hx
      rw [RenS] at he'
      rcases ho'.2 with ⟨h0, h00⟩ | ⟨g, cap, cur, h0, _⟩
      · have h00' : R.l.length = 0 := h00
        omega
      · rw [h0] at he'
        refine ⟨_, key _ _ _ he' hb, ?_⟩
        rw [RenS]
        exact ⟨_, _, _, h0, by rw [add_lit0]; simp⟩
    · cases h
  · cases h

theorem run_index_str {s : ByteArray} {m : Int} {t : Nat} (hu : (underlying t).run P w = .ok .string w) (hb : 0 ≤ m ∧ m < (s.size : Int)) : (Instr.index t (.string s) (.int .i64 m)).run P w = .ok (.int .u8 (byteAt s m.toNat)) w := by
  have hlt : m.toNat < s.size := by omega
  have e : s[m.toNat]? = some (s.data.toList.getD m.toNat 0) := by
    rw [getElem?_pos s m.toNat hlt]
    congr 1
    rw [List.getD_eq_getElem?_getD, List.getElem?_eq_getElem (by rw [Array.length_toList]; exact hlt)]
    simp
    rfl
  simp only [Instr.index, asIntOf, Sem.run_bind, Sem.run_pure, Result.andThen_ok, hu, if_pos hb.1, e]
  rfl

theorem p_index (hT : TOk P T) (r : Rel C ρ ok st a w) {o : Oper} {t : Nat} {x n : Operand} (ho : o.op = .index t x n) {ps : List Prop} {s : Slot}
    (h : vpure T st o = some (ps, s)) (hp : AllP ps) : ∃ v, Gives P a w o v ∧ RenS ρ ok w s v := by
  unfold vpure at h
  rw [ho] at h
  obtain ⟨i, hi, h⟩ := bindS h
  obtain ⟨m, hm, h⟩ := bindS h
  have hn := evI_sound r hm
  have hu := run_desc (w := w) hT hi
  split at h
  · rename_i str hd hx
    cases h
    rw [hd] at hu
    have he := inv_str (ev_sound r hx)
    refine ⟨_, gives_of (s := Instr.index t (a.eval x) (a.eval n)) (by simp [execOp, ho]) ?_, ren_int⟩
    rw [he, hn]
    exact run_index_str hu hp.1
  · rename_i len e ss hd hx
    obtain ⟨ei, hei, h⟩ := bindS h
    obtain ⟨l, hl, h⟩ := bindS h
    obtain ⟨s', hs', e'⟩ := mapS h
    cases e'
    rw [hd] at hu
    have he := ev_sound r hx
    rw [RenS] at he
    obtain ⟨cs, g1, he⟩ := he
    obtain ⟨v, hv, hs⟩ := part_sound hT hei hl hs' g1
    have hb := hp.1
    refine ⟨v, gives_of (s := Instr.index t (a.eval x) (a.eval n)) (by simp [execOp, ho]) ?_, hs⟩
    rw [he, hn]
    simp only [Instr.index, asIntOf, Sem.run_bind, Sem.run_pure, Result.andThen_ok, hu, if_pos hb, run_size (hT _ _ hei) w]
    exact hv
  · cases h

theorem p_extract (r : Rel C ρ ok st a w) {o : Oper} {x : Operand} {j : Nat} (ho : o.op = .extract x j) {ps : List Prop} {s : Slot}
    (h : vpure T st o = some (ps, s)) (hp : AllP ps) : ∃ v, Gives P a w o v ∧ RenS ρ ok w s v := by
  unfold vpure at h
  rw [ho] at h
  dsimp only at h
  split at h
  · rename_i ss hx
    obtain ⟨s', hs, e⟩ := mapS h
    cases e
    have he := ev_sound r hx
    rw [RenS] at he
    obtain ⟨vs, hvs, he⟩ := he
    have key : ∀ {ss : List Slot} {vs : List Value} {j : Nat}, RenVs ρ ok w ss vs → ss[j]? = some s → ∃ v, vs[j]? = some v ∧ RenS ρ ok w s v := by
      intro ss
      induction ss with
      | nil => intro vs j h1 h2; simp at h2
      | cons s' ss ih =>
        intro vs j h1 h2
        rw [RenVs] at h1
        obtain ⟨v, vs', rfl, g1, g2⟩ := h1
        cases j with
        | zero => simp at h2; subst h2; exact ⟨v, rfl, g1⟩
        | succ j => simpa using ih g2 (by simpa using h2)
    obtain ⟨v, hv, hR⟩ := key hvs hs
    refine ⟨v, gives_of (s := Instr.extract (a.eval x) j) (by simp [execOp, ho]) ?_, hR⟩
    simp [Instr.extract, he, hv]
  · cases h
end
end Go.V
