/- The value logic, part 6: the operations that read alone give what part 5 says. -/
import Derived.Test.YtcldmkjlbdpbaaaV5
set_option linter.unusedVariables false
set_option linter.unusedSimpArgs false
namespace Go.V
open Go.RowKit (Below)

section
variable {C : Ctx} {ρ : Own} {ok : Nat → Prop} {st : VState} {a : Act} {w : World} {T : Nat → Option TI} {P : Program}

theorem bindS {α β : Type} {x : Option α} {f : α → Option β} {b : β} (h : x.bind f = some b) : ∃ y, x = some y ∧ f y = some b := by
  cases x with
  | none => cases h
  | some y => exact ⟨y, rfl, h⟩
theorem mapS {α β : Type} {x : Option α} {f : α → β} {b : β} (h : x.map f = some b) : ∃ y, x = some y ∧ f y = b := by
  cases x with
  | none => cases h
  | some y => exact ⟨y, rfl, Option.some.inj h⟩

theorem ren_int {k : IntKind} {n : Int} : RenS ρ ok w (.val (.int k) n) (.int k n) := by rw [RenS]; exact ⟨[_], rfl, rfl⟩
theorem ren_bool {b : Bool} : RenS ρ ok w (.val .bool b) (.bool b) := by rw [RenS]; exact ⟨[_], rfl, rfl⟩
theorem ren_str {s : ByteArray} : RenS ρ ok w (.val .str s) (.string s) := by rw [RenS]; exact ⟨[_], rfl, rfl⟩
theorem inv_int {k : IntKind} {n : Int} {v : Value} (h : RenS ρ ok w (.val (.int k) n) v) : v = .int k n := by
  rw [RenS] at h
  obtain ⟨cs, h1, rfl⟩ := h
  simp only [Rn] at h1
  subst h1
  rfl
theorem inv_bool {b : Bool} {v : Value} (h : RenS ρ ok w (.val .bool b) v) : v = .bool b := by
  rw [RenS] at h
  obtain ⟨cs, h1, rfl⟩ := h
  simp only [Rn] at h1
  subst h1
  rfl
theorem inv_str {s : ByteArray} {v : Value} (h : RenS ρ ok w (.val .str s) v) : v = .string s := by
  rw [RenS] at h
  obtain ⟨cs, h1, rfl⟩ := h
  simp only [Rn] at h1
  subst h1
  rfl
theorem inv_sl {e : Nat} {t : Ty} {l : List t.D} {v : Value} (h : RenS ρ ok w (.val (.sl e t) l) v) : ∃ A c, v = .slice A l.length c ∧ l.length ≤ c ∧ c ≤ maxLen ∧ Row0 ok w (Rn ok w t) t.size A l := by
  rw [RenS] at h
  obtain ⟨cs, h1, rfl⟩ := h
  obtain ⟨A, c, rfl, h2, h3, h4⟩ := h1
  exact ⟨A, c, rfl, h2, h3, h4⟩
theorem ren_sl {e : Nat} {t : Ty} {l : List t.D} {A : Option Addr} {c : Nat} (h2 : l.length ≤ c) (h3 : c ≤ maxLen) (h4 : Row0 ok w (Rn ok w t) t.size A l) : RenS ρ ok w (.val (.sl e t) l) (.slice A l.length c) := by
  rw [RenS]
  exact ⟨[_], ⟨A, c, rfl, h2, h3, h4⟩, rfl⟩

theorem evI_sound (r : Rel C ρ ok st a w) {x : Operand} {n : Int} (h : evI T st x = some n) : a.eval x = .int .i64 n := by
  unfold evI at h
  split at h
  · rename_i m hm
    cases h
    exact inv_int (ev_sound r hm)
  · cases h

theorem evO_sound (r : Rel C ρ ok st a w) {x : Option Operand} {n : Option Int} (h : evO T st x = some n) : x.map a.eval = n.map (Value.int .i64) := by
  cases x with
  | none => cases h; rfl
  | some x =>
    obtain ⟨m, hm, rfl⟩ := mapS h
    simp [evI_sound r hm]

theorem vint_sound {op : BinOp} {k : IntKind} {x y : Int} {ps : List Prop} {s : Slot} (hs : isShift op = false) (h : vint op k x y = some (ps, s)) (hp : AllP ps) (t : Nat) :
    ∃ v, (binOp op t (.int k x) (.int k y)).run P w = .ok v w ∧ RenS ρ ok w s v := by
  cases op <;> simp only [vint, Option.some.injEq, Prod.mk.injEq, reduceCtorEq] at h <;> try exact h.elim
  case quo | rem =>
    obtain ⟨rfl, rfl⟩ := h
    refine ⟨_, ?_, ren_int⟩
    have hy : ¬ y = 0 := hp.1
    simp [binOp, Op.intDiv, hy]
  all_goals first
    | (obtain ⟨rfl, rfl⟩ := h; refine ⟨_, ?_, ren_int⟩; simp [binOp, Op.intArith, Op.intBits]; done)
    | (obtain ⟨rfl, rfl⟩ := h; refine ⟨_, ?_, ren_bool⟩; simp [binOp, Op.intCmp]; done)

theorem vshift_sound {op : BinOp} {k k' : IntKind} {x y : Int} {ps : List Prop} {s : Slot} (h : vshift op k x y = some (ps, s)) (hp : AllP ps) (t : Nat) :
    ∃ v, (binOp op t (.int k x) (.int k' y)).run P w = .ok v w ∧ RenS ρ ok w s v := by
  cases op <;> simp only [vshift, Option.some.injEq, Prod.mk.injEq, reduceCtorEq] at h <;> try exact h.elim
  all_goals
    obtain ⟨rfl, rfl⟩ := h
    refine ⟨_, ?_, ren_int⟩
    have hy : ¬ y < 0 := by have := hp.1; omega
    simp [binOp, Op.shift, hy]

theorem vstr_sound {op : BinOp} {x y : ByteArray} {ps : List Prop} {s : Slot} (h : vstr op x y = some (ps, s)) (hp : AllP ps) (t : Nat) :
    ∃ v, (binOp op t (.string x) (.string y)).run P w = .ok v w ∧ RenS ρ ok w s v := by
  cases op <;> simp only [vstr, Option.some.injEq, Prod.mk.injEq, reduceCtorEq] at h <;> try exact h.elim
  case add =>
    obtain ⟨rfl, rfl⟩ := h
    refine ⟨_, ?_, ren_str⟩
    have hy : ¬ ((x.size + y.size : Nat) : Int) > IntKind.i64.max := by
      have := hp.1
      have e : IntKind.i64.max = 9223372036854775807 := by decide
      rw [e]
      omega
    simp only [binOp, Op.stringOp]
    rw [if_neg hy]
    rfl
  all_goals
    obtain ⟨rfl, rfl⟩ := h
    refine ⟨_, ?_, ren_bool⟩
    simp [binOp, Op.stringOp, bytes_eq, ltS, ← bytes_toList]

theorem guard_none {op : BinOp} {t : Nat} {x y : Operand} {v u : Value} (hv : (∀ cs, v ≠ .agg cs) ∧ v ≠ .nilIface) : (eqGuard op t x y v u).run P w = .ok () w := by
  cases v <;> first
    | exact absurd rfl (hv.1 _)
    | exact absurd rfl hv.2
    | (simp only [eqGuard]; cases op <;> rfl)

theorem run_desc {t : Nat} {i : TI} (hT : TOk P T) (h : T t = some i) : (underlying t).run P w = .ok i.desc w := run_und (hT t i h) w

theorem run_equal_bool {t : Nat} {x y : Bool} (h : (underlying t).run P w = .ok .bool w) : (Op.equal t (.bool x) (.bool y)).run P w = .ok (x == y) w := by
  show (Op.equalIn (9999 + 1) t (.bool x) (.bool y)).run P w = _
  rw [Op.equalIn]
  simp only [Sem.run_bind, h, Result.andThen_ok, Sem.run_pure]
theorem run_equal_ptr {t e : Nat} {b : Option Addr} (h : (underlying t).run P w = .ok (.pointer e) w) : (Op.equal t (.pointer none) (.pointer b)).run P w = .ok b.isNone w := by
  show (Op.equalIn (9999 + 1) t (.pointer none) (.pointer b)).run P w = _
  rw [Op.equalIn]
  simp only [Sem.run_bind, h, Result.andThen_ok, Sem.run_pure]
theorem run_equal_ptr2 {t e : Nat} {b : Addr} (h : (underlying t).run P w = .ok (.pointer e) w) : (Op.equal t (.pointer (some b)) (.pointer none)).run P w = .ok false w := by
  show (Op.equalIn (9999 + 1) t (.pointer (some b)) (.pointer none)).run P w = _
  rw [Op.equalIn]
  simp only [Sem.run_bind, h, Result.andThen_ok, Sem.run_pure]

/-! ### Loads -/
theorem ofCells {ad : Addr} {cs : List Value} (h : ∀ (j : Nat) (u : Value), cs[j]? = some u → w.cell? (ad.add j) = some u) (n : Nat) :
    ∀ (j : Nat) (u : Value), (cs.drop n)[j]? = some u → w.cell? (ad.add (n + j)) = some u := by
  intro j u hu
  rw [List.getElem?_drop] at hu
  exact h _ _ hu

theorem add_add (a : Addr) (i j : Nat) : (a.add i).add j = a.add (i + j) := by
  unfold Addr.add
  by_cases h1 : i = 0 <;> by_cases h2 : j = 0 <;> simp [h1, h2, Nat.add_assoc]

theorem cells_at (r : Rel C ρ ok st a w) {s : Slot} {v : Value} {ps : List Prop} {ss : List Slot} (h : cellsAt st s = some (ps, ss)) (hp : AllP ps) (hv : RenS ρ ok w s v) :
    ∃ ad cs, v = .pointer (some ad) ∧ RenCs ρ ok w ss cs ∧ ∀ (j : Nat) (u : Value), cs[j]? = some u → w.cell? (ad.add j) = some u := by
  unfold cellsAt at h
  split at h
  · cases h
    rw [RenS] at hv
    obtain ⟨ad, cs, e, _, h1, h2⟩ := hv
    exact ⟨ad, cs, e, h1, h2⟩
  · obtain ⟨B, hB, h⟩ := bindS h
    obtain ⟨l, hl, e⟩ := mapS h
    cases e
    obtain ⟨cs, hh, hc⟩ := r.boxes _ (assoc_mem hB)
    obtain ⟨hle, hd⟩ := dropC_sound hl hc
    rw [RenS] at hv
    refine ⟨_, _, hv, hd, fun j u hu => ?_⟩
    rw [List.getElem?_drop] at hu
    rename_i k off _
    have ha : (⟨ρ.box k, off, none⟩ : Addr).add j = ⟨ρ.box k, off + j, none⟩ := by unfold Addr.add; split <;> simp_all
    rw [ha, cell_of_row w _ _ _ _ _ hh]
    simpa using hu
  · rename_i h' sz i off
    obtain ⟨R, hR, h⟩ := bindS h
    split at h
    · rename_i hsz
      obtain ⟨l, hl, e⟩ := mapS h
      cases e
      have hsz := Nat.eq_of_beq_eq_true hsz
      obtain ⟨cs, ho, hc⟩ := r.rows _ (assoc_mem hR)
      have hi : i.toNat < R.l.length := hp.1
      rw [RenS] at hv
      obtain ⟨ad, n, c, hrow, e⟩ := hv
      have hlen := RnL.length (sz := R.t.size) (fun x cs hx => Rn.length hx) hc
      -- the element's cells
      have helem : ∀ {l : List R.t.D} {cs : List Value} (i : Nat), RnL (Rn ok w R.t) l cs → i < l.length → Rn ok w R.t (l.getD i R.t.zero) ((cs.drop (i * R.t.size)).take R.t.size) := by
        intro l
        induction l with
        | nil => intro cs i h hi; simp at hi
        | cons x l ih =>
          intro cs i h hi
          obtain ⟨c1, c2, rfl, h1, h2⟩ := h
          have hl1 := Rn.length h1
          cases i with
          | zero =>
            simp only [Nat.zero_mul, List.drop_zero, List.getD_cons_zero]
            rw [List.take_append, List.take_of_length_le (by omega), hl1, Nat.sub_self, List.take_zero, List.append_nil]
            exact h1
          | succ i =>
            rw [List.getD_cons_succ, Nat.add_mul, Nat.one_mul, List.drop_append, List.drop_eq_nil_of_le (by omega), List.nil_append, hl1, Nat.add_sub_cancel]
            exact ih i h2 (by simpa using hi)
      have he := helem i.toNat hc hi
      obtain ⟨hle, hd⟩ := dropC_sound hl (renCs_cellsOf he)
      refine ⟨_, _, e, hd, fun j u hu => ?_⟩
      have hblk : (ρ.row h').ownBlock = some ad.block := by rw [hrow]; rfl
      have hcell := ho.cells hblk (i.toNat * sz + off + j) u (by
        rw [List.getElem?_drop, List.getElem?_take] at hu
        split at hu
        · rw [List.getElem?_drop] at hu
          rw [← hu, hsz, Nat.add_assoc]
        · cases hu)
      rcases ho.2 with ⟨h0, _⟩ | ⟨g, cap, cur, h0, _⟩
      · rw [hrow] at h0; cases h0
      · rw [hrow] at h0
        cases h0
        have e1 : (⟨g, 0, none⟩ : Addr).add (i.toNat * sz + off + j) = ⟨g, i.toNat * sz + off + j, none⟩ := by unfold Addr.add; split <;> simp_all
        have e2 : (⟨g, 0 + (i.toNat * sz + off), none⟩ : Addr).add j = ⟨g, i.toNat * sz + off + j, none⟩ := by unfold Addr.add; split <;> simp_all
        rw [e1] at hcell
        rw [e2]
        exact hcell
    · cases h
  · cases h

theorem cell1_sound {s : Slot} {cs : List Value} (h1 : s.cell1 = true) (h : RenC ρ ok w s cs) : ∃ u, cs = [u] ∧ RenS ρ ok w s u := by
  cases s <;> simp only [Slot.cell1, Bool.not_eq_true', reduceCtorEq] at h1 <;> simp only [RenC] at h <;> simp only [RenS]
  case val t x =>
    have hl := Rn.length h
    have hs : t.size = 1 := by cases t <;> simp [Ty.isAgg, Ty.size] at h1 ⊢
    rw [hs] at hl
    obtain ⟨u, rfl⟩ := List.length_eq_one_iff.1 hl
    exact ⟨u, rfl, [u], h, by simp [mkv, h1]⟩
  case row => exact ⟨_, h, rfl⟩
  case box => exact ⟨_, h, rfl⟩
  case elt =>
    obtain ⟨a, n, c, g, e⟩ := h
    exact ⟨_, e, a, n, c, g, rfl⟩
  case ptr =>
    obtain ⟨ad, cs', e, g1, g2, g3⟩ := h
    exact ⟨_, e, ad, cs', rfl, g1, g2, g3⟩
  case fn =>
    obtain ⟨vs, e, g⟩ := h
    exact ⟨_, e, vs, rfl, g⟩
  case nilp => exact ⟨_, h, rfl⟩
  case nilf => exact ⟨_, h, rfl⟩

/-- One cell's slot says of the cell what it says of the value. -/
theorem cell1_back {s : Slot} {u : Value} (h1 : s.cell1 = true) (h : RenS ρ ok w s u) : RenC ρ ok w s [u] := by
  cases s <;> simp only [Slot.cell1, Bool.not_eq_true', reduceCtorEq] at h1 <;> simp only [RenS] at h <;> simp only [RenC]
  case val t x =>
    obtain ⟨cs, h, rfl⟩ := h
    have hl := Rn.length h
    have hs : t.size = 1 := by cases t <;> simp [Ty.isAgg, Ty.size] at h1 ⊢
    rw [hs] at hl
    obtain ⟨u, rfl⟩ := List.length_eq_one_iff.1 hl
    simpa [mkv, h1] using h
  case row => rw [h]
  case box => rw [h]
  case elt =>
    obtain ⟨a, n, c, g, rfl⟩ := h
    exact ⟨a, n, c, g, rfl⟩
  case ptr =>
    obtain ⟨ad, cs', rfl, g⟩ := h
    exact ⟨ad, cs', rfl, g⟩
  case fn =>
    obtain ⟨vs, rfl, g⟩ := h
    exact ⟨vs, rfl, g⟩
  case nilp => rw [h]
  case nilf => rw [h]

theorem vload_sound {i : TI} {ss : List Slot} {s : Slot} (h : vload i ss = some s) {cs : List Value} (hc : RenCs ρ ok w ss cs) :
    ∃ v, (if i.agg = true then v = .agg (cs.take i.size).toArray ∧ i.size ≤ cs.length else cs[0]? = some v) ∧ RenS ρ ok w s v := by
  unfold vload at h
  split at h
  · rename_i ha
    split at h
    · rename_i n t x hk
      cases h
      obtain ⟨h1, h2⟩ := takeC_sound hk hc
      refine ⟨.agg (cs.take i.size).toArray, by rw [if_pos ha]; exact ⟨rfl, h1⟩, ?_⟩
      rw [RenCs.single, RenC] at h2
      rw [RenS]
      exact ⟨_, h2, by simp [mkv, Ty.isAgg]⟩
    · rename_i l _ hk
      cases h
      obtain ⟨h1, h2⟩ := takeC_sound hk hc
      refine ⟨.agg (cs.take i.size).toArray, by rw [if_pos ha]; exact ⟨rfl, h1⟩, ?_⟩
      rw [RenS]
      exact ⟨_, h2, rfl⟩
    · cases h
  · rename_i ha
    split at h
    · split at h
      · rename_i h1
        cases h
        rw [RenCs] at hc
        obtain ⟨c1, c2, rfl, g1, g2⟩ := hc
        obtain ⟨u, rfl, hu⟩ := cell1_sound h1 g1
        exact ⟨u, by rw [if_neg (by simp [ha])]; simp, hu⟩
      · cases h
    · cases h

theorem part_sound (hT : TOk P T) {ft off : Nat} {fi : TI} (hfi : T ft = some fi) {ss l : List Slot} {s : Slot} (hl : dropC ss off = some l) (hs' : vload fi l = some s) {cs : List Value} (g1 : RenCs ρ ok w ss cs) :
    ∃ v, (part ft cs.toArray off).run P w = .ok v w ∧ RenS ρ ok w s v := by
  obtain ⟨hle, hd2⟩ := dropC_sound hl g1
  obtain ⟨v, hv, hs⟩ := vload_sound hs' hd2
  refine ⟨v, ?_, hs⟩
  simp only [part, Sem.run_bind, run_isAgg (hT _ _ hfi) w, Result.andThen_ok]
  split
  · rename_i ha
    rw [if_pos ha] at hv
    obtain ⟨rfl, h2⟩ := hv
    simp only [Sem.run_bind, run_size (hT _ _ hfi) w, Result.andThen_ok, Sem.run_pure]
    congr 2
    rw [List.extract_toArray, List.extract_eq_take_drop]
    simp
  · rename_i ha
    rw [if_neg ha] at hv
    rw [List.getElem?_drop] at hv
    simp only [List.getElem?_toArray]
    rw [show off + 0 = off from rfl] at hv
    rw [hv]
    rfl

theorem eqF_one {rec : Nat → Slot → Slot → Option Bool} {xs ys : List Slot} {f : Field} : eqF T rec xs ys [f] = (T f.type).bind fun fi => ((dropC xs f.offset).bind (vload fi)).bind fun a => ((dropC ys f.offset).bind (vload fi)).bind fun b => (rec f.type a b).bind fun r => some r := rfl
theorem eqF_more {rec : Nat → Slot → Slot → Option Bool} {xs ys : List Slot} {f g : Field} {gs : List Field} : eqF T rec xs ys (f :: g :: gs) = (T f.type).bind fun fi => ((dropC xs f.offset).bind (vload fi)).bind fun a => ((dropC ys f.offset).bind (vload fi)).bind fun b => (rec f.type a b).bind fun r => (eqF T rec xs ys (g :: gs)).map fun s => r && s := rfl

theorem eqF_sound (hT : TOk P T) {rec : Nat → Slot → Slot → Option Bool} {m : Nat} (hrec : ∀ t x y b v u, rec t x y = some b → RenS ρ ok w x v → RenS ρ ok w y u → (Op.equalIn m t v u).run P w = .ok b w) {xs ys : List Slot} {cs cs' : List Value}
    (hx : RenCs ρ ok w xs cs) (hy : RenCs ρ ok w ys cs') : ∀ (fs : List Field) {b : Bool}, (∀ f ∈ fs, f.name ≠ "_") → eqF T rec xs ys fs = some b → (Op.eqFields m cs.toArray cs'.toArray fs).run P w = .ok b w
  | [], b, _, h => by cases h; simp [Op.eqFields]
  | [f], b, hn, h => by
    rw [eqF_one] at h
    obtain ⟨fi, hfi, h⟩ := bindS h
    obtain ⟨p, hp, h⟩ := bindS h
    obtain ⟨q, hq, h⟩ := bindS h
    obtain ⟨r, hr, h⟩ := bindS h
    obtain ⟨l1, hl1, hp⟩ := bindS hp
    obtain ⟨l2, hl2, hq⟩ := bindS hq
    obtain ⟨v, hv, hvs⟩ := part_sound hT hfi hl1 hp hx
    obtain ⟨u, hu, hus⟩ := part_sound hT hfi hl2 hq hy
    have he := hrec _ _ _ _ _ _ hr hvs hus
    have hn' : f.name ≠ "_" := hn f (by simp)
    rw [Op.eqFields]
    simp only [if_pos hn', Sem.run_bind, hv, hu, he, Result.andThen_ok]
    have e := Option.some.inj h
    subst e
    cases r <;> simp [Op.eqFields]
  | f :: g :: gs, b, hn, h => by
    rw [eqF_more] at h
    obtain ⟨fi, hfi, h⟩ := bindS h
    obtain ⟨p, hp, h⟩ := bindS h
    obtain ⟨q, hq, h⟩ := bindS h
    obtain ⟨r, hr, h⟩ := bindS h
    obtain ⟨l1, hl1, hp⟩ := bindS hp
    obtain ⟨l2, hl2, hq⟩ := bindS hq
    obtain ⟨v, hv, hvs⟩ := part_sound hT hfi hl1 hp hx
    obtain ⟨u, hu, hus⟩ := part_sound hT hfi hl2 hq hy
    have he := hrec _ _ _ _ _ _ hr hvs hus
    have hn' : f.name ≠ "_" := hn f (by simp)
    obtain ⟨s, hs, e⟩ := mapS h
    subst e
    have ih := eqF_sound hT hrec hx hy (g :: gs) (fun f hf => hn f (List.mem_cons_of_mem _ hf)) hs
    rw [Op.eqFields]
    simp only [if_pos hn', Sem.run_bind, hv, hu, he, Result.andThen_ok]
    cases r
    · simp
    · simpa using ih

theorem eqS_sound (hT : TOk P T) : ∀ {d m : Nat} {t : Nat} {x y : Slot} {b : Bool} {v u : Value}, d ≤ m → eqS T d t x y = some b → RenS ρ ok w x v → RenS ρ ok w y u → (Op.equalIn m t v u).run P w = .ok b w
  | 0, m, t, x, y, b, v, u, _, h, _, _ => by cases h
  | d + 1, 0, t, x, y, b, v, u, hd, h, _, _ => by omega
  | d + 1, m + 1, t, x, y, b, v, u, hd, h, hv, hu => by
    unfold eqS at h
    obtain ⟨i, hi, h'⟩ := bindS h
    clear h
    have h := h'
    clear h'
    have hund := (hT _ _ hi).und
    split at h
    · rename_i hdsc
      cases h
      rw [hdsc] at hund
      obtain rfl := inv_bool hv
      obtain rfl := inv_bool hu
      exact run_equalIn_bool' w m t _ _ hund
    · rename_i hdsc
      rw [hdsc] at hund
      split at h
      · rename_i e
        subst e
        cases h
        obtain rfl := inv_int hv
        obtain rfl := inv_int hu
        exact run_equalIn_int w m t _ _ _ _ hund
      · cases h
    · rename_i hdsc
      cases h
      rw [hdsc] at hund
      obtain rfl := inv_str hv
      obtain rfl := inv_str hu
      rw [run_equalIn_string w m t _ _ hund, bytes_eq]
    · rename_i fs xs ys hdsc
      split at h
      · rename_i heq
        obtain ⟨g1, g2, g3⟩ := (hT _ _ hi).eqg heq
        rw [hdsc] at hund
        rw [RenS] at hv hu
        obtain ⟨cs, hcs, rfl⟩ := hv
        obtain ⟨cs', hcs', rfl⟩ := hu
        have hf : P.fieldsOf t = fs := by simp [Program.fieldsOf, hund]
        rw [run_equalIn_struct (P := P) w m t _ _ (by rw [hf]; exact hund) g1, hf]
        exact eqF_sound hT (fun t x y b v u hb hx hy => eqS_sound hT (by omega) hb hx hy) hcs hcs' fs.toList (g3 fs hdsc) h
      · cases h
    · cases h

theorem vbin_sound (hT : TOk P T) {op : BinOp} {t : Nat} {p q : Slot} {v u : Value} {x y : Operand} {ps : List Prop} {s : Slot} (h : vbin T op t p q = some (ps, s)) (hps : AllP ps)
    (hv : RenS ρ ok w p v) (hu : RenS ρ ok w q u) : ∃ z, (do eqGuard op t x y v u; binOp op t v u : Sem Value).run P w = .ok z w ∧ RenS ρ ok w s z := by
  unfold vbin at h
  split at h
  · rename_i k x k' y
    obtain rfl := inv_int hv
    obtain rfl := inv_int hu
    rw [Sem.run_bind, guard_none ⟨fun _ => by simp, by simp⟩, Result.andThen_ok]
    split at h
    · exact vshift_sound h hps t
    · rename_i hsf
      split at h
      · rename_i e
        subst e
        exact vint_sound hsf h hps t
      · cases h
  · obtain rfl := inv_str hv
    obtain rfl := inv_str hu
    rw [Sem.run_bind, guard_none ⟨fun _ => by simp, by simp⟩, Result.andThen_ok]
    exact vstr_sound h hps t
  · obtain rfl := inv_bool hv
    obtain rfl := inv_bool hu
    rw [Sem.run_bind, guard_none ⟨fun _ => by simp, by simp⟩, Result.andThen_ok]
    obtain ⟨i, hi, h⟩ := bindS h
    split at h <;> first | (cases h; done) | skip
    all_goals
      have hd := ‹i.desc = _›
      cases h
      refine ⟨_, ?_, ren_bool⟩
      have hr := run_desc (w := w) hT hi
      rw [hd] at hr
      simp only [binOp, Sem.run_bind, run_equal_bool hr, Result.andThen_ok, Sem.run_pure]
  · simp only [RenS] at hv hu
    subst hv; subst hu
    rw [Sem.run_bind, guard_none ⟨fun _ => by simp, by simp⟩, Result.andThen_ok]
    obtain ⟨i, hi, h⟩ := bindS h
    split at h <;> first | (cases h; done) | skip
    all_goals
      have hd := ‹i.desc = _›
      cases h
      refine ⟨_, ?_, ren_bool⟩
      have hr := run_desc (w := w) hT hi
      rw [hd] at hr
      simp only [binOp, Sem.run_bind, run_equal_ptr hr, Result.andThen_ok, Sem.run_pure]; rfl
  · simp only [RenS] at hv hu
    subst hv; subst hu
    rw [Sem.run_bind, guard_none ⟨fun _ => by simp, by simp⟩, Result.andThen_ok]
    obtain ⟨i, hi, h⟩ := bindS h
    split at h <;> first | (cases h; done) | skip
    all_goals
      have hd := ‹i.desc = _›
      cases h
      refine ⟨_, ?_, ren_bool⟩
      have hr := run_desc (w := w) hT hi
      rw [hd] at hr
      simp only [binOp, Sem.run_bind, run_equal_ptr2 hr, Result.andThen_ok, Sem.run_pure, Bool.not_false]
  · rename_i xs ys
    have hk : ∀ {b : Bool}, eqS T 16 t (.agg xs) (.agg ys) = some b → (Op.equal t v u).run P w = .ok b w ∧ (eqGuard op t x y v u).run P w = .ok () w := by
      intro b hb
      refine ⟨eqS_sound hT (d := 16) (m := 10000) (by decide) hb hv hu, ?_⟩
      rw [RenS] at hv hu
      obtain ⟨cs, _, rfl⟩ := hv
      obtain ⟨cs', _, rfl⟩ := hu
      unfold eqS at hb
      obtain ⟨i, hi, hb⟩ := bindS hb
      refine run_eqGuard_agg w op t x y _ _ ((hT _ _ hi).eqg ?_).2.1
      split at hb
      case h_4 =>
        split at hb
        · assumption
        · cases hb
      all_goals first
        | (rename_i h1 h2; cases h1; done)
        | (rename_i h1 h2 h3; cases h1; done)
        | (cases hb; done)
        | skip
    have hne : (∀ k n, v ≠ .int k n) ∧ ∃ cs, v = .agg cs := by
      rw [RenS] at hv
      obtain ⟨cs, _, rfl⟩ := hv
      exact ⟨(fun _ _ h => by cases h), _, rfl⟩
    have hne' : ∃ cs, u = .agg cs := by
      rw [RenS] at hu
      obtain ⟨cs, _, rfl⟩ := hu
      exact ⟨_, rfl⟩
    split at h
    · obtain ⟨b, hb, e⟩ := mapS h
      cases e
      obtain ⟨h1, h2⟩ := hk hb
      refine ⟨_, ?_, ren_bool⟩
      obtain ⟨_, cs, rfl⟩ := hne
      obtain ⟨cs', rfl⟩ := hne'
      rw [Sem.run_bind, h2, Result.andThen_ok]
      simp only [binOp, Sem.run_bind, h1, Result.andThen_ok, Sem.run_pure]
    · obtain ⟨b, hb, e⟩ := mapS h
      cases e
      obtain ⟨h1, h2⟩ := hk hb
      refine ⟨_, ?_, ren_bool⟩
      obtain ⟨_, cs, rfl⟩ := hne
      obtain ⟨cs', rfl⟩ := hne'
      rw [Sem.run_bind, h2, Result.andThen_ok]
      simp only [binOp, Sem.run_bind, h1, Result.andThen_ok, Sem.run_pure]
    · cases h
  · cases h
end
end Go.V
