/- The value logic, part 20: regions that draw their order, the theorem. -/
import Derived.Test.YtcldmkjlbdpbaaaV19
set_option linter.unusedVariables false
set_option linter.unusedSimpArgs false
namespace Go.V
open Go.RowKit (Below)

/-- Operations that look at no memory. -/
def shallow : Op → Bool
  | .move _ | .assign _ | .pick .. | .extract .. | .build .. | .box .. | .fieldAddr .. | .makeFunc .. | .alloc .. => true
  | _ => false
def inL (l : List Nat) (k : Nat) : Bool := l.any fun h => Nat.beq h k
/-- The part of the state that an operation looks at. -/
def foot (st : VState) (ops : List Oper) (o : Oper) : VState :=
  let ks := (o.op.operands.toList.filterMap fun x => match x with | .tmp t => some t | _ => none) ++ (match o.guard with | some (j, _) => ((ops[j]?).bind (·.dst)).toList | none => [])
  let sl := st.slots.filter fun p => inL ks p.1
  match shallow o.op with
  | true => ⟨sl, [], []⟩
  | false =>
    let b0 := namesBs (sl.map (·.2))
    let b1 := b0 ++ (st.boxes.filter fun p => inL b0 p.1).flatMap fun p => namesBs p.2.2
    let b2 := b1 ++ (st.boxes.filter fun p => inL b1 p.1).flatMap fun p => namesBs p.2.2
    let bs := st.boxes.filter fun p => inL b2 p.1
    let r := namesRs (sl.map (·.2)) ++ bs.flatMap fun p => namesRs p.2.2
    ⟨sl, st.rows.filter fun p => inL r p.1, bs⟩
theorem foot_sub {st : VState} {ops : List Oper} {o : Oper} : Sub (foot st ops o) st := by
  unfold foot
  dsimp only
  split
  · exact ⟨fun p hp => (List.mem_filter.1 hp).1, fun p hp => (by cases hp), fun p hp => (by cases hp)⟩
  · exact ⟨fun p hp => (List.mem_filter.1 hp).1, fun p hp => (List.mem_filter.1 hp).1, fun p hp => (List.mem_filter.1 hp).1⟩

def preOf (acc : List Rec) : List Edge → Nat
  | [] => 0
  | e :: es => match Region.binds .any e with
    | true => Nat.lor (Nat.shiftLeft 1 e.on) (Nat.lor (match acc[e.on]? with | some y => y.pre | none => 0) (preOf acc es))
    | false => preOf acc es
theorem preOf_bit {acc : List Rec} {j : Nat} : ∀ {es : List Edge}, (preOf acc es).testBit j = true → ∃ e ∈ es, Region.binds .any e = true ∧ (e.on = j ∨ ∃ y, acc[e.on]? = some y ∧ y.pre.testBit j = true)
  | [], h => by simp [preOf] at h
  | e :: es, h => by
    rw [preOf] at h
    split at h
    · rename_i hb
      rw [bit_or, bit_or, bit_one] at h
      rcases h with h | h | h
      · exact ⟨e, List.mem_cons_self, hb, .inl h⟩
      · split at h
        · rename_i y hy
          exact ⟨e, List.mem_cons_self, hb, .inr ⟨y, hy, h⟩⟩
        · simp at h
      · obtain ⟨e', h1, h2, h3⟩ := preOf_bit h
        exact ⟨e', List.mem_cons_of_mem _ h1, h2, h3⟩
    · obtain ⟨e', h1, h2, h3⟩ := preOf_bit h
      exact ⟨e', List.mem_cons_of_mem _ h1, h2, h3⟩
def edgesLt (i : Nat) (es : List Edge) : Bool := es.all fun e => !Region.binds .any e || Nat.blt e.on i
def dstLt (n : Nat) : Option Nat → Bool
  | some d => Nat.blt d n
  | none => true

def vanyGo (P : Program) (T : Nat → Option TI) (n : Nat) (ops : List Oper) : Nat → List Oper → List (Nat × Ann) → List Rec → VState → Option (List Rec)
  | _, [], _, acc, _ => some acc
  | i, o :: os, anns, acc, st => match edgesLt i o.after.toList, dstLt n o.dst, guardOk ops (foot st ops o) o with
    | true, true, some false => vanyGo P T n ops (i + 1) os anns (acc ++ [⟨o, {}, false, foot st ops o, { ps := [], s := some (.tup []) }, preOf acc o.after.toList⟩]) (Rec.step ⟨o, {}, false, foot st ops o, { ps := [], s := some (.tup []) }, preOf acc o.after.toList⟩ st)
    | true, true, some true => (vop P T (foot st ops o) o ((assoc i anns).getD {})).bind fun E =>
        vanyGo P T n ops (i + 1) os anns (acc ++ [⟨o, (assoc i anns).getD {}, true, foot st ops o, E, preOf acc o.after.toList⟩]) (Rec.step ⟨o, (assoc i anns).getD {}, true, foot st ops o, E, preOf acc o.after.toList⟩ st)
    | _, _, _ => none

/-- A region that draws its order, and what is kept of the state behind it. -/
def vany (P : Program) (T : Nat → Option TI) (n : Nat) (ops : List Oper) (anns : List (Nat × Ann)) (ks rs bs : List Nat) (st : VState) : Option (List Prop × VState) :=
  (vanyGo P T n ops 0 ops anns [] st).bind fun xs => match pairsOk 0 xs, xs.all (selfOk st) with
    | true, true => ((steps xs st).keep ks rs bs).map fun s => (xs.flatMap (fun x => x.E.ps), s)
    | _, _ => none

structure GoodAt (P : Program) (T : Nat → Option TI) (n : Nat) (ops : List Oper) (st : VState) (xs : List Rec) (i : Nat) (x : Rec) : Prop where
  op : ops[i]? = some x.o
  sub : Sub x.fp (steps (xs.take i) st)
  gd : guardOk ops x.fp x.o = some x.g
  eff : x.g = true → vop P T x.fp x.o x.an = some x.E
  non : x.g = false → x.E = { ps := [], s := some (.tup []) }
  dst : dstLt n x.o.dst = true
  lt : edgesLt i x.o.after.toList = true
  pre : x.pre = preOf (xs.take i) x.o.after.toList

section
variable {C : Ctx} {ρ : Own} {ok : Nat → Prop} {st st' : VState} {a : Act} {w : World} {T : Nat → Option TI} {P : Program} {n : Nat}

theorem steps_append : ∀ (xs ys : List Rec) (st : VState), steps (xs ++ ys) st = steps ys (steps xs st)
  | [], ys, st => rfl
  | x :: xs, ys, st => steps_append xs ys (x.step st)

theorem good_more {ops : List Oper} {acc : List Rec} {x : Rec} (hg : ∀ i y, acc[i]? = some y → GoodAt P T n ops st acc i y) (hx : GoodAt P T n ops st acc acc.length x) :
    ∀ i y, (acc ++ [x])[i]? = some y → GoodAt P T n ops st (acc ++ [x]) i y := by
  intro i y hy
  rcases Nat.lt_trichotomy i acc.length with h | h | h
  · have ht : (acc ++ [x]).take i = acc.take i := by rw [List.take_append_of_le_length (by omega)]
    rw [List.getElem?_append_left h] at hy
    obtain ⟨h1, h2, h3, h4, h5, h6, h7, h8⟩ := hg i y hy
    exact ⟨h1, by rw [ht]; exact h2, h3, h4, h5, h6, h7, by rw [ht]; exact h8⟩
  · subst h
    have ht : (acc ++ [x]).take acc.length = acc.take acc.length := by rw [List.take_append_of_le_length (by omega)]
    simp at hy
    subst hy
    obtain ⟨h1, h2, h3, h4, h5, h6, h7, h8⟩ := hx
    exact ⟨h1, by rw [ht]; exact h2, h3, h4, h5, h6, h7, by rw [ht]; exact h8⟩
  · rw [List.getElem?_eq_none (by simp; omega)] at hy
    cases hy

theorem vanyGo_good {ops : List Oper} {st : VState} : ∀ (os : List Oper) (i : Nat) {anns : List (Nat × Ann)} {acc xs : List Rec} {sti : VState}, vanyGo P T n ops i os anns acc sti = some xs → acc.length = i → os = ops.drop i → sti = steps acc st →
    (∀ i y, acc[i]? = some y → GoodAt P T n ops st acc i y) → xs.length = i + os.length ∧ ∀ i y, xs[i]? = some y → GoodAt P T n ops st xs i y
  | [], i, anns, acc, xs, sti, h, hl, ho, hs, hg => by
    cases h
    exact ⟨by simp [hl], hg⟩
  | o :: os, i, anns, acc, xs, sti, h, hl, ho, hs, hg => by
    rw [vanyGo] at h
    have hoi : ops[i]? = some o := by
      have := congrArg (fun l => l[0]?) ho
      simp only [List.getElem?_cons_zero, List.getElem?_drop, Nat.add_zero] at this
      exact this.symm
    have hos : os = ops.drop (i + 1) := by
      have := congrArg List.tail ho
      simpa using this
    have htake : acc.take acc.length = acc := List.take_length
    split at h
    · rename_i h1 h2 h3
      have hx : GoodAt P T n ops st acc acc.length ⟨o, {}, false, foot sti ops o, { ps := [], s := some (.tup []) }, preOf acc o.after.toList⟩ := by
        refine ⟨by rw [hl]; exact hoi, by rw [htake, ← hs]; exact foot_sub, h3, (fun e => by cases e), fun _ => rfl, h2, by rw [hl]; exact h1, by rw [htake]⟩
      have := vanyGo_good os (i + 1) h (by simp [hl]) hos (by rw [steps_append, ← hs]; rfl) (good_more hg hx)
      exact ⟨by rw [this.1, List.length_cons]; omega, this.2⟩
    · rename_i h1 h2 h3
      obtain ⟨E, hE, h⟩ := bindS h
      have hx : GoodAt P T n ops st acc acc.length ⟨o, (assoc i anns).getD {}, true, foot sti ops o, E, preOf acc o.after.toList⟩ := by
        refine ⟨by rw [hl]; exact hoi, by rw [htake, ← hs]; exact foot_sub, h3, fun _ => hE, (fun e => by cases e), h2, by rw [hl]; exact h1, by rw [htake]⟩
      have := vanyGo_good os (i + 1) h (by simp [hl]) hos (by rw [steps_append, ← hs]; rfl) (good_more hg hx)
      exact ⟨by rw [this.1, List.length_cons]; omega, this.2⟩
    · cases h

def Lf (listed : Array Bool) (i : Nat) : Bool := listed.getD i false
theorem Lf_set {listed : Array Bool} {i : Nat} (hi : i < listed.size) (j : Nat) : Lf (listed.setIfInBounds i true) j = (Lf listed j || Nat.beq j i) := by
  unfold Lf
  simp only [Array.getD_eq_getD_getElem?]
  by_cases hji : j = i
  · subst hji
    rw [Array.getElem?_setIfInBounds_self_of_lt hi, Nat.beq_refl]
    simp
  · have hb : Nat.beq j i = false := by
      rw [← Bool.not_eq_true]
      exact fun h => hji (Nat.eq_of_beq_eq_true h)
    rw [Array.getElem?_setIfInBounds_ne (fun h => hji h.symm), hb, Bool.or_false]

theorem mem_ready {ops : Array Oper} {listed : Array Bool} {i : Nat} (hsz : listed.size = ops.size) : i ∈ Region.ready .any ops listed ↔ i < ops.size ∧ Lf listed i = false ∧ ∃ o, ops[i]? = some o ∧ ∀ e ∈ o.after, Region.binds .any e = true → Lf listed e.on = true := by
  unfold Region.ready
  rw [List.mem_filter, List.mem_range]
  constructor
  · rintro ⟨h1, h2⟩
    rw [Bool.and_eq_true] at h2
    obtain ⟨h2, h3⟩ := h2
    have ho : ops[i]? = some ops[i] := Array.getElem?_eq_getElem h1
    rw [ho] at h3
    simp only [Option.map_some, Option.getD_some, Array.all_eq_true_iff_forall_mem, Bool.or_eq_true, Bool.not_eq_true'] at h3
    refine ⟨h1, ?_, _, ho, fun e he hb => ?_⟩
    · simp only [Lf, Array.getD_eq_getD_getElem?] at h2 ⊢
      rw [Array.getElem?_eq_getElem (by omega)] at h2 ⊢
      simpa using h2
    · rcases h3 e he with h | h
      · rw [hb] at h; cases h
      · exact h
  · rintro ⟨h1, h2, o, h3, h4⟩
    refine ⟨h1, ?_⟩
    rw [Bool.and_eq_true]
    refine ⟨?_, ?_⟩
    · simp only [Lf, Array.getD_eq_getD_getElem?] at h2 ⊢
      rw [Array.getElem?_eq_getElem (by omega)] at h2 ⊢
      simpa using h2
    · rw [h3]
      simp only [Option.map_some, Option.getD_some, Array.all_eq_true_iff_forall_mem, Bool.or_eq_true, Bool.not_eq_true']
      intro e he
      by_cases hb : Region.binds .any e = true
      · exact .inr (h4 e he hb)
      · exact .inl (by simpa using hb)

def cnt (n : Nat) (listed : Array Bool) : Nat := ((List.range n).filter fun i => !Lf listed i).length
theorem cnt_set {n : Nat} {listed : Array Bool} {i : Nat} (hi : i < n) (hsz : listed.size = n) (hl : Lf listed i = false) : cnt n (listed.setIfInBounds i true) < cnt n listed := by
  unfold cnt
  have : ((List.range n).filter fun k => !Lf (listed.setIfInBounds i true) k) = ((List.range n).filter fun k => !Lf listed k).filter fun k => !Nat.beq k i := by
    rw [List.filter_filter]
    refine List.filter_congr fun k _ => ?_
    rw [Lf_set (by omega)]
    cases Lf listed k <;> cases Nat.beq k i <;> rfl
  rw [this, List.length_filter_lt_length_iff_exists]
  exact ⟨i, List.mem_filter.2 ⟨List.mem_range.2 hi, by simp [hl]⟩, by simp⟩

theorem sub_step {x : Rec} : Sub (x.step st) ((st.after x.E).put x.o.dst x.E.s) := by
  have hk : ∀ {α : Type} (ks : List Nat) (l : List (Nat × α)), dropK ks l = l.filter fun p => !ks.any (fun h => Nat.beq h p.1) := fun _ _ => rfl
  have hrb : ((st.after x.E).put x.o.dst x.E.s).rows = (x.step st).rows ∧ ((st.after x.E).put x.o.dst x.E.s).boxes = (x.step st).boxes := by
    cases x.o.dst <;> cases x.E.s <;> exact ⟨rfl, rfl⟩
  refine ⟨fun p hp => ?_, fun p hp => by rw [hrb.1]; exact hp, fun p hp => by rw [hrb.2]; exact hp⟩
  have hp' : p ∈ x.nS ++ dropK x.kS st.slots := hp
  unfold Rec.nS Rec.kS at hp'
  cases hd : x.o.dst with
  | none =>
    rw [hd] at hp'
    rcases List.mem_append.1 hp' with h | h
    · cases h
    · have : p ∈ st.slots := (mem_dropK.1 h).1
      cases x.E.s <;> exact this
  | some d =>
    rw [hd] at hp'
    have hdrop : p ∈ dropK [d] st.slots → p ∈ st.slots.filter fun p => !Nat.beq p.1 d := by
      intro h
      obtain ⟨h1, h2⟩ := mem_dropK.1 h
      refine List.mem_filter.2 ⟨h1, ?_⟩
      rw [Bool.not_eq_true', ← Bool.not_eq_true]
      exact fun e => h2 (List.mem_singleton.2 (Nat.eq_of_beq_eq_true e))
    cases hs : x.E.s with
    | none =>
      rw [hs] at hp'
      rcases List.mem_append.1 hp' with h | h
      · cases h
      · exact hdrop h
    | some s =>
      rw [hs] at hp'
      rcases List.mem_append.1 hp' with h | h
      · rw [List.mem_singleton] at h
        rw [h]
        exact List.mem_cons_self
      · exact List.mem_cons_of_mem _ (hdrop h)

theorem Rel.sub (r : Rel C ρ ok st a w) (h : Sub st' st) : Rel C ρ ok st' a w := r.less h.slots h.rows h.boxes

/-- THE REGION: whatever order is drawn. -/
theorem wpAny_of (hT : TOk P T) (hn : C.n = n) {ops : Array Oper} {xs : List Rec} (hlen : xs.length = ops.size) (good : ∀ i y, xs[i]? = some y → GoodAt P T n ops.toList st xs i y) (hpairs : pairsOk 0 xs = true) (hself : xs.all (selfOk st) = true)
    (hps : ∀ x ∈ xs, AllP x.E.ps) {Q : Exit → Act → World → Prop} (hQ : ∀ ρ ok a w, Rel C ρ ok (steps xs st) a w → Q .normal a w) : ∀ (fuel : Nat) (listed : Array Bool) (ρ : Own) (ok : Nat → Prop) (a : Act) (w : World),
    listed.size = ops.size → (∀ i x, xs[i]? = some x → Lf listed i = true → ∀ j, x.pre.testBit j = true → Lf listed j = true) → cnt ops.size listed ≤ fuel → Rel C ρ ok (layAll (Lf listed) xs st) a w → wpAny P .any ops Q fuel listed a w := by
  have hall : ∀ (listed : Array Bool) ρ ok a w, (∀ i, i < ops.size → Lf listed i = true) → Rel C ρ ok (layAll (Lf listed) xs st) a w → Q .normal a w := by
    intro listed ρ ok a w hL r
    have key : ∀ {α : Type} {K : Rec → List Nat} {N : Rec → List (Nat × α)} (comp : VState → List (Nat × α)) (hc : ∀ (x : Rec) st, comp (x.step st) = N x ++ dropK (K x) (comp st)), ∀ p ∈ comp (steps xs st), p ∈ lay K N (Lf listed) 0 xs (comp st) := by
      intro α K N comp hc p hp
      rw [lay_true comp hc _ 0, mem_lay] at hp
      rw [mem_lay]
      rcases hp with ⟨h1, h2⟩ | ⟨j, x, h1, h2, h3, h4⟩
      · exact .inl ⟨h1, fun j x hx _ => h2 j x hx rfl⟩
      · refine .inr ⟨j, x, h1, ?_, h3, fun j' x' h5 h6 _ => h4 j' x' h5 h6 rfl⟩
        rw [Nat.zero_add]
        exact hL j (by rw [← hlen]; exact (List.getElem?_eq_some_iff.1 h1).1)
    exact hQ ρ ok a w (r.sub ⟨key (·.slots) (fun _ _ => rfl), key (·.rows) (fun _ _ => rfl), key (·.boxes) (fun _ _ => rfl)⟩)
  have hnone : ∀ (listed : Array Bool), listed.size = ops.size → Region.ready .any ops listed = [] → ∀ i, i < ops.size → Lf listed i = true := by
    intro listed hsz hr i
    induction i using Nat.strongRecOn with
    | _ i ih =>
      intro hi
      rcases Bool.eq_false_or_eq_true (Lf listed i) with h | h
      · exact h
      · exfalso
        have hx : ∃ x, xs[i]? = some x := ⟨xs[i], List.getElem?_eq_getElem (by omega)⟩
        obtain ⟨x, hx⟩ := hx
        have hg := good i x hx
        have hm : i ∈ Region.ready .any ops listed := by
          refine (mem_ready hsz).2 ⟨hi, h, x.o, by rw [← Array.getElem?_toList]; exact hg.op, fun e he hb => ?_⟩
          have hl := hg.lt
          unfold edgesLt at hl
          rw [List.all_eq_true] at hl
          have h1 := hl e (Array.mem_toList_iff.2 he)
          rw [hb] at h1
          have h2 : e.on < i := by simpa [Nat.blt_eq] using h1
          exact ih e.on h2 (by omega)
        rw [hr] at hm
        cases hm
  intro fuel
  induction fuel with
  | zero =>
    intro listed ρ ok a w hsz hcl hc r
    have hL : ∀ i, i < ops.size → Lf listed i = true := by
      intro i hi
      have h0 : ((List.range ops.size).filter fun i => !Lf listed i) = [] := List.eq_nil_of_length_eq_zero (by unfold cnt at hc; omega)
      rw [List.filter_eq_nil_iff] at h0
      simpa using h0 i (List.mem_range.2 hi)
    refine ⟨?_, hall listed ρ ok a w hL r⟩
    rw [List.eq_nil_iff_forall_not_mem]
    intro i hi
    obtain ⟨h1, h2, _⟩ := (mem_ready hsz).1 hi
    rw [hL i h1] at h2
    cases h2
  | succ fuel ih =>
    intro listed ρ ok a w hsz hcl hc r
    refine ⟨fun hr => hall listed ρ ok a w (hnone listed hsz hr) r, fun i hi => ?_⟩
    obtain ⟨hlt, hnl, o, ho, hed⟩ := (mem_ready hsz).1 hi
    have hx : ∃ x, xs[i]? = some x := ⟨xs[i], List.getElem?_eq_getElem (by omega)⟩
    obtain ⟨x, hx⟩ := hx
    have hg := good i x hx
    have hox : x.o = o := by
      have := hg.op
      rw [Array.getElem?_toList, ho] at this
      cases this
      rfl
    -- what is before it in each order is listed
    have hpre : ∀ j, x.pre.testBit j = true → Lf listed j = true := by
      intro j hj
      rw [hg.pre] at hj
      obtain ⟨e, he, hb, hcase⟩ := preOf_bit hj
      have hon := hed e (by rw [← hox]; exact Array.mem_toList_iff.1 he) hb
      rcases hcase with rfl | ⟨y, hy, hyj⟩
      · exact hon
      · rw [List.getElem?_take] at hy
        split at hy
        · exact hcl _ y hy hon j hyj
        · cases hy
    have hLL := Lf_set (listed := listed) (i := i) (by omega)
    -- conflicts
    have before : ∀ j y, j < i → xs[j]? = some y → Lf listed j = false → (noneOf y.wS x.rS = true ∧ noneOf y.wR x.rR = true ∧ noneOf y.wB x.rB = true) := by
      intro j y hj hy hlj
      have hp := pairsOk_at hpairs hj hy hx
      rw [Nat.zero_add] at hp
      unfold pairOk at hp
      simp only [Bool.and_eq_true, Bool.or_eq_true] at hp
      rcases hp.1.1 with h | h
      · rw [hpre j h] at hlj; cases hlj
      · exact ⟨h.1.1.1.1.1.1.1.1.1.1, h.1.1.1.1.1.1.1.2, h.1.1.1.1.2⟩
    have behind : ∀ j y, i < j → xs[j]? = some y → Lf listed j = true → (noneOf x.wS y.wS = true ∧ noneOf x.rS y.wS = true ∧ noneOf x.wR y.wR = true ∧ noneOf x.rR y.wR = true ∧ noneOf x.wB y.wB = true ∧ noneOf x.rB y.wB = true ∧ noneOf x.fR y.uR = true ∧ noneOf x.fB y.uB = true) := by
      intro j y hj hy hlj
      have hp := pairsOk_at hpairs hj hx hy
      rw [Nat.zero_add] at hp
      unfold pairOk at hp
      simp only [Bool.and_eq_true, Bool.or_eq_true] at hp
      rcases hp.1.1 with h | h
      · rw [hcl j y hy hlj i h] at hnl; cases hnl
      · exact ⟨h.1.1.1.1.1.1.1.1.1.2, h.1.1.1.1.1.1.1.1.2, h.1.1.1.1.1.1.2, h.1.1.1.1.1.2, h.1.1.1.2, h.1.1.2, h.1.2, h.2⟩
    have ahead : ∀ j y, j < i → xs[j]? = some y → noneOf x.fR y.uR = true ∧ noneOf x.fB y.uB = true := by
      intro j y hj hy
      have hp := pairsOk_at hpairs hj hy hx
      unfold pairOk at hp
      simp only [Bool.and_eq_true] at hp
      exact ⟨hp.1.2, hp.2⟩
    have hsx : selfOk st x = true := by
      rw [List.all_eq_true] at hself
      exact hself x (List.mem_of_getElem? hx)
    unfold selfOk at hsx
    simp only [Bool.and_eq_true, List.all_eq_true, Bool.not_eq_true', Bool.or_eq_true, any_beq'] at hsx
    obtain ⟨⟨⟨⟨⟨s1, s2⟩, s3⟩, s4⟩, s5⟩, s6⟩ := hsx
    -- its part stands
    have hsub : Sub x.fp (layAll (Lf listed) xs st) := by
      have bef : ∀ j y, j < i → xs[j]? = some y → (∃ k, k ∈ y.kS ∧ k ∈ keysOf x.fp.slots ∨ (k ∈ y.E.dr ++ keysOf y.E.nr ∧ k ∈ keysOf x.fp.rows) ∨ (k ∈ y.E.db ++ keysOf y.E.nb ∧ k ∈ keysOf x.fp.boxes)) → Lf listed j = true := by
        rintro j y hj hy ⟨k, hk⟩
        rcases Bool.eq_false_or_eq_true (Lf listed j) with h | h
        · exact h
        · exfalso
          obtain ⟨h1, h2, h3⟩ := before j y hj hy h
          rcases hk with ⟨a1, a2⟩ | ⟨a1, a2⟩ | ⟨a1, a2⟩
          · exact noneOf_mask h1 a1 a2
          · exact noneOf_mask h2 a1 a2
          · exact noneOf_mask h3 a1 a2
      refine ⟨fun p hp => ?_, fun p hp => ?_, fun p hp => ?_⟩
      · have hk : p.1 ∈ keysOf x.fp.slots := List.mem_map.2 ⟨p, hp, rfl⟩
        refine read_lay (K := Rec.kS) (N := Rec.nS) (·.slots) (fun _ _ => rfl) hnl (hg.sub.slots p hp) (fun j y hj hy hpN => bef j y hj hy ⟨p.1, .inl ⟨?_, hk⟩⟩) (fun j y hj hy hl hpK => noneOf_mask (behind j y hj hy hl).2.1 hk hpK)
        unfold Rec.nS at hpN
        unfold Rec.kS
        split at hpN
        · rename_i d s e1 e2
          rw [List.mem_singleton] at hpN
          rw [e1, hpN]
          exact List.mem_singleton.2 rfl
        · cases hpN
      · have hk : p.1 ∈ keysOf x.fp.rows := List.mem_map.2 ⟨p, hp, rfl⟩
        refine read_lay (K := fun x => x.E.dr) (N := fun x => x.E.nr) (·.rows) (fun _ _ => rfl) hnl (hg.sub.rows p hp) (fun j y hj hy hpN => bef j y hj hy ⟨p.1, .inr (.inl ⟨?_, hk⟩)⟩) (fun j y hj hy hl hpK => noneOf_mask (behind j y hj hy hl).2.2.2.1 hk (List.mem_append.2 (.inl hpK)))
        exact List.mem_append.2 (.inr (List.mem_map.2 ⟨p, hpN, rfl⟩))
      · have hk : p.1 ∈ keysOf x.fp.boxes := List.mem_map.2 ⟨p, hp, rfl⟩
        refine read_lay (K := fun x => x.E.db) (N := fun x => x.E.nb) (·.boxes) (fun _ _ => rfl) hnl (hg.sub.boxes p hp) (fun j y hj hy hpN => bef j y hj hy ⟨p.1, .inr (.inr ⟨?_, hk⟩)⟩) (fun j y hj hy hl hpK => noneOf_mask (behind j y hj hy hl).2.2.2.2.2.1 hk (List.mem_append.2 (.inl hpK)))
        exact List.mem_append.2 (.inr (List.mem_map.2 ⟨p, hpN, rfl⟩))
    -- behind it
    have hnext : Sub (layAll (Lf (listed.setIfInBounds i true)) xs st) (x.step (layAll (Lf listed) xs st)) := by
      refine ⟨fun p hp => ?_, fun p hp => ?_, fun p hp => ?_⟩
      · refine write_lay (K := Rec.kS) (N := Rec.nS) hx hnl hLL hp fun j y hj hy hl hpN hpK => ?_
        refine noneOf_mask (behind j y hj hy hl).1 hpK ?_
        unfold Rec.nS at hpN
        unfold Rec.kS
        split at hpN
        · rename_i d s e1 e2
          rw [List.mem_singleton] at hpN
          rw [e1, hpN]
          exact List.mem_singleton.2 rfl
        · cases hpN
      · exact write_lay (K := fun x => x.E.dr) (N := fun x => x.E.nr) hx hnl hLL hp fun j y hj hy hl hpN hpK => noneOf_mask (behind j y hj hy hl).2.2.1 (List.mem_append.2 (.inl hpK)) (List.mem_append.2 (.inr (List.mem_map.2 ⟨p, hpN, rfl⟩)))
      · exact write_lay (K := fun x => x.E.db) (N := fun x => x.E.nb) hx hnl hLL hp fun j y hj hy hl hpN hpK => noneOf_mask (behind j y hj hy hl).2.2.2.2.1 (List.mem_append.2 (.inl hpK)) (List.mem_append.2 (.inr (List.mem_map.2 ⟨p, hpN, rfl⟩)))
    have hcl' : ∀ k y, xs[k]? = some y → Lf (listed.setIfInBounds i true) k = true → ∀ j, y.pre.testBit j = true → Lf (listed.setIfInBounds i true) j = true := by
      intro k y hy hk j hj
      rw [hLL] at hk ⊢
      rw [Bool.or_eq_true] at hk ⊢
      rcases hk with hk | hk
      · exact .inl (hcl k y hy hk j hj)
      · rw [Nat.eq_of_beq_eq_true hk, hx] at hy
        cases hy
        exact .inl (hpre j hj)
    have hcnt : cnt ops.size (listed.setIfInBounds i true) ≤ fuel := by
      have := cnt_set hlt hsz hnl
      omega
    have hsz' : (listed.setIfInBounds i true).size = ops.size := by simp [hsz]
    have hw := guardOk_sound (r.sub hsub) hg.gd
    have hd : (match x.o.dst with | some d => Nat.blt d C.n | none => true) = true := by
      rw [hn]
      have := hg.dst
      unfold dstLt at this
      split at this <;> simp_all
    unfold wpOp
    rw [ho]
    dsimp only
    rw [← hox]
    cases hgx : x.g with
    | false =>
      rw [hgx] at hw
      rw [if_neg (by rw [hw]; simp)]
      refine ih _ ρ ok _ _ hsz' hcl' hcnt (Rel.sub ?_ hnext)
      have hE := hg.non hgx
      have hput := (r.put (d := x.o.dst) hd (s := some (.tup [])) (v := undef) (fun _ e => by cases e; exact ren_undef))
      refine hput.sub ⟨fun p hp => ?_, fun p hp => ?_, fun p hp => ?_⟩
      · have h1 := (sub_step (x := x) (st := layAll (Lf listed) xs st)).slots p hp
        rw [hE] at h1
        cases hdx : x.o.dst <;> rw [hdx] at h1 <;> exact h1
      · have h1 : p ∈ x.E.nr ++ dropK x.E.dr (layAll (Lf listed) xs st).rows := hp
        rw [hE] at h1
        have h2 := (mem_dropK.1 (by simpa using h1)).1
        cases x.o.dst <;> exact h2
      · have h1 : p ∈ x.E.nb ++ dropK x.E.db (layAll (Lf listed) xs st).boxes := hp
        rw [hE] at h1
        have h2 := (mem_dropK.1 (by simpa using h1)).1
        cases x.o.dst <;> exact h2
    | true =>
      rw [hgx] at hw
      rw [if_pos hw]
      refine .inl ?_
      have hfits : Fits x.fp (layAll (Lf listed) xs st) x.E := by
        refine ⟨fun h hh => ?_, fun h hh => ?_, fun h hh => ?_, fun h hh => ?_, fun h h1 h2 => ?_, fun h h1 h2 => ?_⟩
        · rcases Bool.eq_false_or_eq_true (x.fp.hasR h) with hf | hf
          · exact .inl hf
          · refine .inr ?_
            have hnew : h ∈ x.newR := List.mem_filter.2 ⟨hh, by simp [hf]⟩
            rw [← Bool.not_eq_true]
            intro hS
            rcases layAll_hasR hS with h1 | ⟨j, y, hy, hlj, hu⟩
            · rw [s1 h hnew] at h1; cases h1
            · rcases Nat.lt_trichotomy j i with hj | hj | hj
              · exact noneOf_mask (ahead j y hj hy).1 hnew hu
              · rw [hj, hnl] at hlj; cases hlj
              · exact noneOf_mask (behind j y hj hy hlj).2.2.2.2.2.2.1 hnew hu
        · rcases Bool.eq_false_or_eq_true (x.fp.hasB h) with hf | hf
          · exact .inl hf
          · refine .inr ?_
            have hnew : h ∈ x.newB := List.mem_filter.2 ⟨hh, by simp [hf]⟩
            rw [← Bool.not_eq_true]
            intro hS
            rcases layAll_hasB hS with h1 | ⟨j, y, hy, hlj, hu⟩
            · rw [s2 h hnew] at h1; cases h1
            · rcases Nat.lt_trichotomy j i with hj | hj | hj
              · exact noneOf_mask (ahead j y hj hy).2 hnew hu
              · rw [hj, hnl] at hlj; cases hlj
              · exact noneOf_mask (behind j y hj hy hlj).2.2.2.2.2.2.2 hnew hu
        · exact s3 h (useR_of (hh.imp id .inl))
        · exact s4 h (useB_of (hh.imp id .inl))
        · rcases s5 h h1 with h3 | h3
          · rw [any_beq'.2 h2] at h3; cases h3
          · exact h3
        · rcases s6 h h1 with h3 | h3
          · rw [any_beq'.2 h2] at h3; cases h3
          · exact h3
      refine vop_frame hT r hsub (hg.eff hgx) (hps x (List.mem_of_getElem? hx)) hfits _ _ (fun v ρ' ok' w' hs hR _ _ => ih _ ρ' ok' _ _ hsz' hcl' hcnt (Rel.sub ?_ hnext))
      exact (hR.put hd hs).sub sub_step

/-- A REGION THAT DRAWS. -/
theorem vwp_any (hT : TOk P T) (hm : P.follows .mixedOrders = true) {n : Nat} (hn : C.n = n) {id : Nat} {l : List Oper} {anns : List (Nat × Ann)} {ks rs bs : List Nat} {ps : List Prop} {Q : Exit → VState → Prop}
    (h : vany P T n l anns ks rs bs st = some (ps, st')) (hp : AllP ps) (hq : Q .normal st') : VWp P C (.region id l.toArray true) st Q := by
  intro ρ ok a w r
  obtain ⟨xs, hxs, h⟩ := bindS h
  split at h
  case h_2 => cases h
  rename_i h1 h2
  obtain ⟨s, hs, e⟩ := mapS h
  cases e
  refine wp_region_any hm ?_
  have hgood := vanyGo_good (st := st) l 0 hxs rfl rfl rfl (fun i y hy => by simp at hy)
  have hps : ∀ x ∈ xs, AllP x.E.ps := by
    intro x hx
    have : ∀ (l : List Rec), AllP (l.flatMap fun x => x.E.ps) → ∀ x ∈ l, AllP x.E.ps := by
      intro l
      induction l with
      | nil => intro _ x hx; cases hx
      | cons y l ih =>
        intro hh x hx
        rw [List.flatMap_cons, allP_append] at hh
        rcases List.mem_cons.1 hx with rfl | hx
        · exact hh.1
        · exact ih hh.2 x hx
    exact this xs hp x hx
  have r0 : Rel C ρ ok st a { w with drawn := w.drawn + 1 } := r.mono ⟨rfl, rfl, rfl, Nat.le_refl _, fun _ _ => rfl⟩
  have hL : ∀ i, Lf (Array.replicate l.toArray.size false) i = false := by
    intro i
    simp [Lf, Array.getD_eq_getD_getElem?, Array.getElem?_replicate]
    split <;> simp
  refine wpAny_of hT hn (ops := l.toArray) (xs := xs) (st := st) (by rw [hgood.1]; simp) (by simpa using hgood.2) h1 h2 hps
    (fun ρ' ok' a' w' r' => ⟨ρ', ok', st', r'.kept hs, hq⟩) _ _ ρ ok a _ (by simp) (fun i x _ hl => by rw [hL] at hl; cases hl) (by unfold cnt; exact Nat.le_trans (List.length_filter_le _ _) (by simp)) (r0.sub ?_)
  have key : ∀ {α : Type} {K : Rec → List Nat} {N : Rec → List (Nat × α)} (l0 : List (Nat × α)), ∀ p ∈ lay K N (Lf (Array.replicate l.toArray.size false)) 0 xs l0, p ∈ l0 := by
    intro α K N l0 p hp
    rw [mem_lay] at hp
    rcases hp with ⟨h1, _⟩ | ⟨j, x, _, h2, _⟩
    · exact h1
    · rw [hL] at h2; cases h2
  exact ⟨key _, key _, key _⟩
end
end Go.V
