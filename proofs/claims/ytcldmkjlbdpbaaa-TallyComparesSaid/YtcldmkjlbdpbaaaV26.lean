/- The value logic, part 26: what the arguments of a claimed call hold. -/
import Derived.Test.YtcldmkjlbdpbaaaV25
import GoSem.ClaimChange
set_option linter.unusedVariables false
set_option linter.unusedSimpArgs false
namespace Go.V
open Go.RowKit (Below)

/-- The numbers are of their kinds, the lists fit memory. -/
def Fit : (t : Ty) → t.D → Prop
  | .int k, x => k.min ≤ x ∧ x ≤ k.max
  | .bool, _ => True
  | .str, s => s.size ≤ maxLen
  | .sl _ t, l => l.length ≤ maxLen ∧ ∀ x ∈ l, Fit t x
  | .st t, x => Fit t x
  | .pr a b, x => Fit a x.1 ∧ Fit b x.2
  | .arr _ t, l => ∀ x ∈ l, Fit t x

def hasFs (rec : Nat → Ty → Bool) : List Field → Nat → Ty → Bool
  | [], _, _ => false
  | [f], off, u => Nat.beq f.offset off && rec f.type u
  | f :: g :: gs, off, .pr a b => Nat.beq f.offset off && rec f.type a && hasFs rec (g :: gs) (off + a.size) b
  | _ :: _ :: _, _, _ => false
def hasN (rec : Ty → Bool) : Nat → Ty → Bool
  | 0, _ => false
  | 1, u => rec u
  | n + 2, .pr a b => rec a && hasN rec (n + 1) b
  | _ + 2, _ => false
/-- The type is laid out as that plain type. -/
def hasTy (T : Nat → Option TI) : Nat → Nat → Ty → Bool
  | 0, _, _ => false
  | d + 1, t, ty => match T t with
    | none => false
    | some i => Nat.beq i.size ty.size && match i.desc, ty with
      | .bool, .bool => true
      | .int k, .int k' => decide (k = k')
      | .string, .str => true
      | .slice e, .sl e' u => Nat.beq e e' && (hasTy T d e u && !Nat.beq u.size 0)
      | .struct fs, .st u => hasFs (hasTy T d) fs.toList 0 u
      | .array n e, .st u => hasN (hasTy T d e) n u
      | _, _ => false

section
variable {P : Program} {T : Nat → Option TI} {w : World}

theorem mapM_at {α β : Type} {f : α → Option β} : ∀ {l : List α} {r : List β}, l.mapM f = some r → r.length = l.length ∧ ∀ (i : Nat) (x : α), l[i]? = some x → ∃ y, f x = some y ∧ r[i]? = some y
  | [], r, h => by
    simp at h
    subst h
    exact ⟨rfl, fun i x hx => by simp at hx⟩
  | a :: l, r, h => by
    rw [List.mapM_cons] at h
    cases hfa : f a with
    | none => rw [hfa] at h; cases h
    | some b =>
      rw [hfa] at h
      cases hl : l.mapM f with
      | none => rw [hl] at h; cases h
      | some r' =>
        rw [hl] at h
        have e : r = b :: r' := (Option.some.inj h).symm
        subst e
        obtain ⟨h1, h2⟩ := mapM_at hl
        refine ⟨by simp [h1], fun i x hx => ?_⟩
        cases i with
        | zero =>
          simp at hx
          subst hx
          exact ⟨b, hfa, rfl⟩
        | succ i => simpa using h2 i x (by simpa using hx)

theorem cells_sound {base : Nat} {a : Addr} {n : Nat} {cs : List Value} (h : w.cells? base a n = some cs) : cs.length = n ∧ ∀ (j : Nat) (u : Value), cs[j]? = some u → w.cell? (a.add j) = some u := by
  unfold World.cells? at h
  split at h
  · obtain ⟨h1, h2⟩ := mapM_at h
    refine ⟨by simpa using h1, fun j u hu => ?_⟩
    have hj : j < n := by
      rcases Nat.lt_or_ge j n with h' | h'
      · exact h'
      · rw [List.getElem?_eq_none (by rw [h1]; simpa using h')] at hu; cases hu
    obtain ⟨y, hy, hr⟩ := h2 j j (by rw [List.getElem?_range hj])
    rw [hr] at hu
    cases hu
    exact hy
  · cases h

theorem size_eq (hT : TOk P T) {t : Nat} {i : TI} (hi : T t = some i) : P.cellsOf t = i.size := by
  obtain ⟨f, h1, h2, _⟩ := (hT t i hi).info
  simp [Program.cellsOf, h1, h2]

/-- A list out of what is there at each number. -/
theorem list_of {α : Type} (good : Nat → α → Prop) : ∀ n, (∀ i, i < n → ∃ x, good i x) → ∃ l : List α, l.length = n ∧ ∀ i x, l[i]? = some x → good i x
  | 0, _ => ⟨[], rfl, fun i x hx => by simp at hx⟩
  | n + 1, h => by
    obtain ⟨l, h1, h2⟩ := list_of good n (fun i hi => h i (by omega))
    obtain ⟨y, hy⟩ := h n (by omega)
    refine ⟨l ++ [y], by simp [h1], fun i x hx => ?_⟩
    rw [List.getElem?_append] at hx
    split at hx
    · exact h2 i x hx
    · rename_i hge
      have hi : i = n := by
        rcases Nat.lt_or_ge (i - l.length) 1 with h' | h'
        · omega
        · rw [List.getElem?_eq_none (by simpa using h')] at hx; cases hx
      subst hi
      simp [h1] at hx
      rw [← hx]
      exact hy

variable {H : Type} {enc : TypeId × Value → H} {base : Nat} {spare : Nat → Bool} {held : Bool}

def okW (w : World) (b : Nat) : Prop := b < w.heap.size

theorem fs_rn {fuel : Nat} {rec : Nat → Ty → Bool} (hrec : ∀ t ty cs D ps, rec t ty = true → cs.length = P.cellsOf t → DataW.trod enc P w base spare held fuel t cs = some (D, ps) → ∃ x : ty.D, Rn (okW w) w ty x cs ∧ Fit ty x)
    (hsz : ∀ t ty, rec t ty = true → P.cellsOf t = ty.size) {cs : List Value} : ∀ (fs : List Field) (off : Nat) (u : Ty), hasFs rec fs off u = true → off + u.size ≤ cs.length →
      (∀ f ∈ fs, ∃ y, DataW.trod enc P w base spare held fuel f.type ((cs.drop f.offset).take (P.cellsOf f.type)) = some y) → ∃ x : u.D, Rn (okW w) w u x ((cs.drop off).take u.size) ∧ Fit u x
  | [], off, u, h, _, _ => by simp [hasFs] at h
  | [f], off, u, h, hl, hf => by
    have h' : (Nat.beq f.offset off && rec f.type u) = true := by cases u <;> exact h
    rw [Bool.and_eq_true] at h'
    obtain ⟨h1, h2⟩ := h'
    have h1 := Nat.eq_of_beq_eq_true h1
    obtain ⟨⟨D, ps⟩, hy⟩ := hf f (by simp)
    have := hsz _ _ h2
    rw [h1, this] at hy
    refine hrec _ _ _ D ps h2 ?_ hy
    rw [this, List.length_take, List.length_drop]
    omega
  | f :: g :: gs, off, .pr a b, h, hl, hf => by
    have h' : (Nat.beq f.offset off && rec f.type a && hasFs rec (g :: gs) (off + a.size) b) = true := h
    rw [Bool.and_eq_true, Bool.and_eq_true] at h'
    obtain ⟨⟨h1, h2⟩, h3⟩ := h'
    have h1 := Nat.eq_of_beq_eq_true h1
    have hl' : off + (a.size + b.size) ≤ cs.length := hl
    obtain ⟨⟨D, ps⟩, hy⟩ := hf f (by simp)
    have hs := hsz _ _ h2
    rw [h1, hs] at hy
    obtain ⟨x, hx1, hx2⟩ := hrec _ _ _ D ps h2 (by rw [hs, List.length_take, List.length_drop]; omega) hy
    obtain ⟨y, hy1, hy2⟩ := fs_rn hrec hsz (g :: gs) (off + a.size) b h3 (by omega) (fun f hf' => hf f (List.mem_cons_of_mem _ hf'))
    refine ⟨(x, y), ⟨_, _, ?_, hx1, hy1⟩, hx2, hy2⟩
    show (cs.drop off).take (a.size + b.size) = _
    rw [List.take_add, List.drop_drop]
  | f :: g :: gs, off, .int k, h, hl, hf => by simp [hasFs] at h
  | f :: g :: gs, off, .bool, h, hl, hf => by simp [hasFs] at h
  | f :: g :: gs, off, .str, h, hl, hf => by simp [hasFs] at h
  | f :: g :: gs, off, .sl _ _, h, hl, hf => by simp [hasFs] at h
  | f :: g :: gs, off, .st _, h, hl, hf => by simp [hasFs] at h
  | f :: g :: gs, off, .arr _ _, h, hl, hf => by simp [hasFs] at h

theorem arr_rn {fuel e : Nat} {rec : Ty → Bool} (hrec : ∀ ty cs D ps, rec ty = true → cs.length = P.cellsOf e → DataW.trod enc P w base spare held fuel e cs = some (D, ps) → ∃ x : ty.D, Rn (okW w) w ty x cs ∧ Fit ty x)
    (hsz : ∀ ty, rec ty = true → P.cellsOf e = ty.size) {cs : List Value} : ∀ (n k : Nat) (u : Ty), hasN rec n u = true → k * P.cellsOf e + u.size ≤ cs.length →
      (∀ i, k ≤ i → i < k + n → ∃ y, DataW.trod enc P w base spare held fuel e ((cs.drop (i * P.cellsOf e)).take (P.cellsOf e)) = some y) → ∃ x : u.D, Rn (okW w) w u x ((cs.drop (k * P.cellsOf e)).take u.size) ∧ Fit u x
  | 0, k, u, h, _, _ => by simp [hasN] at h
  | 1, k, u, h, hl, hf => by
    have h' : rec u = true := by cases u <;> exact h
    obtain ⟨⟨D, ps⟩, hy⟩ := hf k (Nat.le_refl _) (by omega)
    have hs := hsz _ h'
    rw [hs] at hl
    have hy' := hy
    rw [show (List.drop (k * P.cellsOf e) cs).take (P.cellsOf e) = (List.drop (k * P.cellsOf e) cs).take u.size by rw [hs]] at hy'
    refine hrec _ _ D ps h' ?_ hy'
    rw [List.length_take, List.length_drop, hs]
    omega
  | n + 2, k, .pr a b, h, hl, hf => by
    have h' : (rec a && hasN rec (n + 1) b) = true := h
    rw [Bool.and_eq_true] at h'
    obtain ⟨h2, h3⟩ := h'
    have hl' : k * P.cellsOf e + (a.size + b.size) ≤ cs.length := hl
    obtain ⟨⟨D, ps⟩, hy⟩ := hf k (Nat.le_refl _) (by omega)
    have hs := hsz _ h2
    have hy' := hy
    rw [show (List.drop (k * P.cellsOf e) cs).take (P.cellsOf e) = (List.drop (k * P.cellsOf e) cs).take a.size by rw [hs]] at hy'
    obtain ⟨x, hx1, hx2⟩ := hrec _ _ D ps h2 (by rw [List.length_take, List.length_drop]; omega) hy'
    obtain ⟨y, hy1, hy2⟩ := arr_rn hrec hsz (n + 1) (k + 1) b h3 (by rw [Nat.add_mul, Nat.one_mul]; omega) (fun i h1 h2 => hf i (by omega) (by omega))
    refine ⟨(x, y), ⟨_, _, ?_, hx1, hy1⟩, hx2, hy2⟩
    show (cs.drop _).take (a.size + b.size) = _
    rw [List.take_add, List.drop_drop, Nat.add_mul, Nat.one_mul, hs]
  | n + 2, k, .int _, h, hl, hf => by simp [hasN] at h
  | n + 2, k, .bool, h, hl, hf => by simp [hasN] at h
  | n + 2, k, .str, h, hl, hf => by simp [hasN] at h
  | n + 2, k, .sl _ _, h, hl, hf => by simp [hasN] at h
  | n + 2, k, .st _, h, hl, hf => by simp [hasN] at h
  | n + 2, k, .arr _ _, h, hl, hf => by simp [hasN] at h

theorem hasTy_size (hT : TOk P T) {d t : Nat} {ty : Ty} (h : hasTy T d t ty = true) : P.cellsOf t = ty.size := by
  cases d with
  | zero => simp [hasTy] at h
  | succ d =>
    unfold hasTy at h
    split at h
    · cases h
    · rename_i i hi
      rw [Bool.and_eq_true] at h
      rw [size_eq hT hi]
      exact Nat.eq_of_beq_eq_true h.1

/-- WHAT CAN BE READ AS DATA READS AS A PLAIN VALUE. -/
theorem trod_rn (hT : TOk P T) : ∀ (fuel d t : Nat) (ty : Ty) (cs : List Value) (D : DataW H) (ps : List MemPlace), hasTy T d t ty = true → cs.length = P.cellsOf t → DataW.trod enc P w base spare held fuel t cs = some (D, ps) → ∃ x : ty.D, Rn (okW w) w ty x cs ∧ Fit ty x
  | 0, d, t, ty, cs, D, ps, _, _, h => by simp [DataW.trod] at h
  | fuel + 1, 0, t, ty, cs, D, ps, hh, _, _ => by simp [hasTy] at hh
  | fuel + 1, d + 1, t, ty, cs, D, ps, hh, hlen, h => by
    have hsize := hasTy_size hT hh
    unfold hasTy at hh
    split at hh
    · cases hh
    rename_i i hi
    rw [Bool.and_eq_true] at hh
    have hh2 := hh.2
    clear hh
    have hh := hh2
    clear hh2
    have hu := (hT t i hi).und
    unfold DataW.trod at h
    split at hh
    · rename_i hd
      rw [hd] at hu
      rw [hu] at h
      dsimp only at h
      split at h <;> try (simp_all; done)
      exact ⟨_, rfl, trivial⟩
    · rename_i k k' hd
      have hk := of_decide_eq_true hh
      subst hk
      rw [hd] at hu
      rw [hu] at h
      dsimp only at h
      split at h <;> try (simp_all; done)
      rename_i k2 n e
      simp only [Option.some.injEq, TypeDesc.int.injEq] at e
      subst e
      split at h
      · rename_i hc
        obtain ⟨rfl, hwf⟩ := hc
        refine ⟨n, rfl, ?_⟩
        have hwf' : k2.min ≤ n ∧ n ≤ k2.max := by simpa [Lit.wf] using hwf
        exact hwf'
      · cases h
    · rename_i hd
      rw [hd] at hu
      rw [hu] at h
      dsimp only at h
      split at h <;> try (simp_all; done)
      rename_i s e
      split at h
      · rename_i hc
        exact ⟨s, rfl, hc⟩
      · cases h
    · rename_i e e' u hd
      simp only [Bool.and_eq_true, Bool.not_eq_true'] at hh
      obtain ⟨he, hu2, hz⟩ := hh
      have he := Nat.eq_of_beq_eq_true he
      subst he
      have hz : u.size ≠ 0 := by intro e0; rw [e0] at hz; cases hz
      rw [hd] at hu
      rw [hu] at h
      have hes := hasTy_size hT hu2
      dsimp only at h
      split at h <;> try (simp_all; done)
      · exact ⟨[], ⟨none, 0, rfl, Nat.le_refl _, Nat.zero_le _, row0_nil⟩, Nat.zero_le _, fun x hx => by cases hx⟩
      · rename_i e2 a len cap ee
        simp only [Option.some.injEq, TypeDesc.slice.injEq] at ee
        subst ee
        split at h
        case isFalse => cases h
        rename_i hc
        obtain ⟨elems, hel, h⟩ := bindS h
        obtain ⟨_, hat⟩ := mapM_at hel
        obtain ⟨l, hl1, hl2⟩ := list_of (fun i (x : u.D) => ∃ cs, Rn (okW w) w u x cs ∧ Fit u x ∧ cs.length = u.size ∧ ∀ (j : Nat) (v : Value), cs[j]? = some v → w.cell? ((a.add (i * u.size)).add j) = some v) len (fun i hi' => by
          obtain ⟨y, hy, _⟩ := hat i i (by rw [List.getElem?_range hi'])
          obtain ⟨cs', hcs, hy⟩ := bindS hy
          obtain ⟨g1, g2⟩ := cells_sound hcs
          obtain ⟨x, hx1, hx2⟩ := trod_rn hT fuel d e u cs' y.1 y.2 hu2 g1 hy
          rw [hes] at g1 g2
          exact ⟨x, cs', hx1, hx2, g1, g2⟩)
        refine ⟨l, ⟨some a, cap, by rw [hl1], by omega, hc.2.2, ?_⟩, by omega, ?_⟩
        · intro i x hx
          obtain ⟨cs', h1, h2, h3, h4⟩ := hl2 i x hx
          have h0 : ∃ v, cs'[0]? = some v := ⟨cs'[0]'(by omega), List.getElem?_eq_getElem (by omega)⟩
          obtain ⟨v, hv⟩ := h0
          have hb := World.block_lt_of_cell? w _ (h4 0 v hv)
          rw [add_block, add_block] at hb
          refine ⟨a, cs', rfl, hb, h1, fun j v hv => ?_⟩
          rw [← add_add]
          exact h4 j v hv
        · intro x hx
          obtain ⟨i, hi2, rfl⟩ := List.getElem_of_mem hx
          obtain ⟨_, _, h2, _⟩ := hl2 i _ (List.getElem?_eq_getElem hi2)
          exact h2
    · rename_i fs u hd
      rw [hd] at hu
      rw [hu] at h
      dsimp only at h
      rw [if_pos hlen] at h
      obtain ⟨xs, hxs, _⟩ := mapS h
      obtain ⟨_, hat⟩ := mapM_at hxs
      have hsz' : P.cellsOf t = u.size := hsize
      have := fs_rn (P := P) (w := w) (enc := enc) (base := base) (spare := spare) (held := held) (fuel := fuel) (rec := hasTy T d) (fun t ty cs D ps h1 h2 h3 => trod_rn hT fuel d t ty cs D ps h1 h2 h3) (fun t ty h => hasTy_size hT h) (cs := cs) fs.toList 0 u hh (by omega) (fun f hf => by
        obtain ⟨j, hj, rfl⟩ := List.getElem_of_mem hf
        obtain ⟨y, hy, _⟩ := hat j _ (List.getElem?_eq_getElem hj)
        exact ⟨y, hy⟩)
      rw [List.drop_zero, ← hsz', ← hlen, List.take_length] at this
      exact this
    · rename_i n e u hd
      rw [hd] at hu
      rw [hu] at h
      dsimp only at h
      rw [if_pos hlen] at h
      obtain ⟨xs, hxs, _⟩ := mapS h
      obtain ⟨_, hat⟩ := mapM_at hxs
      have hsz' : P.cellsOf t = u.size := hsize
      have := arr_rn (P := P) (w := w) (enc := enc) (base := base) (spare := spare) (held := held) (fuel := fuel) (e := e) (rec := hasTy T d e) (fun ty cs D ps h1 h2 h3 => trod_rn hT fuel d e ty cs D ps h1 h2 h3) (fun ty h => hasTy_size hT h) (cs := cs) n 0 u hh (by omega) (fun i _ hi2 => by
        obtain ⟨y, hy, _⟩ := hat i i (by rw [List.getElem?_range (by omega)])
        exact ⟨y, hy⟩)
      rw [Nat.zero_mul, List.drop_zero, ← hsz', ← hlen, List.take_length] at this
      exact this
    · cases hh
end
end Go.V
