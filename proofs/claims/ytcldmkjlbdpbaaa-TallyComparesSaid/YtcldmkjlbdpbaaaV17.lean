/- The value logic, part 17: loops, plain and in the machine. -/
import Derived.Test.YtcldmkjlbdpbaaaV16
set_option linter.unusedVariables false
set_option linter.unusedSimpArgs false
namespace Go.V
open Go.RowKit (Below)

/-- How a piece of code ends: it goes on, it leaves a loop, it returns. -/
inductive Out (σ τ ρ : Type) where
  | next (s : σ)
  | brk (t : τ)
  | ret (r : ρ)

/-- What goes on behind it. -/
def Out.go {σ τ ρ R : Type} (o : Out σ τ ρ) (n : σ → Option R) (b : τ → Option R) (r : ρ → Option R) : Option R :=
  match o with
  | .next s => n s
  | .brk t => b t
  | .ret x => r x

section
variable {σ τ ρ R : Type}
@[simp] theorem Out.go_next {s : σ} {n : σ → Option R} {b : τ → Option R} {r : ρ → Option R} : (Out.next s : Out σ τ ρ).go n b r = n s := rfl
@[simp] theorem Out.go_brk {t : τ} {n : σ → Option R} {b : τ → Option R} {r : ρ → Option R} : (Out.brk t : Out σ τ ρ).go n b r = b t := rfl
@[simp] theorem Out.go_ret {x : ρ} {n : σ → Option R} {b : τ → Option R} {r : ρ → Option R} : (Out.ret x : Out σ τ ρ).go n b r = r x := rfl

/-- So many rounds, from number i on. -/
def forR (body : Nat → σ → Option (Out σ τ ρ)) : Nat → Nat → σ → Option (Out σ τ ρ)
  | 0, _, s => some (.next s)
  | d + 1, i, s => (body i s).bind fun o => match o with
    | .next s' => forR body d (i + 1) s'
    | .brk t => some (.brk t)
    | .ret r => some (.ret r)

theorem forR_zero {body : Nat → σ → Option (Out σ τ ρ)} {i : Nat} {s : σ} : forR body 0 i s = some (.next s) := rfl
theorem forR_next {body : Nat → σ → Option (Out σ τ ρ)} {d i : Nat} {s s' : σ} (h : body i s = some (.next s')) : forR body (d + 1) i s = forR body d (i + 1) s' := by simp [forR, h]
theorem forR_brk {body : Nat → σ → Option (Out σ τ ρ)} {d i : Nat} {s : σ} {t : τ} (h : body i s = some (.brk t)) : forR body (d + 1) i s = some (.brk t) := by simp [forR, h]
theorem forR_ret {body : Nat → σ → Option (Out σ τ ρ)} {d i : Nat} {s : σ} {r : ρ} (h : body i s = some (.ret r)) : forR body (d + 1) i s = some (.ret r) := by simp [forR, h]
/-- Each round goes on, the states known by their numbers. -/
theorem forR_all {body : Nat → σ → Option (Out σ τ ρ)} (f : Nat → σ) : ∀ (d i : Nat), (∀ j, i ≤ j → j < i + d → body j (f j) = some (.next (f (j + 1)))) → forR body d i (f i) = some (.next (f (i + d)))
  | 0, i, _ => rfl
  | d + 1, i, h => by
    rw [forR_next (h i (Nat.le_refl _) (by omega)), forR_all f d (i + 1) (fun j h1 h2 => h j (by omega) (by omega)), show i + 1 + d = i + (d + 1) by omega]
/-- The rounds go on up to one that returns. -/
theorem forR_upto {body : Nat → σ → Option (Out σ τ ρ)} (f : Nat → σ) {o : Out σ τ ρ} : ∀ (d i k : Nat), i ≤ k → k < i + d → (∀ j, i ≤ j → j < k → body j (f j) = some (.next (f (j + 1)))) → body k (f k) = some o → (∀ s, o ≠ .next s) → forR body d i (f i) = some o
  | 0, i, k, h1, h2, _, _, _ => by omega
  | d + 1, i, k, h1, h2, h, hk, hn => by
    rcases Nat.eq_or_lt_of_le h1 with rfl | hlt
    · cases o with
      | next s => exact absurd rfl (hn s)
      | brk t => exact forR_brk hk
      | ret r => exact forR_ret hk
    · rw [forR_next (h i (Nat.le_refl _) hlt)]
      exact forR_upto f d (i + 1) k hlt (by omega) (fun j h1 h2 => h j (by omega) h2) hk hn
/-- What holds of the state at each round's head holds behind. -/
theorem forR_inv {body : Nat → σ → Option (Out σ τ ρ)} (I : Nat → σ → Prop) (Q : Out σ τ ρ → Prop) : ∀ (d i : Nat) (s : σ), I i s → (∀ j s, i ≤ j → j < i + d → I j s → ∃ o, body j s = some o ∧ match o with | .next s' => I (j + 1) s' | o => Q o) → (∀ s, I (i + d) s → Q (.next s)) →
    ∃ o, forR body d i s = some o ∧ Q o
  | 0, i, s, h, _, hq => ⟨_, rfl, hq s h⟩
  | d + 1, i, s, h, hs, hq => by
    obtain ⟨o, h1, h2⟩ := hs i s (Nat.le_refl _) (by omega) h
    cases o with
    | next s' =>
      rw [forR_next h1]
      exact forR_inv I Q d (i + 1) s' h2 (fun j s a b => hs j s (by omega) (by omega)) (fun s hh => hq s (by rwa [show i + 1 + d = i + (d + 1) by omega] at hh))
    | brk t => exact ⟨_, forR_brk h1, h2⟩
    | ret r => exact ⟨_, forR_ret h1, h2⟩

/-- Rounds without a number, at most so many. -/
def whF (body : σ → Option (Out σ τ ρ)) : Nat → σ → Option (Out σ τ ρ)
  | 0, _ => none
  | k + 1, s => (body s).bind fun o => match o with
    | .next s' => whF body k s'
    | .brk t => some (.brk t)
    | .ret r => some (.ret r)
theorem whF_more {body : σ → Option (Out σ τ ρ)} : ∀ {k : Nat} {s : σ} {o : Out σ τ ρ} (m : Nat), whF body k s = some o → whF body (k + m) s = some o
  | 0, s, o, m, h => by cases h
  | k + 1, s, o, m, h => by
    simp only [whF] at h
    rw [show k + 1 + m = (k + m) + 1 by omega]
    simp only [whF]
    cases hb : body s with
    | none => rw [hb] at h; cases h
    | some x =>
      rw [hb] at h
      cases x with
      | next s' => exact whF_more m h
      | brk t => exact h
      | ret r => exact h
/-- Rounds without a number. -/
noncomputable def wh (body : σ → Option (Out σ τ ρ)) (s : σ) : Option (Out σ τ ρ) := by
  classical exact if h : ∃ k o, whF body k s = some o then some (Classical.choose (Classical.choose_spec h)) else none
theorem wh_of {body : σ → Option (Out σ τ ρ)} {k : Nat} {s : σ} {o : Out σ τ ρ} (h : whF body k s = some o) : wh body s = some o := by
  have hex : ∃ k o, whF body k s = some o := ⟨k, o, h⟩
  unfold wh
  rw [dif_pos hex]
  have h2 := Classical.choose_spec (Classical.choose_spec hex)
  have e1 := whF_more (k := k) (Classical.choose hex) h
  have e2 := whF_more (k := Classical.choose hex) k h2
  rw [Nat.add_comm, e1] at e2
  exact congrArg some (Option.some.inj e2).symm
theorem wh_ex {body : σ → Option (Out σ τ ρ)} {s : σ} {o : Out σ τ ρ} (h : wh body s = some o) : ∃ k, whF body k s = some o := by
  unfold wh at h
  split at h
  · rename_i hex
    exact ⟨_, (Classical.choose_spec (Classical.choose_spec hex)).trans h⟩
  · cases h
theorem wh_next {body : σ → Option (Out σ τ ρ)} {s s' : σ} (h : body s = some (.next s')) : wh body s = wh body s' := by
  cases hw : wh body s' with
  | some o =>
    obtain ⟨k, hk⟩ := wh_ex hw
    exact wh_of (k := k + 1) (by simp [whF, h, hk])
  | none =>
    cases hs : wh body s with
    | none => rfl
    | some o =>
      obtain ⟨k, hk⟩ := wh_ex hs
      cases k with
      | zero => cases hk
      | succ k =>
        simp only [whF, h, Option.bind_some] at hk
        rw [wh_of hk] at hw
        cases hw
theorem wh_brk {body : σ → Option (Out σ τ ρ)} {s : σ} {t : τ} (h : body s = some (.brk t)) : wh body s = some (.brk t) := wh_of (k := 1) (by simp [whF, h])
theorem wh_ret {body : σ → Option (Out σ τ ρ)} {s : σ} {r : ρ} (h : body s = some (.ret r)) : wh body s = some (.ret r) := wh_of (k := 1) (by simp [whF, h])
/-- A loop ends: an invariant, a measure. -/
theorem wh_inv {body : σ → Option (Out σ τ ρ)} (I : σ → Prop) (m : σ → Nat) (Q : Out σ τ ρ → Prop) (h : ∀ s, I s → ∃ o, body s = some o ∧ match o with | .next s' => I s' ∧ m s' < m s | o => Q o) : ∀ s, I s → ∃ o, wh body s = some o ∧ Q o := by
  have key : ∀ n s, m s < n → I s → ∃ o, wh body s = some o ∧ Q o := by
    intro n
    induction n with
    | zero => intro s hs; omega
    | succ n ih =>
      intro s hs hi
      obtain ⟨o, h1, h2⟩ := h s hi
      cases o with
      | next s' =>
        rw [wh_next h1]
        exact ih s' (by omega) h2.1
      | brk t => exact ⟨_, wh_brk h1, h2⟩
      | ret r => exact ⟨_, wh_ret h1, h2⟩
  exact fun s hi => key (m s + 1) s (by omega) hi
end

section
variable {P : Program} {C : Ctx} {σ τ ρ : Type} {c : Code}

/-- A LOOP WITH A NUMBER OF ROUNDS: each round from state S i s does what the plain round does; behind the last one the code leaves. -/
theorem vwp_for {n : Nat} {body : Nat → σ → Option (Out σ τ ρ)} (S : Nat → σ → VState) (Post : Out σ τ ρ → Exit → VState → Prop)
    (hbody : ∀ i s o, i < n → body i s = some o → VWp P C c (S i s) fun e st' => match o with | .next s' => e = .normal ∧ st' = S (i + 1) s' | o => e ≠ .normal ∧ Post o e st')
    (hend : ∀ s, VWp P C c (S n s) fun e st' => e ≠ .normal ∧ Post (.next s) e st') :
    ∀ (d i : Nat) (s : σ) (o : Out σ τ ρ), i + d = n → forR body d i s = some o → VWp P C (.loop c) (S i s) (Post o) := by
  intro d i s o hd h
  refine vwp_loop (d + 1) ?_
  induction d generalizing i s with
  | zero =>
    cases h
    have hi : i = n := by omega
    subst hi
    refine (hend s).mono ?_
    rintro e st' ⟨h1, h2⟩
    cases e <;> first | exact h2 | exact absurd rfl h1
  | succ d ih =>
    simp only [forR] at h
    cases hb : body i s with
    | none => rw [hb] at h; cases h
    | some x =>
      rw [hb] at h
      refine (hbody i s x (by omega) hb).mono ?_
      intro e st' hq
      cases x with
      | next s' =>
        obtain ⟨rfl, rfl⟩ := hq
        exact ih (i + 1) s' (by omega) h
      | brk t =>
        cases h
        obtain ⟨h1, h2⟩ := hq
        cases e <;> first | exact h2 | exact absurd rfl h1
      | ret r =>
        cases h
        obtain ⟨h1, h2⟩ := hq
        cases e <;> first | exact h2 | exact absurd rfl h1

/-- A LOOP WITHOUT A NUMBER. -/
theorem vwp_wh {body : σ → Option (Out σ τ ρ)} (S : σ → VState) (Post : Out σ τ ρ → Exit → VState → Prop)
    (hbody : ∀ s o, body s = some o → VWp P C c (S s) fun e st' => match o with | .next s' => e = .normal ∧ st' = S s' | o => e ≠ .normal ∧ Post o e st') :
    ∀ (s : σ) (o : Out σ τ ρ), wh body s = some o → VWp P C (.loop c) (S s) (Post o) := by
  intro s o h
  obtain ⟨k, hk⟩ := wh_ex h
  refine vwp_loop k ?_
  clear h
  induction k generalizing s with
  | zero => cases hk
  | succ k ih =>
    simp only [whF] at hk
    cases hb : body s with
    | none => rw [hb] at hk; cases hk
    | some x =>
      rw [hb] at hk
      refine (hbody s x hb).mono ?_
      intro e st' hq
      cases x with
      | next s' =>
        obtain ⟨rfl, rfl⟩ := hq
        exact ih s' hk
      | brk t =>
        cases hk
        obtain ⟨h1, h2⟩ := hq
        cases e <;> first | exact h2 | exact absurd rfl h1
      | ret r =>
        cases hk
        obtain ⟨h1, h2⟩ := hq
        cases e <;> first | exact h2 | exact absurd rfl h1
end

/-! ### What a state tells without any test -/
section
variable {P : Program} {C : Ctx} {st : VState}

/-- A slice is no longer than memory bears. -/
theorem vwp_len {c : Code} {Q : Exit → VState → Prop} {k e : Nat} {t : Ty} {l : List t.D} (h : assoc k st.slots = some (.val (.sl e t) l)) (hw : l.length ≤ 9223372036854775807 → VWp P C c st Q) : VWp P C c st Q := by
  intro ρ ok a w r
  obtain ⟨v, hv, hs⟩ := r.slots _ (assoc_mem h)
  obtain ⟨A, n, rfl, h1, h2, _⟩ := inv_sl hs
  exact hw (by simp only [maxLen] at h2; omega) ρ ok a w r

theorem wrap_add (k : Nat) (h : k < 9223372036854775807) : IntKind.i64.wrap ((k : Int) + 1) = ((k + 1 : Nat) : Int) := by
  rw [IntKind.wrap_i64]
  omega
end
end Go.V
