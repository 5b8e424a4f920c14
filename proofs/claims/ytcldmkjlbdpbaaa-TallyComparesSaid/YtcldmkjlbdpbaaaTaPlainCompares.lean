/- TallyCompares, the plain law: for all fractions the two ways to compare them agree, and the known example stands. -/
import Derived.Test.YtcldmkjlbdpbaaaTaF1
import Derived.KernelRfl
set_option linter.unusedVariables false
namespace Go.V.Ta

theorem f86_of {a b g : Int} {k : Nat} (h : whF F86_b1 k (a, b) = some (.brk g)) (hg : g ≠ 0) : F86 (a, b) = some (iquo .i64 a g, iquo .i64 b g) := by
  unfold F86
  rw [wh_of h]
  simp [Out.fin, hg]
theorem f86_11 : F86 (1, 1) = some (1, 1) := f86_of (k := 3) (g := 1) (by kernel_rfl) (by decide)
theorem f86_42 : F86 (4, 2) = some (2, 1) := f86_of (k := 3) (g := 2) (by kernel_rfl) (by decide)
theorem f86_46 : F86 (4, 6) = some (2, 3) := f86_of (k := 5) (g := 2) (by kernel_rfl) (by decide)
theorem f86_56 : F86 (5, 6) = some (5, 6) := f86_of (k := 5) (g := 1) (by kernel_rfl) (by decide)

theorem f87_21 : F87 2 1 = some 2 := by
  have e : F87_b4 2 0 1 = some (.next 2) := by
    unfold F87_b4
    rw [show F86 (1, ((0 + 1 : Nat) : Int)) = some (1, 1) from f86_11]
    rfl
  unfold F87
  rw [show (imin 1 (isub .i64 2 1)).toNat = 1 from rfl, forR_next e]
  rfl
theorem f87_42 : F87 4 2 = some 6 := by
  have e : F87_b4 4 0 1 = some (.next 4) := by
    unfold F87_b4
    rw [show F86 (1, ((0 + 1 : Nat) : Int)) = some (1, 1) from f86_11]
    rfl
  have e2 : F87_b4 4 1 4 = some (.next 6) := by
    unfold F87_b4
    rw [show F86 (4, ((1 + 1 : Nat) : Int)) = some (2, 1) from f86_42]
    rfl
  unfold F87
  rw [show (imin 2 (isub .i64 4 2)).toNat = 2 from rfl, forR_next e, forR_next e2]
  rfl
theorem f87_22 : F87 2 2 = some 1 := by rfl
theorem f87_20 : F87 2 0 = some 1 := by rfl
theorem f70_1 : F70 (1, 1, 1, 1) = some (4, 6) := by
  unfold F70
  rw [show F87 (iadd .i64 1 1) 1 = some 2 from f87_21]
  simp only [Option.bind_some]
  rw [show F87 (iadd .i64 (iadd .i64 (iadd .i64 1 1) 1) 1) (iadd .i64 1 1) = some 6 from f87_42]
  rfl
theorem f70_2 : F70 (2, 0, 0, 2) = some (1, 6) := by
  unfold F70
  rw [show F87 (iadd .i64 2 0) 2 = some 1 from f87_22]
  simp only [Option.bind_some]
  rw [show F87 (iadd .i64 0 2) 0 = some 1 from f87_20]
  simp only [Option.bind_some]
  rw [show F87 (iadd .i64 (iadd .i64 (iadd .i64 2 0) 0) 2) (iadd .i64 2 0) = some 6 from f87_42]
  rfl
theorem f71_1 : F71 (1, 1, 1, 1) = some (5, 6) := by
  have e1 : F71_b2 (0, 1, 1, 1, 1) = some (.next (4, 2, 0, 0, 2)) := by
    unfold F71_b2
    rw [show F70 (1, 1, 1, 1) = some (4, 6) from f70_1]
    rfl
  have e2 : F71_b2 (4, 2, 0, 0, 2) = some (.next (5, 3, -1, -1, 3)) := by
    unfold F71_b2
    rw [show F70 (2, 0, 0, 2) = some (1, 6) from f70_2]
    rfl
  have e3 : F71_b2 (5, 3, -1, -1, 3) = some (.brk 5) := by rfl
  unfold F71
  rw [f70_1]
  simp only [Option.bind_some]
  rw [wh_next e1, wh_next e2, wh_brk e3]
  simp only [Option.bind_some, Out.fin]
  unfold F69
  rw [show F86 (5, 6) = some (5, 6) from f86_56]
  rfl
theorem known : F12 = some true := by
  have h28 : F28 (1, 1, 1, 1) = some ((2, 3), 0) := by
    unfold F28
    rw [show F68 (1, 1, 1, 1) = some 0 from rfl]
    simp only [Option.bind_some]
    rw [f70_1]
    simp only [Option.bind_some]
    unfold F69
    rw [show F86 (4, 6) = some (2, 3) from f86_46]
    rfl
  have h29 : F29 (1, 1, 1, 1) = some ((5, 6), 0) := by
    unfold F29
    rw [show F68 (1, 1, 1, 1) = some 0 from rfl]
    simp only [Option.bind_some]
    rw [f71_1]
    rfl
  unfold F12
  rw [h28, h29]
  rfl

/-- -1, 0, 1. -/
def sg (x y : Int) : Int := if x < y then -1 else if x > y then 1 else 0
theorem f66 (x y : Int) : F66 x y = some (sg x y) := by
  unfold F66 F85 sg
  simp only [bne_self_eq_false, Option.bind_some, cond_false]
  by_cases h1 : x < y
  · simp [h1]
  · by_cases h2 : y < x
    · simp [h1, h2]
    · simp [h1, h2]
theorem f65 (a b : Int) : F65 [a, b] = some (if a ≠ 0 then a else b) := by
  unfold F65
  have e0 : F65_b1 [a, b] 0 () = if a ≠ 0 then some (.ret a) else some (.next ()) := by
    unfold F65_b1
    by_cases h : a = 0
    · simp [h]
    · have hb : (a != 0) = true := by simpa using h
      simp [h, hb]
  have e1 : F65_b1 [a, b] 1 () = if b ≠ 0 then some (.ret b) else some (.next ()) := by
    unfold F65_b1
    by_cases h : b = 0
    · simp [h]
    · have hb : (b != 0) = true := by simpa using h
      simp [h, hb]
  show ((forR (F65_b1 [a, b]) 2 0 ()).bind _) = _
  by_cases h : a = 0
  · rw [if_neg (by simpa using h)] at e0
    rw [forR_next e0]
    by_cases h2 : b = 0
    · rw [if_neg (by simpa using h2)] at e1
      rw [forR_next e1]
      simp [forR, Out.fin, h, h2]
    · rw [if_pos h2] at e1
      rw [forR_ret e1]
      simp [Out.fin, h]
  · rw [if_pos h] at e0
    rw [forR_ret e0]
    simp [Out.fin, h]
/-- The order of pairs. -/
def sg2 (p q : Int × Int) : Int := if sg p.1 q.1 ≠ 0 then sg p.1 q.1 else sg p.2 q.2
theorem f67 (x y : Int) : ∃ p, F67 x y = some p := ⟨_, rfl⟩
theorem f26 (a b : Int × Int) {p q : Int × Int} (hp : F67 (iconv .u64 a.1) (iconv .u64 b.2) = some p) (hq : F67 (iconv .u64 b.1) (iconv .u64 a.2) = some q) : F26 a b = some (sg2 p q) := by
  unfold F26 F64
  rw [hp, hq]
  simp only [Option.bind_some, f66, f65]
  rfl
theorem f27 (a b : Int × Int) {p q : Int × Int} (hp : F67 (iconv .u64 a.1) (iconv .u64 b.2) = some p) (hq : F67 (iconv .u64 b.1) (iconv .u64 a.2) = some q) : F27 a b = some (sg2 p q) := by
  unfold F27
  rw [hp, hq]
  simp only [Option.bind_some, sg2, sg]
  rcases Int.lt_trichotomy p.1 q.1 with h | h | h
  · simp [h]
  · rw [h]
    rcases Int.lt_trichotomy p.2 q.2 with h2 | h2 | h2
    · simp [h2]
    · simp [h2]
    · have h3 : ¬ p.2 < q.2 := by omega
      simp [h2, h3]
  · have h3 : ¬ p.1 < q.1 := by omega
    have h4 : (p.1 == q.1) = false := by simpa using (show ¬ p.1 = q.1 by omega)
    simp [h, h3, h4]
theorem sg_swap (p q : Int × Int) : sg2 q p = ineg .i64 (sg2 p q) := by
  unfold sg2 sg
  rcases Int.lt_trichotomy p.1 q.1 with h | h | h
  · have h3 : ¬ q.1 < p.1 := by omega
    simp [h, h3]
    rfl
  · rw [h]
    rcases Int.lt_trichotomy p.2 q.2 with h2 | h2 | h2
    · have h3 : ¬ q.2 < p.2 := by omega
      simp [h2, h3]
      rfl
    · simp [h2]
      rfl
    · have h3 : ¬ p.2 < q.2 := by omega
      simp [h2, h3]
      rfl
  · have h3 : ¬ p.1 < q.1 := by omega
    simp [h, h3]
    rfl

def bad (x : Int × Int) : Bool := decide (x.2 < 1) || (decide (x.1 < 0) || (decide (x.1 > 9007199254740992) || decide (x.2 > 9007199254740992)))
theorem f10 (a b : Int × Int) : F10 a b = if bad a || bad b then some (0, 1) else (F26 a b).map fun n => (n, 0) := by
  unfold F10 bad
  cases h1 : decide (a.2 < 1) <;> cases h2 : decide (a.1 < 0) <;> cases h3 : decide (a.1 > 9007199254740992) <;> cases h4 : decide (a.2 > 9007199254740992) <;>
    cases h5 : decide (b.2 < 1) <;> cases h6 : decide (b.1 < 0) <;> cases h7 : decide (b.1 > 9007199254740992) <;> cases h8 : decide (b.2 > 9007199254740992) <;>
    first | rfl | (simp; cases F26 a b <;> rfl)
theorem f11 (a b : Int × Int) : F11 a b = if bad a || bad b then some (0, 1) else (F27 a b).map fun n => (n, 0) := by
  unfold F11 bad
  cases h1 : decide (a.2 < 1) <;> cases h2 : decide (a.1 < 0) <;> cases h3 : decide (a.1 > 9007199254740992) <;> cases h4 : decide (a.2 > 9007199254740992) <;>
    cases h5 : decide (b.2 < 1) <;> cases h6 : decide (b.1 < 0) <;> cases h7 : decide (b.1 > 9007199254740992) <;> cases h8 : decide (b.2 > 9007199254740992) <;>
    first | rfl | (simp; cases F27 a b <;> rfl)

theorem compares (a b : Int × Int) : F3 a b = some true := by
  obtain ⟨p, hp⟩ := f67 (iconv .u64 a.1) (iconv .u64 b.2)
  obtain ⟨q, hq⟩ := f67 (iconv .u64 b.1) (iconv .u64 a.2)
  unfold F3
  rw [f10 a b, f11 a b, f10 b a, f26 a b hp hq, f27 a b hp hq, f26 b a hq hp, known, sg_swap p q, Bool.or_comm (bad b) (bad a)]
  cases bad a || bad b
  · simp
  · simp
    rfl
end Go.V.Ta
