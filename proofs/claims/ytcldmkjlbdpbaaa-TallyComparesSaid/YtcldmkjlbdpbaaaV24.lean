/- The value logic, part 24: contracts with other names, and the words of printed functions. -/
import Derived.Test.YtcldmkjlbdpbaaaV23
set_option linter.unusedVariables false
set_option linter.unusedSimpArgs false
namespace Go.V
open Go.RowKit (Below)

section
variable {P : Program}
def renOk (m : List (Nat × Nat)) (res : Slot) (rows : List (Nat × Row)) : Bool := (namesR res ++ keysOf rows).all fun h => Nat.beq (renN (swapL m) (renN m h)) h
/-- Names of what comes back are free. -/
theorem callOK_ren (m : List (Nat × Nat)) {f : Nat} {args : List Slot} {res : Slot} {rows : List (Nat × Row)} (hm : renOk m res rows = true) (hc : CallOK P f args res rows) :
    CallOK P f args (renS m res) (rows.map fun p => (renN m p.1, p.2)) := by
  unfold renOk at hm
  rw [List.all_eq_true] at hm
  have hinv : ∀ h, h ∈ namesR res ++ keysOf rows → renN (swapL m) (renN m h) = h := fun h hh => Nat.eq_of_beq_eq_true (hm h hh)
  have hkey : ∀ p ∈ rows, renN (swapL m) (renN m p.1) = p.1 := fun p hp => hinv _ (List.mem_append.2 (.inr (List.mem_map.2 ⟨p, hp, rfl⟩)))
  refine ⟨hc.1, fun ρ ok w vs hone hok hvs => (hc.2 ρ ok w vs hone hok hvs).mono ?_⟩
  rintro e w' ⟨v, ρ', ok', rfl, hB⟩
  refine ⟨v, { row := fun k => ρ'.row (renN (swapL m) k), box := ρ'.box }, ok', rfl, hB.below, hB.oks, hB.oks', fun h => hB.one _, ?_, ?_, ?_, ?_⟩
  · exact renV_to (ρ := ρ') (ρ' := { row := fun k => ρ'.row (renN (swapL m) k), box := ρ'.box }) (m := m) (Rp := fun h => h ∈ namesR res) (fun h hh => by show ρ'.row _ = _; rw [hinv h (List.mem_append.2 (.inl hh))]) rfl res (fun _ h => h) hB.val
  · intro p hp
    obtain ⟨q, hq, rfl⟩ := List.mem_map.1 hp
    exact (hB.rows q hq).move' (by show ρ'.row _ = _; rw [hkey q hq])
  · intro p hp b hb
    obtain ⟨q, hq, rfl⟩ := List.mem_map.1 hp
    refine hB.new q hq b ?_
    simp only [blk] at hb ⊢
    rw [hkey q hq] at hb
    exact hb
  · intro p hp q hq b hb hb'
    obtain ⟨p', hp', rfl⟩ := List.mem_map.1 hp
    obtain ⟨q', hq', rfl⟩ := List.mem_map.1 hq
    simp only [blk] at hb hb'
    rw [hkey p' hp'] at hb
    rw [hkey q' hq'] at hb'
    rw [hB.apart p' hp' q' hq' b hb hb']
end

/-! ### Words of printed functions -/
def band (k : IntKind) (x y : Int) : Int := k.wrap (BitVec.ofInt k.bits x &&& BitVec.ofInt k.bits y).toNat
def bor (k : IntKind) (x y : Int) : Int := k.wrap (BitVec.ofInt k.bits x ||| BitVec.ofInt k.bits y).toNat
def bxor (k : IntKind) (x y : Int) : Int := k.wrap (BitVec.ofInt k.bits x ^^^ BitVec.ofInt k.bits y).toNat
def bshl (k : IntKind) (x y : Int) : Int := k.wrap (x * 2 ^ min y.toNat k.bits)
def bshr (k : IntKind) (x y : Int) : Int := x.fdiv (2 ^ min y.toNat k.bits)
def iadd (k : IntKind) (x y : Int) : Int := k.wrap (x + y)
def isub (k : IntKind) (x y : Int) : Int := k.wrap (x - y)
def imul (k : IntKind) (x y : Int) : Int := k.wrap (x * y)
def iquo (k : IntKind) (x y : Int) : Int := k.wrap (x.tdiv y)
def irem (k : IntKind) (x y : Int) : Int := x.tmod y
def ineg (k : IntKind) (x : Int) : Int := k.wrap (0 - x)
def iconv (k : IntKind) (x : Int) : Int := k.wrap x
theorem iadd_one (i : Nat) (h : i < 9223372036854775807) : iadd .i64 (i : Int) 1 = ((i + 1 : Nat) : Int) := wrap_add i h
end Go.V
