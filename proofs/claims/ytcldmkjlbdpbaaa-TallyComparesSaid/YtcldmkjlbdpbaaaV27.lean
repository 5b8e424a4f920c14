/- The value logic, part 27: the arguments of a claimed call are opened, and the call of a law. -/
import Derived.Test.YtcldmkjlbdpbaaaV26
import Derived.WideShapes
import Derived.ProofKit
set_option linter.unusedVariables false
set_option linter.unusedSimpArgs false
namespace Go.V
open Go.RowKit (Below)

section
variable {P : Program} {T : Nat → Option TI} {w : World} {H : Type} {enc : TypeId × Value → H} {base b0 : Nat} {spare : Nat → Bool} {held : Bool}

/-- An argument as a slot. -/
theorem open_rn (hT : TOk P T) (ρ : Own) {dep t : Nat} {ty : Ty} {v : Value} {D : DataW H} {ps : List MemPlace} {r : Reach} (hh : hasTy T dep t ty = true) (hval : Value.okWide P w r b0 t v) (h : DataW.Trod enc P w base spare held t v D ps) :
    ∃ x : ty.D, RenS ρ (okW w) w (slotOf ty x) v ∧ Fit ty x := by
  obtain ⟨fuel, hf⟩ := h
  have hsize := hasTy_size hT hh
  have one : ty.isAgg = false → ty.size = 1 → v.cells = #[v] → ∃ x : ty.D, RenS ρ (okW w) w (slotOf ty x) v ∧ Fit ty x := by
    intro ha hs hc
    rw [hc] at hf
    obtain ⟨x, h1, h2⟩ := trod_rn hT fuel dep t ty _ D ps hh (by rw [hsize, hs]; rfl) hf
    refine ⟨x, ?_, h2⟩
    unfold slotOf
    rw [ha]
    rw [RenS]
    exact ⟨_, h1, by simp [mkv, ha]⟩
  have many : ty.isAgg = true → (∃ cs, v = .agg cs ∧ cs.size = P.cellsOf t) → ∃ x : ty.D, RenS ρ (okW w) w (slotOf ty x) v ∧ Fit ty x := by
    rintro ha ⟨cs, rfl, hcs⟩
    obtain ⟨x, h1, h2⟩ := trod_rn hT fuel dep t ty cs.toList D ps hh (by simpa using hcs) hf
    refine ⟨x, ?_, h2⟩
    unfold slotOf
    rw [ha]
    rw [RenS]
    exact ⟨_, renCs_cellsOf h1, by simp⟩
  cases dep with
  | zero => simp [hasTy] at hh
  | succ dep =>
    have hh0 := hh
    unfold hasTy at hh
    split at hh
    · cases hh
    rename_i i hi
    rw [Bool.and_eq_true] at hh
    have hh2 := hh.2
    clear hh
    have hu := (hT t i hi).und
    split at hh2
    · rename_i hd
      rw [hd] at hu
      obtain ⟨b, rfl⟩ := WideShapes.okWide_bool hu hval
      exact one rfl rfl rfl
    · rename_i k k' hd
      rw [hd] at hu
      obtain ⟨n, rfl⟩ := WideShapes.okWide_int hu hval
      exact one rfl rfl rfl
    · rename_i hd
      rw [hd] at hu
      obtain ⟨s, rfl⟩ := WideShapes.okWide_string hu hval
      exact one rfl rfl rfl
    · rename_i e e' u hd
      rw [hd] at hu
      obtain ⟨a, len, cap, rfl⟩ := WideShapes.okWide_slice hu hval
      exact one rfl rfl rfl
    · rename_i fs u hd
      rw [hd] at hu
      simp only [Value.okWide, hu] at hval
      obtain ⟨cs, e, hcs, _⟩ := hval
      exact many rfl ⟨cs, e, hcs⟩
    · rename_i n e u hd
      rw [hd] at hu
      simp only [Value.okWide, hu] at hval
      obtain ⟨cs, e, hcs, _⟩ := hval
      exact many rfl ⟨cs, e, hcs⟩
    · cases hh2

def own0 : Own := ⟨fun _ => .slice none 0 0, fun _ => 0⟩

/-- The call of a law that answers true. -/
theorem law_calls {f : Nat} {slots : List Slot} {vs : List Value} (hc : CallOK P f slots (.val .bool true) []) (hvs : RenVs own0 (okW w) w slots vs) :
    Calls P f vs.toArray w fun e w' => e = .returned (.bool true) ∧ Below w.heap.size w w' := by
  refine (hc.2 own0 (okW w) w vs (fun _ => rfl) (fun b hb => hb) hvs).mono ?_
  rintro e w' ⟨v, ρ', ok', rfl, hB⟩
  obtain rfl := inv_bool hB.val
  exact ⟨rfl, hB.below⟩
theorem vs_nil {ρ : Own} {ok : Nat → Prop} : RenVs ρ ok w [] [] := by rw [RenVs]
theorem vs_cons {ρ : Own} {ok : Nat → Prop} {s : Slot} {ss : List Slot} {v : Value} {vs : List Value} (h : RenS ρ ok w s v) (hs : RenVs ρ ok w ss vs) : RenVs ρ ok w (s :: ss) (v :: vs) := by rw [RenVs]; exact ⟨v, vs, rfl, h, hs⟩
end
end Go.V
