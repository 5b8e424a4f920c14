/- Functions of the loaded program as plain functions. Printed by wip/tools/vgen.py. -/
import Derived.Test.YtcldmkjlbdpbaaaV25
import Derived.Test.YtcldmkjlbdpbaaaTaTy
import Derived.KernelRfl
set_option linter.unusedVariables false
namespace Go.V.Ta
open Go.Proofs

/-! ### cmp.isNaN[uint64] -/
noncomputable def F85 (x0 : Int) : Option (Bool) :=
  (some (x0 != x0))
def res85 (r : Bool) : Slot := .val .bool r
def rows85 (r : Bool) : List (Nat × Row) := []
theorem C85 {x0 : Int} {r : Bool} (h : F85 x0 = some r) : CallOK Try.prog 85 [.val (.int .u64) x0] (res85 r) (rows85 r) := by
  refine callOK_of' tok (f := 85) (fn := Try.f85) (by kernel_rfl) rfl (by kernel_rfl) (Nat.le_of_ble_eq_true (by kernel_rfl)) (fun C hC => ?_)
  unfold F85 at h
  refine vwp_seq ?_
  refine vw_reg tok hC (anns := []) (f := { ks := [0] }) (ps := []) (st' := ⟨[(0, .val (.int .u64) x0)], [], []⟩) (by kernel_rfl) trivial ?_
  change VWp _ _ _ _ _
  refine vwp_seq ?_
  refine vw_reg tok hC (anns := []) (f := { ks := [2] }) (ps := []) (st' := ⟨[(2, .val .bool (x0 != x0))], [], []⟩) (by kernel_rfl) trivial ?_
  change VWp _ _ _ _ _
  obtain rfl := Option.some.inj h
  exact vwp_ret (ret_q (res := res85) (rows := rows85) ⟨by kernel_rfl, rfl⟩)

/-! ### math/bits.Mul64 -/
noncomputable def F67 (x0 : Int) (x1 : Int) : Option (Int × Int) :=
  (some ((iadd .u64 (iadd .u64 (imul .u64 (bshr .u64 x0 (32 : Int)) (bshr .u64 x1 (32 : Int))) (bshr .u64 (iadd .u64 (imul .u64 (bshr .u64 x0 (32 : Int)) (band .u64 x1 (4294967295 : Int))) (bshr .u64 (imul .u64 (band .u64 x0 (4294967295 : Int)) (band .u64 x1 (4294967295 : Int))) (32 : Int))) (32 : Int))) (bshr .u64 (iadd .u64 (band .u64 (iadd .u64 (imul .u64 (bshr .u64 x0 (32 : Int)) (band .u64 x1 (4294967295 : Int))) (bshr .u64 (imul .u64 (band .u64 x0 (4294967295 : Int)) (band .u64 x1 (4294967295 : Int))) (32 : Int))) (4294967295 : Int)) (imul .u64 (band .u64 x0 (4294967295 : Int)) (bshr .u64 x1 (32 : Int)))) (32 : Int))), (imul .u64 x0 x1)))
def res67 (r : Int × Int) : Slot := .tup [.val (.int .u64) r.1, .val (.int .u64) r.2]
def rows67 (r : Int × Int) : List (Nat × Row) := []
theorem C67 {x0 : Int} {x1 : Int} {r : Int × Int} (h : F67 x0 x1 = some r) : CallOK Try.prog 67 [.val (.int .u64) x0, .val (.int .u64) x1] (res67 r) (rows67 r) := by
  refine callOK_of' tok (f := 67) (fn := Try.f67) (by kernel_rfl) rfl (by kernel_rfl) (Nat.le_of_ble_eq_true (by kernel_rfl)) (fun C hC => ?_)
  unfold F67 at h
  refine vwp_seq ?_
  refine vw_reg tok hC (anns := []) (f := { ks := [0, 1] }) (ps := []) (st' := ⟨[(0, .val (.int .u64) x0), (1, .val (.int .u64) x1)], [], []⟩) (by kernel_rfl) trivial ?_
  change VWp _ _ _ _ _
  refine vwp_seq ?_
  refine vw_reg tok hC (anns := []) (f := { ks := [0, 1, 6] }) (ps := []) (st' := ⟨[(0, .val (.int .u64) x0), (1, .val (.int .u64) x1), (6, .val (.int .u64) (band .u64 x0 (4294967295 : Int)))], [], []⟩) (by kernel_rfl) trivial ?_
  change VWp _ _ _ _ _
  refine vwp_seq ?_
  refine vw_reg tok hC (anns := []) (f := { ks := [0, 1, 6, 7] }) (ps := [(0 ≤ (32 : Int))]) (st' := ⟨[(0, .val (.int .u64) x0), (1, .val (.int .u64) x1), (6, .val (.int .u64) (band .u64 x0 (4294967295 : Int))), (7, .val (.int .u64) (bshr .u64 x0 (32 : Int)))], [], []⟩) (by kernel_rfl) ⟨by decide, trivial⟩ ?_
  change VWp _ _ _ _ _
  refine vwp_seq ?_
  refine vw_reg tok hC (anns := []) (f := { ks := [0, 1, 6, 7, 8] }) (ps := []) (st' := ⟨[(0, .val (.int .u64) x0), (1, .val (.int .u64) x1), (6, .val (.int .u64) (band .u64 x0 (4294967295 : Int))), (7, .val (.int .u64) (bshr .u64 x0 (32 : Int))), (8, .val (.int .u64) (band .u64 x1 (4294967295 : Int)))], [], []⟩) (by kernel_rfl) trivial ?_
  change VWp _ _ _ _ _
  refine vwp_seq ?_
  refine vw_reg tok hC (anns := []) (f := { ks := [0, 1, 6, 7, 8, 9] }) (ps := [(0 ≤ (32 : Int))]) (st' := ⟨[(0, .val (.int .u64) x0), (1, .val (.int .u64) x1), (6, .val (.int .u64) (band .u64 x0 (4294967295 : Int))), (7, .val (.int .u64) (bshr .u64 x0 (32 : Int))), (8, .val (.int .u64) (band .u64 x1 (4294967295 : Int))), (9, .val (.int .u64) (bshr .u64 x1 (32 : Int)))], [], []⟩) (by kernel_rfl) ⟨by decide, trivial⟩ ?_
  change VWp _ _ _ _ _
  refine vwp_seq ?_
  refine vw_reg tok hC (anns := []) (f := { ks := [0, 1, 6, 7, 8, 9, 10] }) (ps := []) (st' := ⟨[(0, .val (.int .u64) x0), (1, .val (.int .u64) x1), (6, .val (.int .u64) (band .u64 x0 (4294967295 : Int))), (7, .val (.int .u64) (bshr .u64 x0 (32 : Int))), (8, .val (.int .u64) (band .u64 x1 (4294967295 : Int))), (9, .val (.int .u64) (bshr .u64 x1 (32 : Int))), (10, .val (.int .u64) (imul .u64 (band .u64 x0 (4294967295 : Int)) (band .u64 x1 (4294967295 : Int))))], [], []⟩) (by kernel_rfl) trivial ?_
  change VWp _ _ _ _ _
  refine vwp_seq ?_
  refine vw_reg tok hC (anns := []) (f := { ks := [0, 1, 6, 7, 9, 11] }) (ps := [(0 ≤ (32 : Int))]) (st' := ⟨[(0, .val (.int .u64) x0), (1, .val (.int .u64) x1), (6, .val (.int .u64) (band .u64 x0 (4294967295 : Int))), (7, .val (.int .u64) (bshr .u64 x0 (32 : Int))), (9, .val (.int .u64) (bshr .u64 x1 (32 : Int))), (11, .val (.int .u64) (iadd .u64 (imul .u64 (bshr .u64 x0 (32 : Int)) (band .u64 x1 (4294967295 : Int))) (bshr .u64 (imul .u64 (band .u64 x0 (4294967295 : Int)) (band .u64 x1 (4294967295 : Int))) (32 : Int))))], [], []⟩) (by kernel_rfl) ⟨by decide, trivial⟩ ?_
  change VWp _ _ _ _ _
  refine vwp_seq ?_
  refine vw_reg tok hC (anns := []) (f := { ks := [0, 1, 6, 7, 9, 11, 12] }) (ps := []) (st' := ⟨[(0, .val (.int .u64) x0), (1, .val (.int .u64) x1), (6, .val (.int .u64) (band .u64 x0 (4294967295 : Int))), (7, .val (.int .u64) (bshr .u64 x0 (32 : Int))), (9, .val (.int .u64) (bshr .u64 x1 (32 : Int))), (11, .val (.int .u64) (iadd .u64 (imul .u64 (bshr .u64 x0 (32 : Int)) (band .u64 x1 (4294967295 : Int))) (bshr .u64 (imul .u64 (band .u64 x0 (4294967295 : Int)) (band .u64 x1 (4294967295 : Int))) (32 : Int)))), (12, .val (.int .u64) (band .u64 (iadd .u64 (imul .u64 (bshr .u64 x0 (32 : Int)) (band .u64 x1 (4294967295 : Int))) (bshr .u64 (imul .u64 (band .u64 x0 (4294967295 : Int)) (band .u64 x1 (4294967295 : Int))) (32 : Int))) (4294967295 : Int)))], [], []⟩) (by kernel_rfl) trivial ?_
  change VWp _ _ _ _ _
  refine vwp_seq ?_
  refine vw_reg tok hC (anns := []) (f := { ks := [0, 1, 6, 7, 9, 12, 13] }) (ps := [(0 ≤ (32 : Int))]) (st' := ⟨[(0, .val (.int .u64) x0), (1, .val (.int .u64) x1), (6, .val (.int .u64) (band .u64 x0 (4294967295 : Int))), (7, .val (.int .u64) (bshr .u64 x0 (32 : Int))), (9, .val (.int .u64) (bshr .u64 x1 (32 : Int))), (12, .val (.int .u64) (band .u64 (iadd .u64 (imul .u64 (bshr .u64 x0 (32 : Int)) (band .u64 x1 (4294967295 : Int))) (bshr .u64 (imul .u64 (band .u64 x0 (4294967295 : Int)) (band .u64 x1 (4294967295 : Int))) (32 : Int))) (4294967295 : Int))), (13, .val (.int .u64) (bshr .u64 (iadd .u64 (imul .u64 (bshr .u64 x0 (32 : Int)) (band .u64 x1 (4294967295 : Int))) (bshr .u64 (imul .u64 (band .u64 x0 (4294967295 : Int)) (band .u64 x1 (4294967295 : Int))) (32 : Int))) (32 : Int)))], [], []⟩) (by kernel_rfl) ⟨by decide, trivial⟩ ?_
  change VWp _ _ _ _ _
  refine vwp_seq ?_
  refine vw_reg tok hC (anns := []) (f := { ks := [0, 1, 7, 9, 12, 13] }) (ps := []) (st' := ⟨[(0, .val (.int .u64) x0), (1, .val (.int .u64) x1), (7, .val (.int .u64) (bshr .u64 x0 (32 : Int))), (9, .val (.int .u64) (bshr .u64 x1 (32 : Int))), (12, .val (.int .u64) (iadd .u64 (band .u64 (iadd .u64 (imul .u64 (bshr .u64 x0 (32 : Int)) (band .u64 x1 (4294967295 : Int))) (bshr .u64 (imul .u64 (band .u64 x0 (4294967295 : Int)) (band .u64 x1 (4294967295 : Int))) (32 : Int))) (4294967295 : Int)) (imul .u64 (band .u64 x0 (4294967295 : Int)) (bshr .u64 x1 (32 : Int))))), (13, .val (.int .u64) (bshr .u64 (iadd .u64 (imul .u64 (bshr .u64 x0 (32 : Int)) (band .u64 x1 (4294967295 : Int))) (bshr .u64 (imul .u64 (band .u64 x0 (4294967295 : Int)) (band .u64 x1 (4294967295 : Int))) (32 : Int))) (32 : Int)))], [], []⟩) (by kernel_rfl) trivial ?_
  change VWp _ _ _ _ _
  refine vwp_seq ?_
  refine vw_reg tok hC (anns := []) (f := { ks := [0, 1, 4] }) (ps := [(0 ≤ (32 : Int))]) (st' := ⟨[(0, .val (.int .u64) x0), (1, .val (.int .u64) x1), (4, .val (.int .u64) (iadd .u64 (iadd .u64 (imul .u64 (bshr .u64 x0 (32 : Int)) (bshr .u64 x1 (32 : Int))) (bshr .u64 (iadd .u64 (imul .u64 (bshr .u64 x0 (32 : Int)) (band .u64 x1 (4294967295 : Int))) (bshr .u64 (imul .u64 (band .u64 x0 (4294967295 : Int)) (band .u64 x1 (4294967295 : Int))) (32 : Int))) (32 : Int))) (bshr .u64 (iadd .u64 (band .u64 (iadd .u64 (imul .u64 (bshr .u64 x0 (32 : Int)) (band .u64 x1 (4294967295 : Int))) (bshr .u64 (imul .u64 (band .u64 x0 (4294967295 : Int)) (band .u64 x1 (4294967295 : Int))) (32 : Int))) (4294967295 : Int)) (imul .u64 (band .u64 x0 (4294967295 : Int)) (bshr .u64 x1 (32 : Int)))) (32 : Int))))], [], []⟩) (by kernel_rfl) ⟨by decide, trivial⟩ ?_
  change VWp _ _ _ _ _
  refine vwp_seq ?_
  refine vw_reg tok hC (anns := []) (f := { ks := [4, 5] }) (ps := []) (st' := ⟨[(4, .val (.int .u64) (iadd .u64 (iadd .u64 (imul .u64 (bshr .u64 x0 (32 : Int)) (bshr .u64 x1 (32 : Int))) (bshr .u64 (iadd .u64 (imul .u64 (bshr .u64 x0 (32 : Int)) (band .u64 x1 (4294967295 : Int))) (bshr .u64 (imul .u64 (band .u64 x0 (4294967295 : Int)) (band .u64 x1 (4294967295 : Int))) (32 : Int))) (32 : Int))) (bshr .u64 (iadd .u64 (band .u64 (iadd .u64 (imul .u64 (bshr .u64 x0 (32 : Int)) (band .u64 x1 (4294967295 : Int))) (bshr .u64 (imul .u64 (band .u64 x0 (4294967295 : Int)) (band .u64 x1 (4294967295 : Int))) (32 : Int))) (4294967295 : Int)) (imul .u64 (band .u64 x0 (4294967295 : Int)) (bshr .u64 x1 (32 : Int)))) (32 : Int)))), (5, .val (.int .u64) (imul .u64 x0 x1))], [], []⟩) (by kernel_rfl) trivial ?_
  change VWp _ _ _ _ _
  obtain rfl := Option.some.inj h
  exact vwp_ret (ret_q (res := res67) (rows := rows67) ⟨by kernel_rfl, rfl⟩)

/-! ### ablaut/tally.product -/
noncomputable def F64 (x0 : Int) (x1 : Int) : Option ((Int × Int)) :=
  ((F67 (iconv .u64 x0) (iconv .u64 x1)).bind fun r1 => (some r1))
def res64 (r : (Int × Int)) : Slot := .agg [.val (.int .u64) r.1, .val (.int .u64) r.2]
def rows64 (r : (Int × Int)) : List (Nat × Row) := []
theorem C64 {x0 : Int} {x1 : Int} {r : (Int × Int)} (h : F64 x0 x1 = some r) : CallOK Try.prog 64 [.val (.int .i64) x0, .val (.int .i64) x1] (res64 r) (rows64 r) := by
  refine callOK_of' tok (f := 64) (fn := Try.f64) (by kernel_rfl) rfl (by kernel_rfl) (Nat.le_of_ble_eq_true (by kernel_rfl)) (fun C hC => ?_)
  unfold F64 at h
  refine vwp_seq ?_
  refine vw_reg tok hC (anns := [(0, { id := 4 })]) (f := { ks := [0, 1, 4], bs := [4] }) (ps := []) (st' := ⟨[(0, .val (.int .i64) x0), (1, .val (.int .i64) x1), (4, .box 4 0)], [], [(4, (99, [.val (.int .u64) (0 : Int), .val (.int .u64) (0 : Int)]))]⟩) (by kernel_rfl) trivial ?_
  change VWp _ _ _ _ _
  refine vwp_seq ?_
  obtain ⟨r1, hr1, h⟩ := bindS h
  refine vw_reg tok hC (anns := [(4, { res := .tup [.val (.int .u64) r1.1, .val (.int .u64) r1.2] })]) (f := { ks := [4, 5, 6], bs := [4] }) (ps := [CallOK Try.prog 67 [.val (.int .u64) (iconv .u64 x0), .val (.int .u64) (iconv .u64 x1)] (.tup [.val (.int .u64) r1.1, .val (.int .u64) r1.2]) []]) (st' := ⟨[(4, .box 4 0), (5, .val (.int .u64) r1.1), (6, .val (.int .u64) r1.2)], [], [(4, (99, [.val (.int .u64) (0 : Int), .val (.int .u64) (0 : Int)]))]⟩) (by kernel_rfl) ⟨C67 hr1, trivial⟩ ?_
  change VWp _ _ _ _ _
  refine vwp_seq ?_
  refine vw_reg tok hC (anns := []) (f := { ks := [4], bs := [4] }) (ps := []) (st' := ⟨[(4, .box 4 0)], [], [(4, (99, [.val (.int .u64) r1.1, .val (.int .u64) r1.2]))]⟩) (by kernel_rfl) trivial ?_
  change VWp _ _ _ _ _
  obtain rfl := Option.some.inj h
  exact vwp_ret (ret_q (res := res64) (rows := rows64) ⟨by kernel_rfl, rfl⟩)

/-! ### cmp.Compare[uint64] -/
noncomputable def F66 (x0 : Int) (x1 : Int) : Option (Int) :=
  ((F85 x0).bind fun r1 => ((F85 x1).bind fun r2 => (cond r1 (cond r2 (some (0 : Int)) (some (-1 : Int))) (cond r2 (some (1 : Int)) (cond (decide (x0 < x1)) (some (-1 : Int)) (cond (decide (x0 > x1)) (some (1 : Int)) (some (0 : Int))))))))
def res66 (r : Int) : Slot := .val (.int .i64) r
def rows66 (r : Int) : List (Nat × Row) := []
theorem C66 {x0 : Int} {x1 : Int} {r : Int} (h : F66 x0 x1 = some r) : CallOK Try.prog 66 [.val (.int .u64) x0, .val (.int .u64) x1] (res66 r) (rows66 r) := by
  refine callOK_of' tok (f := 66) (fn := Try.f66) (by kernel_rfl) rfl (by kernel_rfl) (Nat.le_of_ble_eq_true (by kernel_rfl)) (fun C hC => ?_)
  unfold F66 at h
  refine vwp_seq ?_
  refine vw_reg tok hC (anns := []) (f := { ks := [0, 1] }) (ps := []) (st' := ⟨[(0, .val (.int .u64) x0), (1, .val (.int .u64) x1)], [], []⟩) (by kernel_rfl) trivial ?_
  change VWp _ _ _ _ _
  refine vwp_seq ?_
  obtain ⟨r1, hr1, h⟩ := bindS h
  refine vw_reg tok hC (anns := [(1, { res := .val .bool r1 })]) (f := { ks := [0, 1, 5] }) (ps := [CallOK Try.prog 85 [.val (.int .u64) x0] (.val .bool r1) []]) (st' := ⟨[(0, .val (.int .u64) x0), (1, .val (.int .u64) x1), (5, .val .bool r1)], [], []⟩) (by kernel_rfl) ⟨C85 hr1, trivial⟩ ?_
  change VWp _ _ _ _ _
  refine vwp_seq ?_
  obtain ⟨r2, hr2, h⟩ := bindS h
  refine vw_reg tok hC (anns := [(1, { res := .val .bool r2 })]) (f := { ks := [0, 1, 5, 6] }) (ps := [CallOK Try.prog 85 [.val (.int .u64) x1] (.val .bool r2) []]) (st' := ⟨[(0, .val (.int .u64) x0), (1, .val (.int .u64) x1), (5, .val .bool r1), (6, .val .bool r2)], [], []⟩) (by kernel_rfl) ⟨C85 hr2, trivial⟩ ?_
  change VWp _ _ _ _ _
  refine vwp_seq ?_
  refine vwp_seq ?_
  refine vw_reg tok hC (anns := []) (f := { ks := [0, 1, 6, 11] }) (ps := []) (st' := ⟨[(0, .val (.int .u64) x0), (1, .val (.int .u64) x1), (6, .val .bool r2), (11, .val .bool r1)], [], []⟩) (by kernel_rfl) trivial ?_
  change VWp _ _ _ _ _
  refine vwp_cond (b := r1) (by kernel_rfl) (fun hb3 => ?_) (fun hb3 => ?_)
  · replace h := condT h hb3
    refine vwp_seq ?_
    refine vwp_seq ?_
    refine vw_reg tok hC (anns := []) (f := { ks := [12] }) (ps := []) (st' := ⟨[(12, .val .bool r2)], [], []⟩) (by kernel_rfl) trivial ?_
    change VWp _ _ _ _ _
    refine vwp_cond (b := r2) (by kernel_rfl) (fun hb4 => ?_) (fun hb4 => ?_)
    · replace h := condT h hb4
      refine vwp_seq ?_
      refine vw_reg tok hC (anns := []) (f := { ks := [4] }) (ps := []) (st' := ⟨[(4, .val (.int .i64) (0 : Int))], [], []⟩) (by kernel_rfl) trivial ?_
      change VWp _ _ _ _ _
      obtain rfl := Option.some.inj h
      exact vwp_ret (ret_q (res := res66) (rows := rows66) ⟨by kernel_rfl, rfl⟩)
    · replace h := condF h hb4
      refine vwp_skip ?_
      change VWp _ _ _ _ _
      refine vwp_seq ?_
      refine vw_reg tok hC (anns := []) (f := { ks := [4] }) (ps := []) (st' := ⟨[(4, .val (.int .i64) (-1 : Int))], [], []⟩) (by kernel_rfl) trivial ?_
      change VWp _ _ _ _ _
      obtain rfl := Option.some.inj h
      exact vwp_ret (ret_q (res := res66) (rows := rows66) ⟨by kernel_rfl, rfl⟩)
  · replace h := condF h hb3
    refine vwp_skip ?_
    change VWp _ _ _ _ _
    refine vwp_seq ?_
    refine vwp_seq ?_
    refine vw_reg tok hC (anns := []) (f := { ks := [0, 1, 13] }) (ps := []) (st' := ⟨[(0, .val (.int .u64) x0), (1, .val (.int .u64) x1), (13, .val .bool r2)], [], []⟩) (by kernel_rfl) trivial ?_
    change VWp _ _ _ _ _
    refine vwp_cond (b := r2) (by kernel_rfl) (fun hb5 => ?_) (fun hb5 => ?_)
    · replace h := condT h hb5
      refine vwp_seq ?_
      refine vw_reg tok hC (anns := []) (f := { ks := [4] }) (ps := []) (st' := ⟨[(4, .val (.int .i64) (1 : Int))], [], []⟩) (by kernel_rfl) trivial ?_
      change VWp _ _ _ _ _
      obtain rfl := Option.some.inj h
      exact vwp_ret (ret_q (res := res66) (rows := rows66) ⟨by kernel_rfl, rfl⟩)
    · replace h := condF h hb5
      refine vwp_skip ?_
      change VWp _ _ _ _ _
      refine vwp_seq ?_
      refine vwp_seq ?_
      refine vw_reg tok hC (anns := []) (f := { ks := [0, 1, 16] }) (ps := []) (st' := ⟨[(0, .val (.int .u64) x0), (1, .val (.int .u64) x1), (16, .val .bool (decide (x0 < x1)))], [], []⟩) (by kernel_rfl) trivial ?_
      change VWp _ _ _ _ _
      refine vwp_cond (b := (decide (x0 < x1))) (by kernel_rfl) (fun hb6 => ?_) (fun hb6 => ?_)
      · replace h := condT h hb6
        refine vwp_seq ?_
        refine vw_reg tok hC (anns := []) (f := { ks := [4] }) (ps := []) (st' := ⟨[(4, .val (.int .i64) (-1 : Int))], [], []⟩) (by kernel_rfl) trivial ?_
        change VWp _ _ _ _ _
        obtain rfl := Option.some.inj h
        exact vwp_ret (ret_q (res := res66) (rows := rows66) ⟨by kernel_rfl, rfl⟩)
      · replace h := condF h hb6
        refine vwp_skip ?_
        change VWp _ _ _ _ _
        refine vwp_seq ?_
        refine vwp_seq ?_
        refine vw_reg tok hC (anns := []) (f := { ks := [19] }) (ps := []) (st' := ⟨[(19, .val .bool (decide (x0 > x1)))], [], []⟩) (by kernel_rfl) trivial ?_
        change VWp _ _ _ _ _
        refine vwp_cond (b := (decide (x0 > x1))) (by kernel_rfl) (fun hb7 => ?_) (fun hb7 => ?_)
        · replace h := condT h hb7
          refine vwp_seq ?_
          refine vw_reg tok hC (anns := []) (f := { ks := [4] }) (ps := []) (st' := ⟨[(4, .val (.int .i64) (1 : Int))], [], []⟩) (by kernel_rfl) trivial ?_
          change VWp _ _ _ _ _
          obtain rfl := Option.some.inj h
          exact vwp_ret (ret_q (res := res66) (rows := rows66) ⟨by kernel_rfl, rfl⟩)
        · replace h := condF h hb7
          refine vwp_skip ?_
          change VWp _ _ _ _ _
          refine vwp_seq ?_
          refine vw_reg tok hC (anns := []) (f := { ks := [4] }) (ps := []) (st' := ⟨[(4, .val (.int .i64) (0 : Int))], [], []⟩) (by kernel_rfl) trivial ?_
          change VWp _ _ _ _ _
          obtain rfl := Option.some.inj h
          exact vwp_ret (ret_q (res := res66) (rows := rows66) ⟨by kernel_rfl, rfl⟩)

/-! ### cmp.Or[int] -/
noncomputable def F65_b1 (x0 : List Int) (i2 : Nat) (s3 : Unit) : Option (Out (Unit) (Unit) (Int)) :=
  (if (0 ≤ ((i2 : Nat) : Int) ∧ ((i2 : Nat) : Int) < ((x0.length : Nat) : Int)) then (cond ((x0.getD i2 (0 : Int)) != (0 : Int)) (some (.ret (x0.getD i2 (0 : Int)))) (some (.next ()))) else none)
noncomputable def F65 (x0 : List Int) : Option (Int) :=
  ((forR (F65_b1 x0) x0.length 0 ()).bind fun o6 => o6.fin (fun (s3 : Unit) => ()) (fun (t4 : Unit) => (some (0 : Int))) (fun (r5 : Int) => (some r5)))
def res65 (r : Int) : Slot := .val (.int .i64) r
def rows65 (r : Int) : List (Nat × Row) := []
theorem C65 {x0 : List Int} {r : Int} (h : F65 x0 = some r) : CallOK Try.prog 65 [.val ((.sl 3 (.int .i64))) x0] (res65 r) (rows65 r) := by
  refine callOK_of' tok (f := 65) (fn := Try.f65) (by kernel_rfl) rfl (by kernel_rfl) (Nat.le_of_ble_eq_true (by kernel_rfl)) (fun C hC => ?_)
  unfold F65 at h
  refine vwp_seq ?_
  refine vw_reg tok hC (anns := []) (f := { ks := [0] }) (ps := []) (st' := ⟨[(0, .val ((.sl 3 (.int .i64))) x0)], [], []⟩) (by kernel_rfl) trivial ?_
  change VWp _ _ _ _ _
  refine vwp_seq ?_
  refine vw_reg tok hC (anns := []) (f := { ks := [0, 3] }) (ps := []) (st' := ⟨[(0, .val ((.sl 3 (.int .i64))) x0), (3, .val (.int .i64) (0 : Int))], [], []⟩) (by kernel_rfl) trivial ?_
  change VWp _ _ _ _ _
  refine vwp_seq ?_
  refine vwp_seq ?_
  refine vw_reg tok hC (anns := []) (f := { ks := [3, 6, 7, 8] }) (ps := []) (st' := ⟨[(3, .val (.int .i64) (0 : Int)), (6, .val ((.sl 3 (.int .i64))) x0), (7, .val (.int .i64) ((x0.length : Nat) : Int)), (8, .val (.int .i64) (0 : Int))], [], []⟩) (by kernel_rfl) trivial ?_
  change VWp _ _ _ _ _
  refine vw_len (k := 6) (e := 3) (t := .int .i64) (l := x0) (by kernel_rfl) (fun hlen => ?_)
  obtain ⟨o6, ho6, h⟩ := bindS h
  refine vw_for (S := fun (i2 : Nat) (s3 : Unit) => ⟨[(3, .val (.int .i64) (0 : Int)), (6, .val ((.sl 3 (.int .i64))) x0), (7, .val (.int .i64) ((x0.length : Nat) : Int)), (8, .val (.int .i64) ((i2 : Nat) : Int))], [], []⟩) (B := fun (t4 : Unit) => ⟨[(3, .val (.int .i64) (0 : Int))], [], []⟩) (Rq := retR T Try.f65 res65 rows65) ho6 h (by kernel_rfl) (fun i2 s3 o6 hi ho6 => ?_) (fun s3 => ?_) (fun t4 h => ?_) (fun r5 st' h hR => ?_)
  · clear h
    replace h := ho6
    unfold F65_b1 at h
    refine vwp_seq ?_
    refine vw_reg tok hC (anns := [(0, { fix := some true })]) (f := { ks := [3, 6, 7, 8, 9] }) (ps := [(decide (((i2 : Nat) : Int) < ((x0.length : Nat) : Int))) = true]) (st' := ⟨[(3, .val (.int .i64) (0 : Int)), (6, .val ((.sl 3 (.int .i64))) x0), (7, .val (.int .i64) ((x0.length : Nat) : Int)), (8, .val (.int .i64) ((i2 : Nat) : Int)), (9, .val .bool true)], [], []⟩) (by kernel_rfl) ⟨(decide_eq_true (by omega)), trivial⟩ ?_
    change VWp _ _ _ _ _
    refine vwp_seq ?_
    refine vwp_cond (b := true) (by kernel_rfl) (fun hb => ?_) (fun hb => ?_)
    case refine_2 => cases hb
    clear hb
    refine vwp_skip ?_
    change VWp _ _ _ _ _
    refine vwp_seq ?_
    refine vwp_block ?_
    refine vwp_seq ?_
    obtain ⟨hp7, h⟩ := ifS h
    refine vw_reg tok hC (anns := []) (f := { ks := [3, 5, 6, 7, 8] }) (ps := [(0 ≤ ((i2 : Nat) : Int) ∧ ((i2 : Nat) : Int) < ((x0.length : Nat) : Int))]) (st' := ⟨[(3, .val (.int .i64) (0 : Int)), (5, .val (.int .i64) (x0.getD i2 (0 : Int))), (6, .val ((.sl 3 (.int .i64))) x0), (7, .val (.int .i64) ((x0.length : Nat) : Int)), (8, .val (.int .i64) ((i2 : Nat) : Int))], [], []⟩) (by kernel_rfl) ⟨hp7, trivial⟩ ?_
    change VWp _ _ _ _ _
    refine vwp_seq ?_
    refine vw_reg tok hC (anns := []) (f := { ks := [3, 5, 6, 7, 8, 14] }) (ps := []) (st' := ⟨[(3, .val (.int .i64) (0 : Int)), (5, .val (.int .i64) (x0.getD i2 (0 : Int))), (6, .val ((.sl 3 (.int .i64))) x0), (7, .val (.int .i64) ((x0.length : Nat) : Int)), (8, .val (.int .i64) ((i2 : Nat) : Int)), (14, .val .bool ((x0.getD i2 (0 : Int)) != (0 : Int)))], [], []⟩) (by kernel_rfl) trivial ?_
    change VWp _ _ _ _ _
    refine vwp_cond (b := ((x0.getD i2 (0 : Int)) != (0 : Int))) (by kernel_rfl) (fun hb8 => ?_) (fun hb8 => ?_)
    · replace h := condT h hb8
      refine vwp_seq ?_
      refine vw_reg tok hC (anns := []) (f := { ks := [2] }) (ps := []) (st' := ⟨[(2, .val (.int .i64) (x0.getD i2 (0 : Int)))], [], []⟩) (by kernel_rfl) trivial ?_
      change VWp _ _ _ _ _
      obtain rfl := Option.some.inj h
      exact vwp_ret (r_retR (res := res65) (rows := rows65) ⟨by kernel_rfl, rfl⟩)
    · replace h := condF h hb8
      refine vwp_skip ?_
      change VWp _ _ _ _ _
      refine vw_reg tok hC (anns := [(0, { fixI := some ((i2 + 1 : Nat) : Int) })]) (f := { ks := [3, 6, 7, 8] }) (ps := [(iadd .i64 ((i2 : Nat) : Int) (1 : Int)) = ((i2 + 1 : Nat) : Int)]) (st' := ⟨[(3, .val (.int .i64) (0 : Int)), (6, .val ((.sl 3 (.int .i64))) x0), (7, .val (.int .i64) ((x0.length : Nat) : Int)), (8, .val (.int .i64) ((i2 + 1 : Nat) : Int))], [], []⟩) (by kernel_rfl) ⟨(iadd_one i2 (by omega)), trivial⟩ ?_
      obtain rfl := Option.some.inj h
      exact r_nextE (by kernel_rfl)
  · clear h
    refine vwp_seq ?_
    refine vw_reg tok hC (anns := [(0, { fix := some false })]) (f := { ks := [3, 6, 7, 8, 9] }) (ps := [(decide (((x0.length : Nat) : Int) < ((x0.length : Nat) : Int))) = false]) (st' := ⟨[(3, .val (.int .i64) (0 : Int)), (6, .val ((.sl 3 (.int .i64))) x0), (7, .val (.int .i64) ((x0.length : Nat) : Int)), (8, .val (.int .i64) ((x0.length : Nat) : Int)), (9, .val .bool false)], [], []⟩) (by kernel_rfl) ⟨(decide_eq_false (by omega)), trivial⟩ ?_
    change VWp _ _ _ _ _
    refine vwp_seq ?_
    refine vwp_cond (b := false) (by kernel_rfl) (fun hb => ?_) (fun hb => ?_)
    case refine_1 => cases hb
    clear hb
    refine vw_fin hC (f := { ks := [3] }) (st' := ⟨[(3, .val (.int .i64) (0 : Int))], [], []⟩) (by kernel_rfl) ?_
    refine vwp_exit ?_
    exact r_brkE (by kernel_rfl)
  · change VWp _ _ _ _ _
    refine vwp_seq ?_
    refine vw_reg tok hC (anns := []) (f := { ks := [2] }) (ps := []) (st' := ⟨[(2, .val (.int .i64) (0 : Int))], [], []⟩) (by kernel_rfl) trivial ?_
    change VWp _ _ _ _ _
    obtain rfl := Option.some.inj h
    exact vwp_ret (ret_q (res := res65) (rows := rows65) ⟨by kernel_rfl, rfl⟩)
  · obtain rfl := Option.some.inj h
    exact ret_q (res := res65) (rows := rows65) hR

/-! ### (ablaut/tally.part[int]).least -/
noncomputable def F86_b1  (s3 : Int × Int) : Option (Out (Int × Int) (Int) ((Int × Int))) :=
  (cond (s3.2 != (0 : Int)) (if (s3.2 ≠ 0) then (some (.next (s3.2, (irem .i64 s3.1 s3.2)))) else none) (some (.brk s3.1)))
noncomputable def F86 (x0 : Int × Int) : Option ((Int × Int)) :=
  ((wh F86_b1 x0).bind fun o6 => o6.fin (fun (s3 : Int × Int) => (0 : Int)) (fun (t4 : Int) => (if (t4 ≠ 0) then (if (t4 ≠ 0) then (some ((iquo .i64 x0.1 t4), (iquo .i64 x0.2 t4))) else none) else none)) (fun (r5 : (Int × Int)) => (some r5)))
def res86 (r : (Int × Int)) : Slot := .agg [.val (.int .i64) r.1, .val (.int .i64) r.2]
def rows86 (r : (Int × Int)) : List (Nat × Row) := []
theorem C86 {x0 : Int × Int} {r : (Int × Int)} (h : F86 x0 = some r) : CallOK Try.prog 86 [.agg [.val (.int .i64) x0.1, .val (.int .i64) x0.2]] (res86 r) (rows86 r) := by
  refine callOK_of' tok (f := 86) (fn := Try.f86) (by kernel_rfl) rfl (by kernel_rfl) (Nat.le_of_ble_eq_true (by kernel_rfl)) (fun C hC => ?_)
  unfold F86 at h
  refine vwp_seq ?_
  refine vw_reg tok hC (anns := [(0, { id := 1 }), (1, { id := 2 })]) (f := { ks := [1, 2], bs := [1, 2] }) (ps := []) (st' := ⟨[(1, .box 1 0), (2, .box 2 0)], [], [(1, (121, [.val (.int .i64) x0.1, .val (.int .i64) x0.2])), (2, (121, [.val (.int .i64) (0 : Int), .val (.int .i64) (0 : Int)]))]⟩) (by kernel_rfl) trivial ?_
  change VWp _ _ _ _ _
  refine vwp_seq ?_
  refine vw_any tok mixed hC (anns := []) (f := { ks := [1, 2, 3, 4], bs := [1, 2] }) (ps := []) (st' := ⟨[(1, .box 1 0), (2, .box 2 0), (3, .val (.int .i64) x0.1), (4, .val (.int .i64) x0.2)], [], [(1, (121, [.val (.int .i64) x0.1, .val (.int .i64) x0.2])), (2, (121, [.val (.int .i64) (0 : Int), .val (.int .i64) (0 : Int)]))]⟩) (by kernel_rfl) trivial ?_
  change VWp _ _ _ _ _
  refine vwp_seq ?_
  obtain ⟨o6, ho6, h⟩ := bindS h
  refine vw_wh (W := fun (s3 : Int × Int) => ⟨[(1, .box 1 0), (2, .box 2 0), (3, .val (.int .i64) s3.1), (4, .val (.int .i64) s3.2)], [], [(1, (121, [.val (.int .i64) x0.1, .val (.int .i64) x0.2])), (2, (121, [.val (.int .i64) (0 : Int), .val (.int .i64) (0 : Int)]))]⟩) (B := fun (t4 : Int) => ⟨[(1, .box 1 0), (2, .box 2 0), (3, .val (.int .i64) t4)], [], [(1, (121, [.val (.int .i64) x0.1, .val (.int .i64) x0.2])), (2, (121, [.val (.int .i64) (0 : Int), .val (.int .i64) (0 : Int)]))]⟩) (Rq := retR T Try.f86 res86 rows86) ho6 h (by kernel_rfl) (fun s3 o6 ho6 => ?_) (fun t4 h => ?_) (fun r5 st' h hR => ?_)
  · clear h
    replace h := ho6
    unfold F86_b1 at h
    refine vwp_seq ?_
    refine vwp_seq ?_
    refine vw_reg tok hC (anns := []) (f := { ks := [1, 2, 3, 4, 10], bs := [1, 2] }) (ps := []) (st' := ⟨[(1, .box 1 0), (2, .box 2 0), (3, .val (.int .i64) s3.1), (4, .val (.int .i64) s3.2), (10, .val .bool (s3.2 != (0 : Int)))], [], [(1, (121, [.val (.int .i64) x0.1, .val (.int .i64) x0.2])), (2, (121, [.val (.int .i64) (0 : Int), .val (.int .i64) (0 : Int)]))]⟩) (by kernel_rfl) trivial ?_
    change VWp _ _ _ _ _
    refine vwp_cond (b := (s3.2 != (0 : Int))) (by kernel_rfl) (fun hb7 => ?_) (fun hb7 => ?_)
    · replace h := condT h hb7
      refine vwp_skip ?_
      change VWp _ _ _ _ _
      refine vwp_block ?_
      obtain ⟨hp8, h⟩ := ifS h
      refine vw_any tok mixed hC (anns := []) (f := { ks := [1, 2, 3, 4], bs := [1, 2] }) (ps := [(s3.2 ≠ 0)]) (st' := ⟨[(1, .box 1 0), (2, .box 2 0), (3, .val (.int .i64) s3.2), (4, .val (.int .i64) (irem .i64 s3.1 s3.2))], [], [(1, (121, [.val (.int .i64) x0.1, .val (.int .i64) x0.2])), (2, (121, [.val (.int .i64) (0 : Int), .val (.int .i64) (0 : Int)]))]⟩) (by kernel_rfl) ⟨hp8, trivial⟩ ?_
      obtain rfl := Option.some.inj h
      exact r_nextE (by kernel_rfl)
    · replace h := condF h hb7
      refine vw_fin hC (f := { ks := [1, 2, 3], bs := [1, 2] }) (st' := ⟨[(1, .box 1 0), (2, .box 2 0), (3, .val (.int .i64) s3.1)], [], [(1, (121, [.val (.int .i64) x0.1, .val (.int .i64) x0.2])), (2, (121, [.val (.int .i64) (0 : Int), .val (.int .i64) (0 : Int)]))]⟩) (by kernel_rfl) ?_
      refine vwp_exit ?_
      obtain rfl := Option.some.inj h
      exact r_brkE (by kernel_rfl)
  · change VWp _ _ _ _ _
    refine vwp_seq ?_
    obtain ⟨hp9, h⟩ := ifS h
    obtain ⟨hp10, h⟩ := ifS h
    refine vw_any tok mixed hC (anns := []) (f := { ks := [2], bs := [2] }) (ps := [(t4 ≠ 0), (t4 ≠ 0)]) (st' := ⟨[(2, .box 2 0)], [], [(2, (121, [.val (.int .i64) (iquo .i64 x0.1 t4), .val (.int .i64) (iquo .i64 x0.2 t4)]))]⟩) (by kernel_rfl) ⟨hp9, hp10, trivial⟩ ?_
    change VWp _ _ _ _ _
    obtain rfl := Option.some.inj h
    exact vwp_ret (ret_q (res := res86) (rows := rows86) ⟨by kernel_rfl, rfl⟩)
  · obtain rfl := Option.some.inj h
    exact ret_q (res := res86) (rows := rows86) hR

/-! ### ablaut/tally.chosen -/
noncomputable def F87_b4 (x0 : Int) (i5 : Nat) (s6 : Int) : Option (Out (Int) (Int) (Int)) :=
  ((F86 (s6, ((i5 + 1 : Nat) : Int))).bind fun r10 => (if (r10.2 ≠ 0) then (some (.next (imul .i64 r10.1 (iquo .i64 (isub .i64 x0 ((i5 : Nat) : Int)) r10.2)))) else none))
noncomputable def F87 (x0 : Int) (x1 : Int) : Option (Int) :=
  ((cond (decide (x1 < (0 : Int))) (some true) (some (decide (x1 > x0)))).bind fun (o2 : Bool) => (cond o2 (some (0 : Int)) (if ((imin x1 (isub .i64 x0 x1)) ≤ 9223372036854775807) then ((forR (F87_b4 x0) (((imin x1 (isub .i64 x0 x1))).toNat) 0 (1 : Int)).bind fun o9 => o9.fin (fun (s6 : Int) => s6) (fun (t7 : Int) => (some t7)) (fun (r8 : Int) => (some r8))) else none)))
def res87 (r : Int) : Slot := .val (.int .i64) r
def rows87 (r : Int) : List (Nat × Row) := []
theorem C87 {x0 : Int} {x1 : Int} {r : Int} (h : F87 x0 x1 = some r) : CallOK Try.prog 87 [.val (.int .i64) x0, .val (.int .i64) x1] (res87 r) (rows87 r) := by
  refine callOK_of' tok (f := 87) (fn := Try.f87) (by kernel_rfl) rfl (by kernel_rfl) (Nat.le_of_ble_eq_true (by kernel_rfl)) (fun C hC => ?_)
  unfold F87 at h
  refine vwp_seq ?_
  refine vw_reg tok hC (anns := []) (f := { ks := [0, 1] }) (ps := []) (st' := ⟨[(0, .val (.int .i64) x0), (1, .val (.int .i64) x1)], [], []⟩) (by kernel_rfl) trivial ?_
  change VWp _ _ _ _ _
  refine vwp_seq ?_
  refine vwp_seq ?_
  obtain ⟨o2, ho2, h⟩ := bindS h
  refine vw_join (st1 := ⟨[(0, .val (.int .i64) x0), (1, .val (.int .i64) x1), (16, .val .bool o2)], [], []⟩) ?_ ?_
  · clear h
    rcases condS ho2 with ⟨hb1, ho2⟩ | ⟨hb1, ho2⟩
    · obtain rfl := Option.some.inj ho2
      refine vw_reg tok hC (anns := [(2, { fix := some true })]) (f := { ks := [0, 1, 16] }) (ps := [(decide (x1 < (0 : Int))) = true]) (st' := ⟨[(0, .val (.int .i64) x0), (1, .val (.int .i64) x1), (16, .val .bool true)], [], []⟩) (by kernel_rfl) ⟨hb1, trivial⟩ ?_
      exact r_nextE (by kernel_rfl)
    · obtain rfl := Option.some.inj ho2
      refine vw_reg tok hC (anns := [(2, { fix := some false })]) (f := { ks := [0, 1, 16] }) (ps := [(decide (x1 < (0 : Int))) = false]) (st' := ⟨[(0, .val (.int .i64) x0), (1, .val (.int .i64) x1), (16, .val .bool (decide (x1 > x0)))], [], []⟩) (by kernel_rfl) ⟨hb1, trivial⟩ ?_
      exact r_nextE (by kernel_rfl)
  · change VWp _ _ _ _ _
    refine vwp_cond (b := o2) (by kernel_rfl) (fun hb3 => ?_) (fun hb3 => ?_)
    · replace h := condT h hb3
      refine vwp_seq ?_
      refine vw_reg tok hC (anns := []) (f := { ks := [4] }) (ps := []) (st' := ⟨[(4, .val (.int .i64) (0 : Int))], [], []⟩) (by kernel_rfl) trivial ?_
      change VWp _ _ _ _ _
      obtain rfl := Option.some.inj h
      exact vwp_ret (ret_q (res := res87) (rows := rows87) ⟨by kernel_rfl, rfl⟩)
    · replace h := condF h hb3
      refine vwp_skip ?_
      change VWp _ _ _ _ _
      refine vwp_seq ?_
      refine vw_reg tok hC (anns := []) (f := { ks := [0, 1, 5] }) (ps := []) (st' := ⟨[(0, .val (.int .i64) x0), (1, .val (.int .i64) x1), (5, .val (.int .i64) (1 : Int))], [], []⟩) (by kernel_rfl) trivial ?_
      change VWp _ _ _ _ _
      refine vwp_seq ?_
      refine vwp_seq ?_
      refine vw_reg tok hC (anns := []) (f := { ks := [0, 5, 21, 22] }) (ps := []) (st' := ⟨[(0, .val (.int .i64) x0), (5, .val (.int .i64) (1 : Int)), (21, .val (.int .i64) (imin x1 (isub .i64 x0 x1))), (22, .val (.int .i64) (0 : Int))], [], []⟩) (by kernel_rfl) trivial ?_
      change VWp _ _ _ _ _
      obtain ⟨hbnd, h⟩ := ifS h
      obtain ⟨o9, ho9, h⟩ := bindS h
      refine vw_for (S := fun (i5 : Nat) (s6 : Int) => ⟨[(0, .val (.int .i64) x0), (5, .val (.int .i64) s6), (21, .val (.int .i64) (imin x1 (isub .i64 x0 x1))), (22, .val (.int .i64) ((i5 : Nat) : Int))], [], []⟩) (B := fun (t7 : Int) => ⟨[(5, .val (.int .i64) t7)], [], []⟩) (Rq := retR T Try.f87 res87 rows87) ho9 h (by kernel_rfl) (fun i5 s6 o9 hi ho9 => ?_) (fun s6 => ?_) (fun t7 h => ?_) (fun r8 st' h hR => ?_)
      · clear h
        replace h := ho9
        unfold F87_b4 at h
        refine vwp_seq ?_
        refine vw_reg tok hC (anns := [(0, { fix := some true })]) (f := { ks := [0, 5, 21, 22, 23] }) (ps := [(decide (((i5 : Nat) : Int) < (imin x1 (isub .i64 x0 x1)))) = true]) (st' := ⟨[(0, .val (.int .i64) x0), (5, .val (.int .i64) s6), (21, .val (.int .i64) (imin x1 (isub .i64 x0 x1))), (22, .val (.int .i64) ((i5 : Nat) : Int)), (23, .val .bool true)], [], []⟩) (by kernel_rfl) ⟨(decide_eq_true (by omega)), trivial⟩ ?_
        change VWp _ _ _ _ _
        refine vwp_seq ?_
        refine vwp_cond (b := true) (by kernel_rfl) (fun hb => ?_) (fun hb => ?_)
        case refine_2 => cases hb
        clear hb
        refine vwp_skip ?_
        change VWp _ _ _ _ _
        refine vwp_seq ?_
        refine vwp_block ?_
        refine vwp_seq ?_
        refine vw_reg tok hC (anns := []) (f := { ks := [0, 5, 6, 21, 22] }) (ps := []) (st' := ⟨[(0, .val (.int .i64) x0), (5, .val (.int .i64) s6), (6, .val (.int .i64) ((i5 : Nat) : Int)), (21, .val (.int .i64) (imin x1 (isub .i64 x0 x1))), (22, .val (.int .i64) ((i5 : Nat) : Int))], [], []⟩) (by kernel_rfl) trivial ?_
        change VWp _ _ _ _ _
        refine vwp_seq ?_
        refine vw_reg tok hC (anns := [(4, { fixI := some ((i5 + 1 : Nat) : Int) })]) (f := { ks := [0, 5, 7, 8, 21, 22] }) (ps := [(iadd .i64 ((i5 : Nat) : Int) (1 : Int)) = ((i5 + 1 : Nat) : Int)]) (st' := ⟨[(0, .val (.int .i64) x0), (5, .val (.int .i64) s6), (7, .val (.int .i64) (isub .i64 x0 ((i5 : Nat) : Int))), (8, .val (.int .i64) ((i5 + 1 : Nat) : Int)), (21, .val (.int .i64) (imin x1 (isub .i64 x0 x1))), (22, .val (.int .i64) ((i5 : Nat) : Int))], [], []⟩) (by kernel_rfl) ⟨(iadd_one i5 (by omega)), trivial⟩ ?_
        change VWp _ _ _ _ _
        refine vwp_seq ?_
        obtain ⟨r10, hr10, h⟩ := bindS h
        refine vw_reg tok hC (anns := [(3, { res := .agg [.val (.int .i64) r10.1, .val (.int .i64) r10.2] }), (4, { id := 9 })]) (f := { ks := [0, 7, 9, 21, 22], bs := [9] }) (ps := [CallOK Try.prog 86 [.agg [.val (.int .i64) s6, .val (.int .i64) ((i5 + 1 : Nat) : Int)]] (.agg [.val (.int .i64) r10.1, .val (.int .i64) r10.2]) []]) (st' := ⟨[(0, .val (.int .i64) x0), (7, .val (.int .i64) (isub .i64 x0 ((i5 : Nat) : Int))), (9, .box 9 0), (21, .val (.int .i64) (imin x1 (isub .i64 x0 x1))), (22, .val (.int .i64) ((i5 : Nat) : Int))], [], [(9, (121, [.val (.int .i64) r10.1, .val (.int .i64) r10.2]))]⟩) (by kernel_rfl) ⟨C86 hr10, trivial⟩ ?_
        change VWp _ _ _ _ _
        obtain ⟨hp11, h⟩ := ifS h
        refine vw_any tok mixed hC (anns := []) (f := { ks := [0, 5, 21, 22] }) (ps := [(r10.2 ≠ 0)]) (st' := ⟨[(0, .val (.int .i64) x0), (5, .val (.int .i64) (imul .i64 r10.1 (iquo .i64 (isub .i64 x0 ((i5 : Nat) : Int)) r10.2))), (21, .val (.int .i64) (imin x1 (isub .i64 x0 x1))), (22, .val (.int .i64) ((i5 : Nat) : Int))], [], []⟩) (by kernel_rfl) ⟨hp11, trivial⟩ ?_
        change VWp _ _ _ _ _
        refine vw_reg tok hC (anns := [(0, { fixI := some ((i5 + 1 : Nat) : Int) })]) (f := { ks := [0, 5, 21, 22] }) (ps := [(iadd .i64 ((i5 : Nat) : Int) (1 : Int)) = ((i5 + 1 : Nat) : Int)]) (st' := ⟨[(0, .val (.int .i64) x0), (5, .val (.int .i64) (imul .i64 r10.1 (iquo .i64 (isub .i64 x0 ((i5 : Nat) : Int)) r10.2))), (21, .val (.int .i64) (imin x1 (isub .i64 x0 x1))), (22, .val (.int .i64) ((i5 + 1 : Nat) : Int))], [], []⟩) (by kernel_rfl) ⟨(iadd_one i5 (by omega)), trivial⟩ ?_
        obtain rfl := Option.some.inj h
        exact r_nextE (by kernel_rfl)
      · clear h
        refine vwp_seq ?_
        refine vw_reg tok hC (anns := [(0, { fix := some false })]) (f := { ks := [0, 5, 21, 22, 23] }) (ps := [(decide (((((imin x1 (isub .i64 x0 x1))).toNat : Nat) : Int) < (imin x1 (isub .i64 x0 x1)))) = false]) (st' := ⟨[(0, .val (.int .i64) x0), (5, .val (.int .i64) s6), (21, .val (.int .i64) (imin x1 (isub .i64 x0 x1))), (22, .val (.int .i64) ((((imin x1 (isub .i64 x0 x1))).toNat : Nat) : Int)), (23, .val .bool false)], [], []⟩) (by kernel_rfl) ⟨(decide_eq_false (by omega)), trivial⟩ ?_
        change VWp _ _ _ _ _
        refine vwp_seq ?_
        refine vwp_cond (b := false) (by kernel_rfl) (fun hb => ?_) (fun hb => ?_)
        case refine_1 => cases hb
        clear hb
        refine vw_fin hC (f := { ks := [5] }) (st' := ⟨[(5, .val (.int .i64) s6)], [], []⟩) (by kernel_rfl) ?_
        refine vwp_exit ?_
        exact r_brkE (by kernel_rfl)
      · change VWp _ _ _ _ _
        refine vwp_seq ?_
        refine vw_reg tok hC (anns := []) (f := { ks := [4] }) (ps := []) (st' := ⟨[(4, .val (.int .i64) t7)], [], []⟩) (by kernel_rfl) trivial ?_
        change VWp _ _ _ _ _
        obtain rfl := Option.some.inj h
        exact vwp_ret (ret_q (res := res87) (rows := rows87) ⟨by kernel_rfl, rfl⟩)
      · obtain rfl := Option.some.inj h
        exact ret_q (res := res87) (rows := rows87) hR

/-! ### ablaut/tally.four -/
noncomputable def F68 (x0 : Int × Int × Int × Int) : Option (Int) :=
  ((cond (decide (x0.1 < (0 : Int))) (some true) (some (decide (x0.1 > (40 : Int))))).bind fun (o2 : Bool) => (cond o2 (some (1 : Int)) ((cond (decide (x0.2.1 < (0 : Int))) (some true) (some (decide (x0.2.1 > (40 : Int))))).bind fun (o5 : Bool) => (cond o5 (some (1 : Int)) ((cond (decide (x0.2.2.1 < (0 : Int))) (some true) (some (decide (x0.2.2.1 > (40 : Int))))).bind fun (o8 : Bool) => (cond o8 (some (1 : Int)) ((cond (decide (x0.2.2.2 < (0 : Int))) (some true) (some (decide (x0.2.2.2 > (40 : Int))))).bind fun (o11 : Bool) => (cond o11 (some (1 : Int)) (cond (decide ((iadd .i64 (iadd .i64 (iadd .i64 (iadd .i64 (0 : Int) x0.1) x0.2.1) x0.2.2.1) x0.2.2.2) > (40 : Int))) (some (1 : Int)) (some (0 : Int)))))))))))
def res68 (r : Int) : Slot := .val (.int .i64) r
def rows68 (r : Int) : List (Nat × Row) := []
theorem C68 {x0 : Int × Int × Int × Int} {r : Int} (h : F68 x0 = some r) : CallOK Try.prog 68 [.agg [.val (.int .i64) x0.1, .val (.int .i64) x0.2.1, .val (.int .i64) x0.2.2.1, .val (.int .i64) x0.2.2.2]] (res68 r) (rows68 r) := by
  refine callOK_of' tok (f := 68) (fn := Try.f68) (by kernel_rfl) rfl (by kernel_rfl) (Nat.le_of_ble_eq_true (by kernel_rfl)) (fun C hC => ?_)
  unfold F68 at h
  refine vwp_seq ?_
  refine vw_reg tok hC (anns := [(0, { id := 1 })]) (f := { ks := [1], bs := [1] }) (ps := []) (st' := ⟨[(1, .box 1 0)], [], [(1, (55, [.val (.int .i64) x0.1, .val (.int .i64) x0.2.1, .val (.int .i64) x0.2.2.1, .val (.int .i64) x0.2.2.2]))]⟩) (by kernel_rfl) trivial ?_
  change VWp _ _ _ _ _
  refine vwp_seq ?_
  refine vw_reg tok hC (anns := []) (f := { ks := [1, 3], bs := [1] }) (ps := []) (st' := ⟨[(1, .box 1 0), (3, .val (.int .i64) (0 : Int))], [], [(1, (55, [.val (.int .i64) x0.1, .val (.int .i64) x0.2.1, .val (.int .i64) x0.2.2.1, .val (.int .i64) x0.2.2.2]))]⟩) (by kernel_rfl) trivial ?_
  change VWp _ _ _ _ _
  refine vwp_seq ?_
  refine vwp_seq ?_
  refine vw_reg tok hC (anns := []) (f := { ks := [3, 6, 7] }) (ps := []) (st' := ⟨[(3, .val (.int .i64) (0 : Int)), (6, .agg [.val (.int .i64) x0.1, .val (.int .i64) x0.2.1, .val (.int .i64) x0.2.2.1, .val (.int .i64) x0.2.2.2]), (7, .val (.int .i64) (0 : Int))], [], []⟩) (by kernel_rfl) trivial ?_
  change VWp _ _ _ _ _
  refine vw_rounds 5 ?_
  refine v_round ?_
  refine vwp_seq ?_
  refine vw_reg tok hC (anns := []) (f := { ks := [3, 6, 7, 8] }) (ps := []) (st' := ⟨[(3, .val (.int .i64) (0 : Int)), (6, .agg [.val (.int .i64) x0.1, .val (.int .i64) x0.2.1, .val (.int .i64) x0.2.2.1, .val (.int .i64) x0.2.2.2]), (7, .val (.int .i64) (0 : Int)), (8, .val .bool true)], [], []⟩) (by kernel_rfl) trivial ?_
  change VWp _ _ _ _ _
  refine vwp_seq ?_
  refine vwp_cond (b := true) (by kernel_rfl) (fun hb => ?_) (fun hb => ?_)
  case refine_2 => cases hb
  clear hb
  refine vwp_skip ?_
  change VWp _ _ _ _ _
  refine vwp_seq ?_
  refine vwp_block ?_
  refine vwp_seq ?_
  refine vw_reg tok hC (anns := []) (f := { ks := [3, 5, 6, 7] }) (ps := [(0 ≤ (0 : Int) ∧ (0 : Int) < (4 : Int))]) (st' := ⟨[(3, .val (.int .i64) (0 : Int)), (5, .val (.int .i64) x0.1), (6, .agg [.val (.int .i64) x0.1, .val (.int .i64) x0.2.1, .val (.int .i64) x0.2.2.1, .val (.int .i64) x0.2.2.2]), (7, .val (.int .i64) (0 : Int))], [], []⟩) (by kernel_rfl) ⟨by decide, trivial⟩ ?_
  change VWp _ _ _ _ _
  refine vwp_seq ?_
  refine vwp_seq ?_
  obtain ⟨o2, ho2, h⟩ := bindS h
  refine vw_join (st1 := ⟨[(3, .val (.int .i64) (0 : Int)), (5, .val (.int .i64) x0.1), (6, .agg [.val (.int .i64) x0.1, .val (.int .i64) x0.2.1, .val (.int .i64) x0.2.2.1, .val (.int .i64) x0.2.2.2]), (7, .val (.int .i64) (0 : Int)), (15, .val .bool o2)], [], []⟩) ?_ ?_
  · clear h
    rcases condS ho2 with ⟨hb1, ho2⟩ | ⟨hb1, ho2⟩
    · obtain rfl := Option.some.inj ho2
      refine vw_reg tok hC (anns := [(2, { fix := some true })]) (f := { ks := [3, 5, 6, 7, 15] }) (ps := [(decide (x0.1 < (0 : Int))) = true]) (st' := ⟨[(3, .val (.int .i64) (0 : Int)), (5, .val (.int .i64) x0.1), (6, .agg [.val (.int .i64) x0.1, .val (.int .i64) x0.2.1, .val (.int .i64) x0.2.2.1, .val (.int .i64) x0.2.2.2]), (7, .val (.int .i64) (0 : Int)), (15, .val .bool true)], [], []⟩) (by kernel_rfl) ⟨hb1, trivial⟩ ?_
      exact r_nextE (by kernel_rfl)
    · obtain rfl := Option.some.inj ho2
      refine vw_reg tok hC (anns := [(2, { fix := some false })]) (f := { ks := [3, 5, 6, 7, 15] }) (ps := [(decide (x0.1 < (0 : Int))) = false]) (st' := ⟨[(3, .val (.int .i64) (0 : Int)), (5, .val (.int .i64) x0.1), (6, .agg [.val (.int .i64) x0.1, .val (.int .i64) x0.2.1, .val (.int .i64) x0.2.2.1, .val (.int .i64) x0.2.2.2]), (7, .val (.int .i64) (0 : Int)), (15, .val .bool (decide (x0.1 > (40 : Int))))], [], []⟩) (by kernel_rfl) ⟨hb1, trivial⟩ ?_
      exact r_nextE (by kernel_rfl)
  · change VWp _ _ _ _ _
    refine vwp_cond (b := o2) (by kernel_rfl) (fun hb3 => ?_) (fun hb3 => ?_)
    · replace h := condT h hb3
      refine vwp_seq ?_
      refine vw_reg tok hC (anns := []) (f := { ks := [2] }) (ps := []) (st' := ⟨[(2, .val (.int .i64) (1 : Int))], [], []⟩) (by kernel_rfl) trivial ?_
      change VWp _ _ _ _ _
      obtain rfl := Option.some.inj h
      exact vwp_ret (ret_q (res := res68) (rows := rows68) ⟨by kernel_rfl, rfl⟩)
    · replace h := condF h hb3
      refine vwp_skip ?_
      change VWp _ _ _ _ _
      refine vw_reg tok hC (anns := []) (f := { ks := [3, 6, 7] }) (ps := []) (st' := ⟨[(3, .val (.int .i64) (iadd .i64 (0 : Int) x0.1)), (6, .agg [.val (.int .i64) x0.1, .val (.int .i64) x0.2.1, .val (.int .i64) x0.2.2.1, .val (.int .i64) x0.2.2.2]), (7, .val (.int .i64) (0 : Int))], [], []⟩) (by kernel_rfl) trivial ?_
      change VWp _ _ _ _ _
      refine vw_reg tok hC (anns := []) (f := { ks := [3, 6, 7] }) (ps := []) (st' := ⟨[(3, .val (.int .i64) (iadd .i64 (0 : Int) x0.1)), (6, .agg [.val (.int .i64) x0.1, .val (.int .i64) x0.2.1, .val (.int .i64) x0.2.2.1, .val (.int .i64) x0.2.2.2]), (7, .val (.int .i64) (1 : Int))], [], []⟩) (by kernel_rfl) trivial ?_
      change vrounds _ _ _ _ _ _
      refine v_round ?_
      refine vwp_seq ?_
      refine vw_reg tok hC (anns := []) (f := { ks := [3, 6, 7, 8] }) (ps := []) (st' := ⟨[(3, .val (.int .i64) (iadd .i64 (0 : Int) x0.1)), (6, .agg [.val (.int .i64) x0.1, .val (.int .i64) x0.2.1, .val (.int .i64) x0.2.2.1, .val (.int .i64) x0.2.2.2]), (7, .val (.int .i64) (1 : Int)), (8, .val .bool true)], [], []⟩) (by kernel_rfl) trivial ?_
      change VWp _ _ _ _ _
      refine vwp_seq ?_
      refine vwp_cond (b := true) (by kernel_rfl) (fun hb => ?_) (fun hb => ?_)
      case refine_2 => cases hb
      clear hb
      refine vwp_skip ?_
      change VWp _ _ _ _ _
      refine vwp_seq ?_
      refine vwp_block ?_
      refine vwp_seq ?_
      refine vw_reg tok hC (anns := []) (f := { ks := [3, 5, 6, 7] }) (ps := [(0 ≤ (1 : Int) ∧ (1 : Int) < (4 : Int))]) (st' := ⟨[(3, .val (.int .i64) (iadd .i64 (0 : Int) x0.1)), (5, .val (.int .i64) x0.2.1), (6, .agg [.val (.int .i64) x0.1, .val (.int .i64) x0.2.1, .val (.int .i64) x0.2.2.1, .val (.int .i64) x0.2.2.2]), (7, .val (.int .i64) (1 : Int))], [], []⟩) (by kernel_rfl) ⟨by decide, trivial⟩ ?_
      change VWp _ _ _ _ _
      refine vwp_seq ?_
      refine vwp_seq ?_
      obtain ⟨o5, ho5, h⟩ := bindS h
      refine vw_join (st1 := ⟨[(3, .val (.int .i64) (iadd .i64 (0 : Int) x0.1)), (5, .val (.int .i64) x0.2.1), (6, .agg [.val (.int .i64) x0.1, .val (.int .i64) x0.2.1, .val (.int .i64) x0.2.2.1, .val (.int .i64) x0.2.2.2]), (7, .val (.int .i64) (1 : Int)), (15, .val .bool o5)], [], []⟩) ?_ ?_
      · clear h
        rcases condS ho5 with ⟨hb4, ho5⟩ | ⟨hb4, ho5⟩
        · obtain rfl := Option.some.inj ho5
          refine vw_reg tok hC (anns := [(2, { fix := some true })]) (f := { ks := [3, 5, 6, 7, 15] }) (ps := [(decide (x0.2.1 < (0 : Int))) = true]) (st' := ⟨[(3, .val (.int .i64) (iadd .i64 (0 : Int) x0.1)), (5, .val (.int .i64) x0.2.1), (6, .agg [.val (.int .i64) x0.1, .val (.int .i64) x0.2.1, .val (.int .i64) x0.2.2.1, .val (.int .i64) x0.2.2.2]), (7, .val (.int .i64) (1 : Int)), (15, .val .bool true)], [], []⟩) (by kernel_rfl) ⟨hb4, trivial⟩ ?_
          exact r_nextE (by kernel_rfl)
        · obtain rfl := Option.some.inj ho5
          refine vw_reg tok hC (anns := [(2, { fix := some false })]) (f := { ks := [3, 5, 6, 7, 15] }) (ps := [(decide (x0.2.1 < (0 : Int))) = false]) (st' := ⟨[(3, .val (.int .i64) (iadd .i64 (0 : Int) x0.1)), (5, .val (.int .i64) x0.2.1), (6, .agg [.val (.int .i64) x0.1, .val (.int .i64) x0.2.1, .val (.int .i64) x0.2.2.1, .val (.int .i64) x0.2.2.2]), (7, .val (.int .i64) (1 : Int)), (15, .val .bool (decide (x0.2.1 > (40 : Int))))], [], []⟩) (by kernel_rfl) ⟨hb4, trivial⟩ ?_
          exact r_nextE (by kernel_rfl)
      · change VWp _ _ _ _ _
        refine vwp_cond (b := o5) (by kernel_rfl) (fun hb6 => ?_) (fun hb6 => ?_)
        · replace h := condT h hb6
          refine vwp_seq ?_
          refine vw_reg tok hC (anns := []) (f := { ks := [2] }) (ps := []) (st' := ⟨[(2, .val (.int .i64) (1 : Int))], [], []⟩) (by kernel_rfl) trivial ?_
          change VWp _ _ _ _ _
          obtain rfl := Option.some.inj h
          exact vwp_ret (ret_q (res := res68) (rows := rows68) ⟨by kernel_rfl, rfl⟩)
        · replace h := condF h hb6
          refine vwp_skip ?_
          change VWp _ _ _ _ _
          refine vw_reg tok hC (anns := []) (f := { ks := [3, 6, 7] }) (ps := []) (st' := ⟨[(3, .val (.int .i64) (iadd .i64 (iadd .i64 (0 : Int) x0.1) x0.2.1)), (6, .agg [.val (.int .i64) x0.1, .val (.int .i64) x0.2.1, .val (.int .i64) x0.2.2.1, .val (.int .i64) x0.2.2.2]), (7, .val (.int .i64) (1 : Int))], [], []⟩) (by kernel_rfl) trivial ?_
          change VWp _ _ _ _ _
          refine vw_reg tok hC (anns := []) (f := { ks := [3, 6, 7] }) (ps := []) (st' := ⟨[(3, .val (.int .i64) (iadd .i64 (iadd .i64 (0 : Int) x0.1) x0.2.1)), (6, .agg [.val (.int .i64) x0.1, .val (.int .i64) x0.2.1, .val (.int .i64) x0.2.2.1, .val (.int .i64) x0.2.2.2]), (7, .val (.int .i64) (2 : Int))], [], []⟩) (by kernel_rfl) trivial ?_
          change vrounds _ _ _ _ _ _
          refine v_round ?_
          refine vwp_seq ?_
          refine vw_reg tok hC (anns := []) (f := { ks := [3, 6, 7, 8] }) (ps := []) (st' := ⟨[(3, .val (.int .i64) (iadd .i64 (iadd .i64 (0 : Int) x0.1) x0.2.1)), (6, .agg [.val (.int .i64) x0.1, .val (.int .i64) x0.2.1, .val (.int .i64) x0.2.2.1, .val (.int .i64) x0.2.2.2]), (7, .val (.int .i64) (2 : Int)), (8, .val .bool true)], [], []⟩) (by kernel_rfl) trivial ?_
          change VWp _ _ _ _ _
          refine vwp_seq ?_
          refine vwp_cond (b := true) (by kernel_rfl) (fun hb => ?_) (fun hb => ?_)
          case refine_2 => cases hb
          clear hb
          refine vwp_skip ?_
          change VWp _ _ _ _ _
          refine vwp_seq ?_
          refine vwp_block ?_
          refine vwp_seq ?_
          refine vw_reg tok hC (anns := []) (f := { ks := [3, 5, 6, 7] }) (ps := [(0 ≤ (2 : Int) ∧ (2 : Int) < (4 : Int))]) (st' := ⟨[(3, .val (.int .i64) (iadd .i64 (iadd .i64 (0 : Int) x0.1) x0.2.1)), (5, .val (.int .i64) x0.2.2.1), (6, .agg [.val (.int .i64) x0.1, .val (.int .i64) x0.2.1, .val (.int .i64) x0.2.2.1, .val (.int .i64) x0.2.2.2]), (7, .val (.int .i64) (2 : Int))], [], []⟩) (by kernel_rfl) ⟨by decide, trivial⟩ ?_
          change VWp _ _ _ _ _
          refine vwp_seq ?_
          refine vwp_seq ?_
          obtain ⟨o8, ho8, h⟩ := bindS h
          refine vw_join (st1 := ⟨[(3, .val (.int .i64) (iadd .i64 (iadd .i64 (0 : Int) x0.1) x0.2.1)), (5, .val (.int .i64) x0.2.2.1), (6, .agg [.val (.int .i64) x0.1, .val (.int .i64) x0.2.1, .val (.int .i64) x0.2.2.1, .val (.int .i64) x0.2.2.2]), (7, .val (.int .i64) (2 : Int)), (15, .val .bool o8)], [], []⟩) ?_ ?_
          · clear h
            rcases condS ho8 with ⟨hb7, ho8⟩ | ⟨hb7, ho8⟩
            · obtain rfl := Option.some.inj ho8
              refine vw_reg tok hC (anns := [(2, { fix := some true })]) (f := { ks := [3, 5, 6, 7, 15] }) (ps := [(decide (x0.2.2.1 < (0 : Int))) = true]) (st' := ⟨[(3, .val (.int .i64) (iadd .i64 (iadd .i64 (0 : Int) x0.1) x0.2.1)), (5, .val (.int .i64) x0.2.2.1), (6, .agg [.val (.int .i64) x0.1, .val (.int .i64) x0.2.1, .val (.int .i64) x0.2.2.1, .val (.int .i64) x0.2.2.2]), (7, .val (.int .i64) (2 : Int)), (15, .val .bool true)], [], []⟩) (by kernel_rfl) ⟨hb7, trivial⟩ ?_
              exact r_nextE (by kernel_rfl)
            · obtain rfl := Option.some.inj ho8
              refine vw_reg tok hC (anns := [(2, { fix := some false })]) (f := { ks := [3, 5, 6, 7, 15] }) (ps := [(decide (x0.2.2.1 < (0 : Int))) = false]) (st' := ⟨[(3, .val (.int .i64) (iadd .i64 (iadd .i64 (0 : Int) x0.1) x0.2.1)), (5, .val (.int .i64) x0.2.2.1), (6, .agg [.val (.int .i64) x0.1, .val (.int .i64) x0.2.1, .val (.int .i64) x0.2.2.1, .val (.int .i64) x0.2.2.2]), (7, .val (.int .i64) (2 : Int)), (15, .val .bool (decide (x0.2.2.1 > (40 : Int))))], [], []⟩) (by kernel_rfl) ⟨hb7, trivial⟩ ?_
              exact r_nextE (by kernel_rfl)
          · change VWp _ _ _ _ _
            refine vwp_cond (b := o8) (by kernel_rfl) (fun hb9 => ?_) (fun hb9 => ?_)
            · replace h := condT h hb9
              refine vwp_seq ?_
              refine vw_reg tok hC (anns := []) (f := { ks := [2] }) (ps := []) (st' := ⟨[(2, .val (.int .i64) (1 : Int))], [], []⟩) (by kernel_rfl) trivial ?_
              change VWp _ _ _ _ _
              obtain rfl := Option.some.inj h
              exact vwp_ret (ret_q (res := res68) (rows := rows68) ⟨by kernel_rfl, rfl⟩)
            · replace h := condF h hb9
              refine vwp_skip ?_
              change VWp _ _ _ _ _
              refine vw_reg tok hC (anns := []) (f := { ks := [3, 6, 7] }) (ps := []) (st' := ⟨[(3, .val (.int .i64) (iadd .i64 (iadd .i64 (iadd .i64 (0 : Int) x0.1) x0.2.1) x0.2.2.1)), (6, .agg [.val (.int .i64) x0.1, .val (.int .i64) x0.2.1, .val (.int .i64) x0.2.2.1, .val (.int .i64) x0.2.2.2]), (7, .val (.int .i64) (2 : Int))], [], []⟩) (by kernel_rfl) trivial ?_
              change VWp _ _ _ _ _
              refine vw_reg tok hC (anns := []) (f := { ks := [3, 6, 7] }) (ps := []) (st' := ⟨[(3, .val (.int .i64) (iadd .i64 (iadd .i64 (iadd .i64 (0 : Int) x0.1) x0.2.1) x0.2.2.1)), (6, .agg [.val (.int .i64) x0.1, .val (.int .i64) x0.2.1, .val (.int .i64) x0.2.2.1, .val (.int .i64) x0.2.2.2]), (7, .val (.int .i64) (3 : Int))], [], []⟩) (by kernel_rfl) trivial ?_
              change vrounds _ _ _ _ _ _
              refine v_round ?_
              refine vwp_seq ?_
              refine vw_reg tok hC (anns := []) (f := { ks := [3, 6, 7, 8] }) (ps := []) (st' := ⟨[(3, .val (.int .i64) (iadd .i64 (iadd .i64 (iadd .i64 (0 : Int) x0.1) x0.2.1) x0.2.2.1)), (6, .agg [.val (.int .i64) x0.1, .val (.int .i64) x0.2.1, .val (.int .i64) x0.2.2.1, .val (.int .i64) x0.2.2.2]), (7, .val (.int .i64) (3 : Int)), (8, .val .bool true)], [], []⟩) (by kernel_rfl) trivial ?_
              change VWp _ _ _ _ _
              refine vwp_seq ?_
              refine vwp_cond (b := true) (by kernel_rfl) (fun hb => ?_) (fun hb => ?_)
              case refine_2 => cases hb
              clear hb
              refine vwp_skip ?_
              change VWp _ _ _ _ _
              refine vwp_seq ?_
              refine vwp_block ?_
              refine vwp_seq ?_
              refine vw_reg tok hC (anns := []) (f := { ks := [3, 5, 6, 7] }) (ps := [(0 ≤ (3 : Int) ∧ (3 : Int) < (4 : Int))]) (st' := ⟨[(3, .val (.int .i64) (iadd .i64 (iadd .i64 (iadd .i64 (0 : Int) x0.1) x0.2.1) x0.2.2.1)), (5, .val (.int .i64) x0.2.2.2), (6, .agg [.val (.int .i64) x0.1, .val (.int .i64) x0.2.1, .val (.int .i64) x0.2.2.1, .val (.int .i64) x0.2.2.2]), (7, .val (.int .i64) (3 : Int))], [], []⟩) (by kernel_rfl) ⟨by decide, trivial⟩ ?_
              change VWp _ _ _ _ _
              refine vwp_seq ?_
              refine vwp_seq ?_
              obtain ⟨o11, ho11, h⟩ := bindS h
              refine vw_join (st1 := ⟨[(3, .val (.int .i64) (iadd .i64 (iadd .i64 (iadd .i64 (0 : Int) x0.1) x0.2.1) x0.2.2.1)), (5, .val (.int .i64) x0.2.2.2), (6, .agg [.val (.int .i64) x0.1, .val (.int .i64) x0.2.1, .val (.int .i64) x0.2.2.1, .val (.int .i64) x0.2.2.2]), (7, .val (.int .i64) (3 : Int)), (15, .val .bool o11)], [], []⟩) ?_ ?_
              · clear h
                rcases condS ho11 with ⟨hb10, ho11⟩ | ⟨hb10, ho11⟩
                · obtain rfl := Option.some.inj ho11
                  refine vw_reg tok hC (anns := [(2, { fix := some true })]) (f := { ks := [3, 5, 6, 7, 15] }) (ps := [(decide (x0.2.2.2 < (0 : Int))) = true]) (st' := ⟨[(3, .val (.int .i64) (iadd .i64 (iadd .i64 (iadd .i64 (0 : Int) x0.1) x0.2.1) x0.2.2.1)), (5, .val (.int .i64) x0.2.2.2), (6, .agg [.val (.int .i64) x0.1, .val (.int .i64) x0.2.1, .val (.int .i64) x0.2.2.1, .val (.int .i64) x0.2.2.2]), (7, .val (.int .i64) (3 : Int)), (15, .val .bool true)], [], []⟩) (by kernel_rfl) ⟨hb10, trivial⟩ ?_
                  exact r_nextE (by kernel_rfl)
                · obtain rfl := Option.some.inj ho11
                  refine vw_reg tok hC (anns := [(2, { fix := some false })]) (f := { ks := [3, 5, 6, 7, 15] }) (ps := [(decide (x0.2.2.2 < (0 : Int))) = false]) (st' := ⟨[(3, .val (.int .i64) (iadd .i64 (iadd .i64 (iadd .i64 (0 : Int) x0.1) x0.2.1) x0.2.2.1)), (5, .val (.int .i64) x0.2.2.2), (6, .agg [.val (.int .i64) x0.1, .val (.int .i64) x0.2.1, .val (.int .i64) x0.2.2.1, .val (.int .i64) x0.2.2.2]), (7, .val (.int .i64) (3 : Int)), (15, .val .bool (decide (x0.2.2.2 > (40 : Int))))], [], []⟩) (by kernel_rfl) ⟨hb10, trivial⟩ ?_
                  exact r_nextE (by kernel_rfl)
              · change VWp _ _ _ _ _
                refine vwp_cond (b := o11) (by kernel_rfl) (fun hb12 => ?_) (fun hb12 => ?_)
                · replace h := condT h hb12
                  refine vwp_seq ?_
                  refine vw_reg tok hC (anns := []) (f := { ks := [2] }) (ps := []) (st' := ⟨[(2, .val (.int .i64) (1 : Int))], [], []⟩) (by kernel_rfl) trivial ?_
                  change VWp _ _ _ _ _
                  obtain rfl := Option.some.inj h
                  exact vwp_ret (ret_q (res := res68) (rows := rows68) ⟨by kernel_rfl, rfl⟩)
                · replace h := condF h hb12
                  refine vwp_skip ?_
                  change VWp _ _ _ _ _
                  refine vw_reg tok hC (anns := []) (f := { ks := [3, 6, 7] }) (ps := []) (st' := ⟨[(3, .val (.int .i64) (iadd .i64 (iadd .i64 (iadd .i64 (iadd .i64 (0 : Int) x0.1) x0.2.1) x0.2.2.1) x0.2.2.2)), (6, .agg [.val (.int .i64) x0.1, .val (.int .i64) x0.2.1, .val (.int .i64) x0.2.2.1, .val (.int .i64) x0.2.2.2]), (7, .val (.int .i64) (3 : Int))], [], []⟩) (by kernel_rfl) trivial ?_
                  change VWp _ _ _ _ _
                  refine vw_reg tok hC (anns := []) (f := { ks := [3, 6, 7] }) (ps := []) (st' := ⟨[(3, .val (.int .i64) (iadd .i64 (iadd .i64 (iadd .i64 (iadd .i64 (0 : Int) x0.1) x0.2.1) x0.2.2.1) x0.2.2.2)), (6, .agg [.val (.int .i64) x0.1, .val (.int .i64) x0.2.1, .val (.int .i64) x0.2.2.1, .val (.int .i64) x0.2.2.2]), (7, .val (.int .i64) (4 : Int))], [], []⟩) (by kernel_rfl) trivial ?_
                  change vrounds _ _ _ _ _ _
                  refine v_round ?_
                  refine vwp_seq ?_
                  refine vw_reg tok hC (anns := []) (f := { ks := [3, 6, 7, 8] }) (ps := []) (st' := ⟨[(3, .val (.int .i64) (iadd .i64 (iadd .i64 (iadd .i64 (iadd .i64 (0 : Int) x0.1) x0.2.1) x0.2.2.1) x0.2.2.2)), (6, .agg [.val (.int .i64) x0.1, .val (.int .i64) x0.2.1, .val (.int .i64) x0.2.2.1, .val (.int .i64) x0.2.2.2]), (7, .val (.int .i64) (4 : Int)), (8, .val .bool false)], [], []⟩) (by kernel_rfl) trivial ?_
                  change VWp _ _ _ _ _
                  refine vwp_seq ?_
                  refine vwp_cond (b := false) (by kernel_rfl) (fun hb => ?_) (fun hb => ?_)
                  case refine_1 => cases hb
                  clear hb
                  refine vwp_exit ?_
                  change VWp _ _ _ _ _
                  refine vwp_seq ?_
                  refine vwp_seq ?_
                  refine vw_reg tok hC (anns := []) (f := { ks := [21] }) (ps := []) (st' := ⟨[(21, .val .bool (decide ((iadd .i64 (iadd .i64 (iadd .i64 (iadd .i64 (0 : Int) x0.1) x0.2.1) x0.2.2.1) x0.2.2.2) > (40 : Int))))], [], []⟩) (by kernel_rfl) trivial ?_
                  change VWp _ _ _ _ _
                  refine vwp_cond (b := (decide ((iadd .i64 (iadd .i64 (iadd .i64 (iadd .i64 (0 : Int) x0.1) x0.2.1) x0.2.2.1) x0.2.2.2) > (40 : Int)))) (by kernel_rfl) (fun hb13 => ?_) (fun hb13 => ?_)
                  · replace h := condT h hb13
                    refine vwp_seq ?_
                    refine vw_reg tok hC (anns := []) (f := { ks := [2] }) (ps := []) (st' := ⟨[(2, .val (.int .i64) (1 : Int))], [], []⟩) (by kernel_rfl) trivial ?_
                    change VWp _ _ _ _ _
                    obtain rfl := Option.some.inj h
                    exact vwp_ret (ret_q (res := res68) (rows := rows68) ⟨by kernel_rfl, rfl⟩)
                  · replace h := condF h hb13
                    refine vwp_skip ?_
                    change VWp _ _ _ _ _
                    refine vwp_seq ?_
                    refine vw_reg tok hC (anns := []) (f := { ks := [2] }) (ps := []) (st' := ⟨[(2, .val (.int .i64) (0 : Int))], [], []⟩) (by kernel_rfl) trivial ?_
                    change VWp _ _ _ _ _
                    obtain rfl := Option.some.inj h
                    exact vwp_ret (ret_q (res := res68) (rows := rows68) ⟨by kernel_rfl, rfl⟩)

/-! ### ablaut/tally.share -/
noncomputable def F69 (x0 : Int) (x1 : Int) : Option ((Int × Int)) :=
  ((F86 (x0, x1)).bind fun r1 => (some r1))
def res69 (r : (Int × Int)) : Slot := .agg [.val (.int .i64) r.1, .val (.int .i64) r.2]
def rows69 (r : (Int × Int)) : List (Nat × Row) := []
theorem C69 {x0 : Int} {x1 : Int} {r : (Int × Int)} (h : F69 x0 x1 = some r) : CallOK Try.prog 69 [.val (.int .i64) x0, .val (.int .i64) x1] (res69 r) (rows69 r) := by
  refine callOK_of' tok (f := 69) (fn := Try.f69) (by kernel_rfl) rfl (by kernel_rfl) (Nat.le_of_ble_eq_true (by kernel_rfl)) (fun C hC => ?_)
  unfold F69 at h
  refine vwp_seq ?_
  refine vw_reg tok hC (anns := [(0, { id := 4 })]) (f := { ks := [0, 1, 4], bs := [4] }) (ps := []) (st' := ⟨[(0, .val (.int .i64) x0), (1, .val (.int .i64) x1), (4, .box 4 0)], [], [(4, (23, [.val (.int .i64) (0 : Int), .val (.int .i64) (0 : Int)]))]⟩) (by kernel_rfl) trivial ?_
  change VWp _ _ _ _ _
  refine vwp_seq ?_
  obtain ⟨r1, hr1, h⟩ := bindS h
  refine vw_reg tok hC (anns := [(3, { res := .agg [.val (.int .i64) r1.1, .val (.int .i64) r1.2] }), (4, { id := 5 })]) (f := { ks := [4, 5], bs := [4, 5] }) (ps := [CallOK Try.prog 86 [.agg [.val (.int .i64) x0, .val (.int .i64) x1]] (.agg [.val (.int .i64) r1.1, .val (.int .i64) r1.2]) []]) (st' := ⟨[(4, .box 4 0), (5, .box 5 0)], [], [(4, (23, [.val (.int .i64) (0 : Int), .val (.int .i64) (0 : Int)])), (5, (121, [.val (.int .i64) r1.1, .val (.int .i64) r1.2]))]⟩) (by kernel_rfl) ⟨C86 hr1, trivial⟩ ?_
  change VWp _ _ _ _ _
  refine vwp_seq ?_
  refine vw_reg tok hC (anns := []) (f := { ks := [4], bs := [4] }) (ps := []) (st' := ⟨[(4, .box 4 0)], [], [(4, (23, [.val (.int .i64) r1.1, .val (.int .i64) r1.2]))]⟩) (by kernel_rfl) trivial ?_
  change VWp _ _ _ _ _
  obtain rfl := Option.some.inj h
  exact vwp_ret (ret_q (res := res69) (rows := rows69) ⟨by kernel_rfl, rfl⟩)

/-! ### ablaut/tally.tables -/
noncomputable def F70 (x0 : Int × Int × Int × Int) : Option (Int × Int) :=
  ((F87 (iadd .i64 x0.1 x0.2.1) x0.1).bind fun r1 => ((F87 (iadd .i64 x0.2.2.1 x0.2.2.2) x0.2.2.1).bind fun r2 => ((F87 (iadd .i64 (iadd .i64 (iadd .i64 x0.1 x0.2.1) x0.2.2.1) x0.2.2.2) (iadd .i64 x0.1 x0.2.2.1)).bind fun r3 => (some ((imul .i64 r1 r2), r3)))))
def res70 (r : Int × Int) : Slot := .tup [.val (.int .i64) r.1, .val (.int .i64) r.2]
def rows70 (r : Int × Int) : List (Nat × Row) := []
theorem C70 {x0 : Int × Int × Int × Int} {r : Int × Int} (h : F70 x0 = some r) : CallOK Try.prog 70 [.agg [.val (.int .i64) x0.1, .val (.int .i64) x0.2.1, .val (.int .i64) x0.2.2.1, .val (.int .i64) x0.2.2.2]] (res70 r) (rows70 r) := by
  refine callOK_of' tok (f := 70) (fn := Try.f70) (by kernel_rfl) rfl (by kernel_rfl) (Nat.le_of_ble_eq_true (by kernel_rfl)) (fun C hC => ?_)
  unfold F70 at h
  refine vwp_seq ?_
  refine vw_reg tok hC (anns := [(0, { id := 1 })]) (f := { ks := [1], bs := [1] }) (ps := []) (st' := ⟨[(1, .box 1 0)], [], [(1, (55, [.val (.int .i64) x0.1, .val (.int .i64) x0.2.1, .val (.int .i64) x0.2.2.1, .val (.int .i64) x0.2.2.2]))]⟩) (by kernel_rfl) trivial ?_
  change VWp _ _ _ _ _
  refine vwp_seq ?_
  refine vw_any tok mixed hC (anns := []) (f := { ks := [4, 5, 6, 7] }) (ps := [(0 ≤ (0 : Int) ∧ (0 : Int) < (4 : Int)), (0 ≤ (1 : Int) ∧ (1 : Int) < (4 : Int)), (0 ≤ (2 : Int) ∧ (2 : Int) < (4 : Int)), (0 ≤ (3 : Int) ∧ (3 : Int) < (4 : Int))]) (st' := ⟨[(4, .val (.int .i64) x0.1), (5, .val (.int .i64) x0.2.1), (6, .val (.int .i64) x0.2.2.1), (7, .val (.int .i64) x0.2.2.2)], [], []⟩) (by kernel_rfl) ⟨by decide, by decide, by decide, by decide, trivial⟩ ?_
  change VWp _ _ _ _ _
  refine vwp_seq ?_
  obtain ⟨r1, hr1, h⟩ := bindS h
  obtain ⟨r2, hr2, h⟩ := bindS h
  obtain ⟨r3, hr3, h⟩ := bindS h
  refine vw_reg tok hC (anns := [(4, { res := .val (.int .i64) r1 }), (9, { res := .val (.int .i64) r2 }), (21, { res := .val (.int .i64) r3 })]) (f := { ks := [2, 3] }) (ps := [CallOK Try.prog 87 [.val (.int .i64) (iadd .i64 x0.1 x0.2.1), .val (.int .i64) x0.1] (.val (.int .i64) r1) [], CallOK Try.prog 87 [.val (.int .i64) (iadd .i64 x0.2.2.1 x0.2.2.2), .val (.int .i64) x0.2.2.1] (.val (.int .i64) r2) [], CallOK Try.prog 87 [.val (.int .i64) (iadd .i64 (iadd .i64 (iadd .i64 x0.1 x0.2.1) x0.2.2.1) x0.2.2.2), .val (.int .i64) (iadd .i64 x0.1 x0.2.2.1)] (.val (.int .i64) r3) []]) (st' := ⟨[(2, .val (.int .i64) (imul .i64 r1 r2)), (3, .val (.int .i64) r3)], [], []⟩) (by kernel_rfl) ⟨C87 hr1, C87 hr2, C87 hr3, trivial⟩ ?_
  change VWp _ _ _ _ _
  obtain rfl := Option.some.inj h
  exact vwp_ret (ret_q (res := res70) (rows := rows70) ⟨by kernel_rfl, rfl⟩)

/-! ### ablaut/tally.tail -/
noncomputable def F71_b2  (s4 : Int × Int × Int × Int × Int) : Option (Out (Int × Int × Int × Int × Int) (Int) ((Int × Int))) :=
  ((cond (decide (s4.2.2.1 ≥ (0 : Int))) (some (decide (s4.2.2.2.1 ≥ (0 : Int)))) (some false)).bind fun (o9 : Bool) => (cond o9 ((F70 s4.2).bind fun r11 => (some (.next ((iadd .i64 s4.1 r11.1), (iadd .i64 s4.2.1 (1 : Int)), (isub .i64 s4.2.2.1 (1 : Int)), (isub .i64 s4.2.2.2.1 (1 : Int)), (iadd .i64 s4.2.2.2.2 (1 : Int)))))) (some (.brk s4.1))))
noncomputable def F71 (x0 : Int × Int × Int × Int) : Option ((Int × Int)) :=
  ((F70 x0).bind fun r1 => ((wh F71_b2 ((0 : Int), x0)).bind fun o7 => o7.fin (fun (s4 : Int × Int × Int × Int × Int) => (0 : Int)) (fun (t5 : Int) => ((F69 t5 r1.2).bind fun r12 => (some r12))) (fun (r6 : (Int × Int)) => (some r6))))
def res71 (r : (Int × Int)) : Slot := .agg [.val (.int .i64) r.1, .val (.int .i64) r.2]
def rows71 (r : (Int × Int)) : List (Nat × Row) := []
theorem C71 {x0 : Int × Int × Int × Int} {r : (Int × Int)} (h : F71 x0 = some r) : CallOK Try.prog 71 [.agg [.val (.int .i64) x0.1, .val (.int .i64) x0.2.1, .val (.int .i64) x0.2.2.1, .val (.int .i64) x0.2.2.2]] (res71 r) (rows71 r) := by
  refine callOK_of' tok (f := 71) (fn := Try.f71) (by kernel_rfl) rfl (by kernel_rfl) (Nat.le_of_ble_eq_true (by kernel_rfl)) (fun C hC => ?_)
  unfold F71 at h
  refine vwp_seq ?_
  refine vw_reg tok hC (anns := [(0, { id := 1 }), (1, { id := 2 })]) (f := { ks := [1, 2], bs := [1, 2] }) (ps := []) (st' := ⟨[(1, .box 1 0), (2, .box 2 0)], [], [(1, (55, [.val (.int .i64) x0.1, .val (.int .i64) x0.2.1, .val (.int .i64) x0.2.2.1, .val (.int .i64) x0.2.2.2])), (2, (23, [.val (.int .i64) (0 : Int), .val (.int .i64) (0 : Int)]))]⟩) (by kernel_rfl) trivial ?_
  change VWp _ _ _ _ _
  refine vwp_seq ?_
  refine vw_reg tok hC (anns := []) (f := { ks := [1, 2, 3], bs := [1, 2] }) (ps := []) (st' := ⟨[(1, .box 1 0), (2, .box 2 0), (3, .val (.int .i64) (0 : Int))], [], [(1, (55, [.val (.int .i64) x0.1, .val (.int .i64) x0.2.1, .val (.int .i64) x0.2.2.1, .val (.int .i64) x0.2.2.2])), (2, (23, [.val (.int .i64) (0 : Int), .val (.int .i64) (0 : Int)]))]⟩) (by kernel_rfl) trivial ?_
  change VWp _ _ _ _ _
  refine vwp_seq ?_
  obtain ⟨r1, hr1, h⟩ := bindS h
  refine vw_reg tok hC (anns := [(1, { res := .tup [.val (.int .i64) r1.1, .val (.int .i64) r1.2] })]) (f := { ks := [1, 2, 3, 5], bs := [1, 2] }) (ps := [CallOK Try.prog 70 [.agg [.val (.int .i64) x0.1, .val (.int .i64) x0.2.1, .val (.int .i64) x0.2.2.1, .val (.int .i64) x0.2.2.2]] (.tup [.val (.int .i64) r1.1, .val (.int .i64) r1.2]) []]) (st' := ⟨[(1, .box 1 0), (2, .box 2 0), (3, .val (.int .i64) (0 : Int)), (5, .val (.int .i64) r1.2)], [], [(1, (55, [.val (.int .i64) x0.1, .val (.int .i64) x0.2.1, .val (.int .i64) x0.2.2.1, .val (.int .i64) x0.2.2.2])), (2, (23, [.val (.int .i64) (0 : Int), .val (.int .i64) (0 : Int)]))]⟩) (by kernel_rfl) ⟨C70 hr1, trivial⟩ ?_
  change VWp _ _ _ _ _
  refine vwp_seq ?_
  obtain ⟨o7, ho7, h⟩ := bindS h
  refine vw_wh (W := fun (s4 : Int × Int × Int × Int × Int) => ⟨[(1, .box 1 0), (2, .box 2 0), (3, .val (.int .i64) s4.1), (5, .val (.int .i64) r1.2)], [], [(1, (55, [.val (.int .i64) s4.2.1, .val (.int .i64) s4.2.2.1, .val (.int .i64) s4.2.2.2.1, .val (.int .i64) s4.2.2.2.2])), (2, (23, [.val (.int .i64) (0 : Int), .val (.int .i64) (0 : Int)]))]⟩) (B := fun (t5 : Int) => ⟨[(2, .box 2 0), (3, .val (.int .i64) t5), (5, .val (.int .i64) r1.2)], [], [(2, (23, [.val (.int .i64) (0 : Int), .val (.int .i64) (0 : Int)]))]⟩) (Rq := retR T Try.f71 res71 rows71) ho7 h (by kernel_rfl) (fun s4 o7 ho7 => ?_) (fun t5 h => ?_) (fun r6 st' h hR => ?_)
  · clear h
    replace h := ho7
    unfold F71_b2 at h
    refine vwp_seq ?_
    refine vwp_seq ?_
    obtain ⟨o9, ho9, h⟩ := bindS h
    refine vw_join (st1 := ⟨[(1, .box 1 0), (2, .box 2 0), (3, .val (.int .i64) s4.1), (5, .val (.int .i64) r1.2), (20, .val .bool o9)], [], [(1, (55, [.val (.int .i64) s4.2.1, .val (.int .i64) s4.2.2.1, .val (.int .i64) s4.2.2.2.1, .val (.int .i64) s4.2.2.2.2])), (2, (23, [.val (.int .i64) (0 : Int), .val (.int .i64) (0 : Int)]))]⟩) ?_ ?_
    · clear h
      rcases condS ho9 with ⟨hb8, ho9⟩ | ⟨hb8, ho9⟩
      · obtain rfl := Option.some.inj ho9
        refine vw_reg tok hC (anns := [(3, { fix := some true })]) (f := { ks := [1, 2, 3, 5, 20], bs := [1, 2] }) (ps := [(0 ≤ (1 : Int) ∧ (1 : Int) < (4 : Int)), (decide (s4.2.2.1 ≥ (0 : Int))) = true, (0 ≤ (2 : Int) ∧ (2 : Int) < (4 : Int))]) (st' := ⟨[(1, .box 1 0), (2, .box 2 0), (3, .val (.int .i64) s4.1), (5, .val (.int .i64) r1.2), (20, .val .bool (decide (s4.2.2.2.1 ≥ (0 : Int))))], [], [(1, (55, [.val (.int .i64) s4.2.1, .val (.int .i64) s4.2.2.1, .val (.int .i64) s4.2.2.2.1, .val (.int .i64) s4.2.2.2.2])), (2, (23, [.val (.int .i64) (0 : Int), .val (.int .i64) (0 : Int)]))]⟩) (by kernel_rfl) ⟨by decide, hb8, by decide, trivial⟩ ?_
        exact r_nextE (by kernel_rfl)
      · obtain rfl := Option.some.inj ho9
        refine vw_reg tok hC (anns := [(3, { fix := some false })]) (f := { ks := [1, 2, 3, 5, 20], bs := [1, 2] }) (ps := [(0 ≤ (1 : Int) ∧ (1 : Int) < (4 : Int)), (decide (s4.2.2.1 ≥ (0 : Int))) = false]) (st' := ⟨[(1, .box 1 0), (2, .box 2 0), (3, .val (.int .i64) s4.1), (5, .val (.int .i64) r1.2), (20, .val .bool false)], [], [(1, (55, [.val (.int .i64) s4.2.1, .val (.int .i64) s4.2.2.1, .val (.int .i64) s4.2.2.2.1, .val (.int .i64) s4.2.2.2.2])), (2, (23, [.val (.int .i64) (0 : Int), .val (.int .i64) (0 : Int)]))]⟩) (by kernel_rfl) ⟨by decide, hb8, trivial⟩ ?_
        exact r_nextE (by kernel_rfl)
    · change VWp _ _ _ _ _
      refine vwp_cond (b := o9) (by kernel_rfl) (fun hb10 => ?_) (fun hb10 => ?_)
      · replace h := condT h hb10
        refine vwp_skip ?_
        change VWp _ _ _ _ _
        refine vwp_seq ?_
        refine vwp_block ?_
        refine vwp_seq ?_
        obtain ⟨r11, hr11, h⟩ := bindS h
        refine vw_reg tok hC (anns := [(1, { res := .tup [.val (.int .i64) r11.1, .val (.int .i64) r11.2] })]) (f := { ks := [1, 2, 3, 5, 6], bs := [1, 2] }) (ps := [CallOK Try.prog 70 [.agg [.val (.int .i64) s4.2.1, .val (.int .i64) s4.2.2.1, .val (.int .i64) s4.2.2.2.1, .val (.int .i64) s4.2.2.2.2]] (.tup [.val (.int .i64) r11.1, .val (.int .i64) r11.2]) []]) (st' := ⟨[(1, .box 1 0), (2, .box 2 0), (3, .val (.int .i64) s4.1), (5, .val (.int .i64) r1.2), (6, .val (.int .i64) r11.1)], [], [(1, (55, [.val (.int .i64) s4.2.1, .val (.int .i64) s4.2.2.1, .val (.int .i64) s4.2.2.2.1, .val (.int .i64) s4.2.2.2.2])), (2, (23, [.val (.int .i64) (0 : Int), .val (.int .i64) (0 : Int)]))]⟩) (by kernel_rfl) ⟨C70 hr11, trivial⟩ ?_
        change VWp _ _ _ _ _
        refine vw_reg tok hC (anns := []) (f := { ks := [1, 2, 3, 5], bs := [1, 2] }) (ps := []) (st' := ⟨[(1, .box 1 0), (2, .box 2 0), (3, .val (.int .i64) (iadd .i64 s4.1 r11.1)), (5, .val (.int .i64) r1.2)], [], [(1, (55, [.val (.int .i64) s4.2.1, .val (.int .i64) s4.2.2.1, .val (.int .i64) s4.2.2.2.1, .val (.int .i64) s4.2.2.2.2])), (2, (23, [.val (.int .i64) (0 : Int), .val (.int .i64) (0 : Int)]))]⟩) (by kernel_rfl) trivial ?_
        change VWp _ _ _ _ _
        refine vw_reg tok hC (anns := []) (f := { ks := [1, 2, 3, 5], bs := [1, 2] }) (ps := [(0 ≤ (0 : Int) ∧ (0 : Int) < (4 : Int)), (0 ≤ (1 : Int) ∧ (1 : Int) < (4 : Int)), (0 ≤ (2 : Int) ∧ (2 : Int) < (4 : Int)), (0 ≤ (3 : Int) ∧ (3 : Int) < (4 : Int))]) (st' := ⟨[(1, .box 1 0), (2, .box 2 0), (3, .val (.int .i64) (iadd .i64 s4.1 r11.1)), (5, .val (.int .i64) r1.2)], [], [(1, (55, [.val (.int .i64) (iadd .i64 s4.2.1 (1 : Int)), .val (.int .i64) (isub .i64 s4.2.2.1 (1 : Int)), .val (.int .i64) (isub .i64 s4.2.2.2.1 (1 : Int)), .val (.int .i64) (iadd .i64 s4.2.2.2.2 (1 : Int))])), (2, (23, [.val (.int .i64) (0 : Int), .val (.int .i64) (0 : Int)]))]⟩) (by kernel_rfl) ⟨by decide, by decide, by decide, by decide, trivial⟩ ?_
        obtain rfl := Option.some.inj h
        exact r_nextE (by kernel_rfl)
      · replace h := condF h hb10
        refine vw_fin hC (f := { ks := [2, 3, 5], bs := [2] }) (st' := ⟨[(2, .box 2 0), (3, .val (.int .i64) s4.1), (5, .val (.int .i64) r1.2)], [], [(2, (23, [.val (.int .i64) (0 : Int), .val (.int .i64) (0 : Int)]))]⟩) (by kernel_rfl) ?_
        refine vwp_exit ?_
        obtain rfl := Option.some.inj h
        exact r_brkE (by kernel_rfl)
  · change VWp _ _ _ _ _
    refine vwp_seq ?_
    obtain ⟨r12, hr12, h⟩ := bindS h
    refine vw_reg tok hC (anns := [(2, { res := .agg [.val (.int .i64) r12.1, .val (.int .i64) r12.2] })]) (f := { ks := [2], bs := [2] }) (ps := [CallOK Try.prog 69 [.val (.int .i64) t5, .val (.int .i64) r1.2] (.agg [.val (.int .i64) r12.1, .val (.int .i64) r12.2]) []]) (st' := ⟨[(2, .box 2 0)], [], [(2, (23, [.val (.int .i64) r12.1, .val (.int .i64) r12.2]))]⟩) (by kernel_rfl) ⟨C69 hr12, trivial⟩ ?_
    change VWp _ _ _ _ _
    obtain rfl := Option.some.inj h
    exact vwp_ret (ret_q (res := res71) (rows := rows71) ⟨by kernel_rfl, rfl⟩)
  · obtain rfl := Option.some.inj h
    exact ret_q (res := res71) (rows := rows71) hR

/-! ### ablaut/tally.Exact -/
noncomputable def F28 (x0 : Int × Int × Int × Int) : Option ((Int × Int) × Int) :=
  ((F68 x0).bind fun r1 => (cond (r1 != (0 : Int)) (some (((0 : Int), (0 : Int)), r1)) ((F70 x0).bind fun r3 => ((F69 r3.1 r3.2).bind fun r4 => (some (r4, (0 : Int)))))))
def res28 (r : (Int × Int) × Int) : Slot := .tup [.agg [.val (.int .i64) r.1.1, .val (.int .i64) r.1.2], .val (.int .i64) r.2]
def rows28 (r : (Int × Int) × Int) : List (Nat × Row) := []
theorem C28 {x0 : Int × Int × Int × Int} {r : (Int × Int) × Int} (h : F28 x0 = some r) : CallOK Try.prog 28 [.agg [.val (.int .i64) x0.1, .val (.int .i64) x0.2.1, .val (.int .i64) x0.2.2.1, .val (.int .i64) x0.2.2.2]] (res28 r) (rows28 r) := by
  refine callOK_of' tok (f := 28) (fn := Try.f28) (by kernel_rfl) rfl (by kernel_rfl) (Nat.le_of_ble_eq_true (by kernel_rfl)) (fun C hC => ?_)
  unfold F28 at h
  refine vwp_seq ?_
  refine vw_reg tok hC (anns := [(0, { id := 1 }), (1, { id := 2 })]) (f := { ks := [1, 2], bs := [1, 2] }) (ps := []) (st' := ⟨[(1, .box 1 0), (2, .box 2 0)], [], [(1, (55, [.val (.int .i64) x0.1, .val (.int .i64) x0.2.1, .val (.int .i64) x0.2.2.1, .val (.int .i64) x0.2.2.2])), (2, (23, [.val (.int .i64) (0 : Int), .val (.int .i64) (0 : Int)]))]⟩) (by kernel_rfl) trivial ?_
  change VWp _ _ _ _ _
  refine vwp_seq ?_
  refine vwp_seq ?_
  obtain ⟨r1, hr1, h⟩ := bindS h
  refine vw_reg tok hC (anns := [(1, { res := .val (.int .i64) r1 })]) (f := { ks := [1, 2, 4], bs := [1, 2] }) (ps := [CallOK Try.prog 68 [.agg [.val (.int .i64) x0.1, .val (.int .i64) x0.2.1, .val (.int .i64) x0.2.2.1, .val (.int .i64) x0.2.2.2]] (.val (.int .i64) r1) []]) (st' := ⟨[(1, .box 1 0), (2, .box 2 0), (4, .val (.int .i64) r1)], [], [(1, (55, [.val (.int .i64) x0.1, .val (.int .i64) x0.2.1, .val (.int .i64) x0.2.2.1, .val (.int .i64) x0.2.2.2])), (2, (23, [.val (.int .i64) (0 : Int), .val (.int .i64) (0 : Int)]))]⟩) (by kernel_rfl) ⟨C68 hr1, trivial⟩ ?_
  change VWp _ _ _ _ _
  refine vwp_seq ?_
  refine vw_reg tok hC (anns := []) (f := { ks := [1, 2, 4, 8], bs := [1, 2] }) (ps := []) (st' := ⟨[(1, .box 1 0), (2, .box 2 0), (4, .val (.int .i64) r1), (8, .val .bool (r1 != (0 : Int)))], [], [(1, (55, [.val (.int .i64) x0.1, .val (.int .i64) x0.2.1, .val (.int .i64) x0.2.2.1, .val (.int .i64) x0.2.2.2])), (2, (23, [.val (.int .i64) (0 : Int), .val (.int .i64) (0 : Int)]))]⟩) (by kernel_rfl) trivial ?_
  change VWp _ _ _ _ _
  refine vwp_cond (b := (r1 != (0 : Int))) (by kernel_rfl) (fun hb2 => ?_) (fun hb2 => ?_)
  · replace h := condT h hb2
    refine vwp_seq ?_
    refine vw_reg tok hC (anns := []) (f := { ks := [2, 3], bs := [2] }) (ps := []) (st' := ⟨[(2, .box 2 0), (3, .val (.int .i64) r1)], [], [(2, (23, [.val (.int .i64) (0 : Int), .val (.int .i64) (0 : Int)]))]⟩) (by kernel_rfl) trivial ?_
    change VWp _ _ _ _ _
    obtain rfl := Option.some.inj h
    exact vwp_ret (ret_q (res := res28) (rows := rows28) ⟨by kernel_rfl, rfl⟩)
  · replace h := condF h hb2
    refine vwp_skip ?_
    change VWp _ _ _ _ _
    refine vwp_seq ?_
    obtain ⟨r3, hr3, h⟩ := bindS h
    obtain ⟨r4, hr4, h⟩ := bindS h
    refine vw_reg tok hC (anns := [(1, { res := .tup [.val (.int .i64) r3.1, .val (.int .i64) r3.2] }), (4, { res := .agg [.val (.int .i64) r4.1, .val (.int .i64) r4.2] })]) (f := { ks := [2, 3], bs := [2] }) (ps := [CallOK Try.prog 70 [.agg [.val (.int .i64) x0.1, .val (.int .i64) x0.2.1, .val (.int .i64) x0.2.2.1, .val (.int .i64) x0.2.2.2]] (.tup [.val (.int .i64) r3.1, .val (.int .i64) r3.2]) [], CallOK Try.prog 69 [.val (.int .i64) r3.1, .val (.int .i64) r3.2] (.agg [.val (.int .i64) r4.1, .val (.int .i64) r4.2]) []]) (st' := ⟨[(2, .box 2 0), (3, .val (.int .i64) (0 : Int))], [], [(2, (23, [.val (.int .i64) r4.1, .val (.int .i64) r4.2]))]⟩) (by kernel_rfl) ⟨C70 hr3, C69 hr4, trivial⟩ ?_
    change VWp _ _ _ _ _
    obtain rfl := Option.some.inj h
    exact vwp_ret (ret_q (res := res28) (rows := rows28) ⟨by kernel_rfl, rfl⟩)

/-! ### ablaut/tally.Tail -/
noncomputable def F29 (x0 : Int × Int × Int × Int) : Option ((Int × Int) × Int) :=
  ((F68 x0).bind fun r1 => (cond (r1 != (0 : Int)) (some (((0 : Int), (0 : Int)), r1)) ((F71 x0).bind fun r3 => (some (r3, (0 : Int))))))
def res29 (r : (Int × Int) × Int) : Slot := .tup [.agg [.val (.int .i64) r.1.1, .val (.int .i64) r.1.2], .val (.int .i64) r.2]
def rows29 (r : (Int × Int) × Int) : List (Nat × Row) := []
theorem C29 {x0 : Int × Int × Int × Int} {r : (Int × Int) × Int} (h : F29 x0 = some r) : CallOK Try.prog 29 [.agg [.val (.int .i64) x0.1, .val (.int .i64) x0.2.1, .val (.int .i64) x0.2.2.1, .val (.int .i64) x0.2.2.2]] (res29 r) (rows29 r) := by
  refine callOK_of' tok (f := 29) (fn := Try.f29) (by kernel_rfl) rfl (by kernel_rfl) (Nat.le_of_ble_eq_true (by kernel_rfl)) (fun C hC => ?_)
  unfold F29 at h
  refine vwp_seq ?_
  refine vw_reg tok hC (anns := [(0, { id := 1 }), (1, { id := 2 })]) (f := { ks := [1, 2], bs := [1, 2] }) (ps := []) (st' := ⟨[(1, .box 1 0), (2, .box 2 0)], [], [(1, (55, [.val (.int .i64) x0.1, .val (.int .i64) x0.2.1, .val (.int .i64) x0.2.2.1, .val (.int .i64) x0.2.2.2])), (2, (23, [.val (.int .i64) (0 : Int), .val (.int .i64) (0 : Int)]))]⟩) (by kernel_rfl) trivial ?_
  change VWp _ _ _ _ _
  refine vwp_seq ?_
  refine vwp_seq ?_
  obtain ⟨r1, hr1, h⟩ := bindS h
  refine vw_reg tok hC (anns := [(1, { res := .val (.int .i64) r1 })]) (f := { ks := [1, 2, 4], bs := [1, 2] }) (ps := [CallOK Try.prog 68 [.agg [.val (.int .i64) x0.1, .val (.int .i64) x0.2.1, .val (.int .i64) x0.2.2.1, .val (.int .i64) x0.2.2.2]] (.val (.int .i64) r1) []]) (st' := ⟨[(1, .box 1 0), (2, .box 2 0), (4, .val (.int .i64) r1)], [], [(1, (55, [.val (.int .i64) x0.1, .val (.int .i64) x0.2.1, .val (.int .i64) x0.2.2.1, .val (.int .i64) x0.2.2.2])), (2, (23, [.val (.int .i64) (0 : Int), .val (.int .i64) (0 : Int)]))]⟩) (by kernel_rfl) ⟨C68 hr1, trivial⟩ ?_
  change VWp _ _ _ _ _
  refine vwp_seq ?_
  refine vw_reg tok hC (anns := []) (f := { ks := [1, 2, 4, 8], bs := [1, 2] }) (ps := []) (st' := ⟨[(1, .box 1 0), (2, .box 2 0), (4, .val (.int .i64) r1), (8, .val .bool (r1 != (0 : Int)))], [], [(1, (55, [.val (.int .i64) x0.1, .val (.int .i64) x0.2.1, .val (.int .i64) x0.2.2.1, .val (.int .i64) x0.2.2.2])), (2, (23, [.val (.int .i64) (0 : Int), .val (.int .i64) (0 : Int)]))]⟩) (by kernel_rfl) trivial ?_
  change VWp _ _ _ _ _
  refine vwp_cond (b := (r1 != (0 : Int))) (by kernel_rfl) (fun hb2 => ?_) (fun hb2 => ?_)
  · replace h := condT h hb2
    refine vwp_seq ?_
    refine vw_reg tok hC (anns := []) (f := { ks := [2, 3], bs := [2] }) (ps := []) (st' := ⟨[(2, .box 2 0), (3, .val (.int .i64) r1)], [], [(2, (23, [.val (.int .i64) (0 : Int), .val (.int .i64) (0 : Int)]))]⟩) (by kernel_rfl) trivial ?_
    change VWp _ _ _ _ _
    obtain rfl := Option.some.inj h
    exact vwp_ret (ret_q (res := res29) (rows := rows29) ⟨by kernel_rfl, rfl⟩)
  · replace h := condF h hb2
    refine vwp_skip ?_
    change VWp _ _ _ _ _
    refine vwp_seq ?_
    obtain ⟨r3, hr3, h⟩ := bindS h
    refine vw_reg tok hC (anns := [(1, { res := .agg [.val (.int .i64) r3.1, .val (.int .i64) r3.2] })]) (f := { ks := [2, 3], bs := [2] }) (ps := [CallOK Try.prog 71 [.agg [.val (.int .i64) x0.1, .val (.int .i64) x0.2.1, .val (.int .i64) x0.2.2.1, .val (.int .i64) x0.2.2.2]] (.agg [.val (.int .i64) r3.1, .val (.int .i64) r3.2]) []]) (st' := ⟨[(2, .box 2 0), (3, .val (.int .i64) (0 : Int))], [], [(2, (23, [.val (.int .i64) r3.1, .val (.int .i64) r3.2]))]⟩) (by kernel_rfl) ⟨C71 hr3, trivial⟩ ?_
    change VWp _ _ _ _ _
    obtain rfl := Option.some.inj h
    exact vwp_ret (ret_q (res := res29) (rows := rows29) ⟨by kernel_rfl, rfl⟩)

/-! ### ablaut/tally.compare -/
noncomputable def F26 (x0 : Int × Int) (x1 : Int × Int) : Option (Int) :=
  ((F64 x0.1 x1.2).bind fun r1 => ((F64 x1.1 x0.2).bind fun r2 => ((F66 r1.1 r2.1).bind fun r3 => ((F66 r1.2 r2.2).bind fun r4 => ((F65 [r3, r4]).bind fun r5 => (some r5))))))
def res26 (r : Int) : Slot := .val (.int .i64) r
def rows26 (r : Int) : List (Nat × Row) := []
theorem C26 {x0 : Int × Int} {x1 : Int × Int} {r : Int} (h : F26 x0 x1 = some r) : CallOK Try.prog 26 [.agg [.val (.int .i64) x0.1, .val (.int .i64) x0.2], .agg [.val (.int .i64) x1.1, .val (.int .i64) x1.2]] (res26 r) (rows26 r) := by
  refine callOK_of' tok (f := 26) (fn := Try.f26) (by kernel_rfl) rfl (by kernel_rfl) (Nat.le_of_ble_eq_true (by kernel_rfl)) (fun C hC => ?_)
  unfold F26 at h
  refine vwp_seq ?_
  refine vw_reg tok hC (anns := [(0, { id := 2 }), (1, { id := 3 })]) (f := { ks := [2, 3], bs := [2, 3] }) (ps := []) (st' := ⟨[(2, .box 2 0), (3, .box 3 0)], [], [(2, (23, [.val (.int .i64) x0.1, .val (.int .i64) x0.2])), (3, (23, [.val (.int .i64) x1.1, .val (.int .i64) x1.2]))]⟩) (by kernel_rfl) trivial ?_
  change VWp _ _ _ _ _
  refine vwp_seq ?_
  obtain ⟨r1, hr1, h⟩ := bindS h
  obtain ⟨r2, hr2, h⟩ := bindS h
  refine vw_any tok mixed hC (anns := [(4, { res := .agg [.val (.int .u64) r1.1, .val (.int .u64) r1.2] }), (9, { res := .agg [.val (.int .u64) r2.1, .val (.int .u64) r2.2] }), (10, { id := 5 }), (11, { id := 6 })]) (f := { ks := [5, 6], bs := [5, 6] }) (ps := [CallOK Try.prog 64 [.val (.int .i64) x0.1, .val (.int .i64) x1.2] (.agg [.val (.int .u64) r1.1, .val (.int .u64) r1.2]) [], CallOK Try.prog 64 [.val (.int .i64) x1.1, .val (.int .i64) x0.2] (.agg [.val (.int .u64) r2.1, .val (.int .u64) r2.2]) []]) (st' := ⟨[(5, .box 5 0), (6, .box 6 0)], [], [(5, (99, [.val (.int .u64) r1.1, .val (.int .u64) r1.2])), (6, (99, [.val (.int .u64) r2.1, .val (.int .u64) r2.2]))]⟩) (by kernel_rfl) ⟨C64 hr1, C64 hr2, trivial⟩ ?_
  change VWp _ _ _ _ _
  refine vwp_seq ?_
  obtain ⟨r3, hr3, h⟩ := bindS h
  obtain ⟨r4, hr4, h⟩ := bindS h
  obtain ⟨r5, hr5, h⟩ := bindS h
  refine vw_any tok mixed hC (anns := [(4, { res := .val (.int .i64) r3 }), (9, { res := .val (.int .i64) r4 }), (10, { id := 27 }), (11, { res := .val (.int .i64) r5 })]) (f := { ks := [4] }) (ps := [(0 ≤ (0 : Int) ∧ (0 : Int) < (2 : Int)), (0 ≤ (0 : Int) ∧ (0 : Int) < (2 : Int)), CallOK Try.prog 66 [.val (.int .u64) r1.1, .val (.int .u64) r2.1] (.val (.int .i64) r3) [], (0 ≤ (1 : Int) ∧ (1 : Int) < (2 : Int)), (0 ≤ (1 : Int) ∧ (1 : Int) < (2 : Int)), CallOK Try.prog 66 [.val (.int .u64) r1.2, .val (.int .u64) r2.2] (.val (.int .i64) r4) [], CallOK Try.prog 65 [.val ((.sl 3 (.int .i64))) [r3, r4]] (.val (.int .i64) r5) []]) (st' := ⟨[(4, .val (.int .i64) r5)], [], []⟩) (by kernel_rfl) ⟨by decide, by decide, C66 hr3, by decide, by decide, C66 hr4, C65 hr5, trivial⟩ ?_
  change VWp _ _ _ _ _
  obtain rfl := Option.some.inj h
  exact vwp_ret (ret_q (res := res26) (rows := rows26) ⟨by kernel_rfl, rfl⟩)

/-! ### ablaut/ablautref27.compared -/
noncomputable def F27 (x0 : Int × Int) (x1 : Int × Int) : Option (Int) :=
  ((F67 (iconv .u64 x0.1) (iconv .u64 x1.2)).bind fun r1 => ((F67 (iconv .u64 x1.1) (iconv .u64 x0.2)).bind fun r2 => ((cond (decide (r1.1 < r2.1)) (some true) (cond (r1.1 == r2.1) (some (decide (r1.2 < r2.2))) (some false))).bind fun (o5 : Bool) => (cond o5 (some (-1 : Int)) ((cond (decide (r1.1 > r2.1)) (some true) (some (decide (r1.2 > r2.2)))).bind fun (o8 : Bool) => (cond o8 (some (1 : Int)) (some (0 : Int))))))))
def res27 (r : Int) : Slot := .val (.int .i64) r
def rows27 (r : Int) : List (Nat × Row) := []
theorem C27 {x0 : Int × Int} {x1 : Int × Int} {r : Int} (h : F27 x0 x1 = some r) : CallOK Try.prog 27 [.agg [.val (.int .i64) x0.1, .val (.int .i64) x0.2], .agg [.val (.int .i64) x1.1, .val (.int .i64) x1.2]] (res27 r) (rows27 r) := by
  refine callOK_of' tok (f := 27) (fn := Try.f27) (by kernel_rfl) rfl (by kernel_rfl) (Nat.le_of_ble_eq_true (by kernel_rfl)) (fun C hC => ?_)
  unfold F27 at h
  refine vwp_seq ?_
  refine vw_reg tok hC (anns := [(0, { id := 2 }), (1, { id := 3 })]) (f := { ks := [2, 3], bs := [2, 3] }) (ps := []) (st' := ⟨[(2, .box 2 0), (3, .box 3 0)], [], [(2, (23, [.val (.int .i64) x0.1, .val (.int .i64) x0.2])), (3, (23, [.val (.int .i64) x1.1, .val (.int .i64) x1.2]))]⟩) (by kernel_rfl) trivial ?_
  change VWp _ _ _ _ _
  refine vwp_seq ?_
  obtain ⟨r1, hr1, h⟩ := bindS h
  refine vw_reg tok hC (anns := [(6, { res := .tup [.val (.int .u64) r1.1, .val (.int .u64) r1.2] })]) (f := { ks := [2, 3, 5, 6], bs := [2, 3] }) (ps := [CallOK Try.prog 67 [.val (.int .u64) (iconv .u64 x0.1), .val (.int .u64) (iconv .u64 x1.2)] (.tup [.val (.int .u64) r1.1, .val (.int .u64) r1.2]) []]) (st' := ⟨[(2, .box 2 0), (3, .box 3 0), (5, .val (.int .u64) r1.1), (6, .val (.int .u64) r1.2)], [], [(2, (23, [.val (.int .i64) x0.1, .val (.int .i64) x0.2])), (3, (23, [.val (.int .i64) x1.1, .val (.int .i64) x1.2]))]⟩) (by kernel_rfl) ⟨C67 hr1, trivial⟩ ?_
  change VWp _ _ _ _ _
  refine vwp_seq ?_
  obtain ⟨r2, hr2, h⟩ := bindS h
  refine vw_reg tok hC (anns := [(6, { res := .tup [.val (.int .u64) r2.1, .val (.int .u64) r2.2] })]) (f := { ks := [5, 6, 7, 8] }) (ps := [CallOK Try.prog 67 [.val (.int .u64) (iconv .u64 x1.1), .val (.int .u64) (iconv .u64 x0.2)] (.tup [.val (.int .u64) r2.1, .val (.int .u64) r2.2]) []]) (st' := ⟨[(5, .val (.int .u64) r1.1), (6, .val (.int .u64) r1.2), (7, .val (.int .u64) r2.1), (8, .val (.int .u64) r2.2)], [], []⟩) (by kernel_rfl) ⟨C67 hr2, trivial⟩ ?_
  change VWp _ _ _ _ _
  refine vwp_seq ?_
  refine vwp_block ?_
  refine vwp_seq ?_
  obtain ⟨o5, ho5, h⟩ := bindS h
  refine vw_join (st1 := ⟨[(5, .val (.int .u64) r1.1), (6, .val (.int .u64) r1.2), (7, .val (.int .u64) r2.1), (8, .val (.int .u64) r2.2), (29, .val .bool o5)], [], []⟩) ?_ ?_
  · clear h
    rcases condS ho5 with ⟨hb3, ho5⟩ | ⟨hb3, ho5⟩
    · obtain rfl := Option.some.inj ho5
      refine vw_reg tok hC (anns := [(3, { fix := some true })]) (f := { ks := [5, 6, 7, 8, 29] }) (ps := [(decide (r1.1 < r2.1)) = true]) (st' := ⟨[(5, .val (.int .u64) r1.1), (6, .val (.int .u64) r1.2), (7, .val (.int .u64) r2.1), (8, .val (.int .u64) r2.2), (29, .val .bool true)], [], []⟩) (by kernel_rfl) ⟨hb3, trivial⟩ ?_
      exact r_nextE (by kernel_rfl)
    · rcases condS ho5 with ⟨hb4, ho5⟩ | ⟨hb4, ho5⟩
      · obtain rfl := Option.some.inj ho5
        refine vw_reg tok hC (anns := [(3, { fix := some false }), (7, { fix := some true })]) (f := { ks := [5, 6, 7, 8, 29] }) (ps := [(decide (r1.1 < r2.1)) = false, (r1.1 == r2.1) = true]) (st' := ⟨[(5, .val (.int .u64) r1.1), (6, .val (.int .u64) r1.2), (7, .val (.int .u64) r2.1), (8, .val (.int .u64) r2.2), (29, .val .bool (decide (r1.2 < r2.2)))], [], []⟩) (by kernel_rfl) ⟨hb3, hb4, trivial⟩ ?_
        exact r_nextE (by kernel_rfl)
      · obtain rfl := Option.some.inj ho5
        refine vw_reg tok hC (anns := [(3, { fix := some false }), (7, { fix := some false })]) (f := { ks := [5, 6, 7, 8, 29] }) (ps := [(decide (r1.1 < r2.1)) = false, (r1.1 == r2.1) = false]) (st' := ⟨[(5, .val (.int .u64) r1.1), (6, .val (.int .u64) r1.2), (7, .val (.int .u64) r2.1), (8, .val (.int .u64) r2.2), (29, .val .bool false)], [], []⟩) (by kernel_rfl) ⟨hb3, hb4, trivial⟩ ?_
        exact r_nextE (by kernel_rfl)
  · change VWp _ _ _ _ _
    refine vwp_cond (b := o5) (by kernel_rfl) (fun hb6 => ?_) (fun hb6 => ?_)
    · replace h := condT h hb6
      refine vwp_seq ?_
      refine vw_reg tok hC (anns := []) (f := { ks := [4] }) (ps := []) (st' := ⟨[(4, .val (.int .i64) (-1 : Int))], [], []⟩) (by kernel_rfl) trivial ?_
      change VWp _ _ _ _ _
      obtain rfl := Option.some.inj h
      exact vwp_ret (ret_q (res := res27) (rows := rows27) ⟨by kernel_rfl, rfl⟩)
    · replace h := condF h hb6
      refine vwp_seq ?_
      obtain ⟨o8, ho8, h⟩ := bindS h
      refine vw_join (st1 := ⟨[(43, .val .bool o8)], [], []⟩) ?_ ?_
      · clear h
        rcases condS ho8 with ⟨hb7, ho8⟩ | ⟨hb7, ho8⟩
        · obtain rfl := Option.some.inj ho8
          refine vw_reg tok hC (anns := [(3, { fix := some true })]) (f := { ks := [43] }) (ps := [(decide (r1.1 > r2.1)) = true]) (st' := ⟨[(43, .val .bool true)], [], []⟩) (by kernel_rfl) ⟨hb7, trivial⟩ ?_
          exact r_nextE (by kernel_rfl)
        · obtain rfl := Option.some.inj ho8
          refine vw_reg tok hC (anns := [(3, { fix := some false })]) (f := { ks := [43] }) (ps := [(decide (r1.1 > r2.1)) = false]) (st' := ⟨[(43, .val .bool (decide (r1.2 > r2.2)))], [], []⟩) (by kernel_rfl) ⟨hb7, trivial⟩ ?_
          exact r_nextE (by kernel_rfl)
      · change VWp _ _ _ _ _
        refine vwp_cond (b := o8) (by kernel_rfl) (fun hb9 => ?_) (fun hb9 => ?_)
        · replace h := condT h hb9
          refine vwp_seq ?_
          refine vw_reg tok hC (anns := []) (f := { ks := [4] }) (ps := []) (st' := ⟨[(4, .val (.int .i64) (1 : Int))], [], []⟩) (by kernel_rfl) trivial ?_
          change VWp _ _ _ _ _
          obtain rfl := Option.some.inj h
          exact vwp_ret (ret_q (res := res27) (rows := rows27) ⟨by kernel_rfl, rfl⟩)
        · replace h := condF h hb9
          refine vwp_skip ?_
          change VWp _ _ _ _ _
          refine vwp_seq ?_
          refine vw_reg tok hC (anns := []) (f := { ks := [4] }) (ps := []) (st' := ⟨[(4, .val (.int .i64) (0 : Int))], [], []⟩) (by kernel_rfl) trivial ?_
          change VWp _ _ _ _ _
          obtain rfl := Option.some.inj h
          exact vwp_ret (ret_q (res := res27) (rows := rows27) ⟨by kernel_rfl, rfl⟩)

/-! ### ablaut/tally.Compare -/
noncomputable def F10 (x0 : Int × Int) (x1 : Int × Int) : Option (Int × Int) :=
  (if (0 < 2) then ((cond (decide (x0.2 < (1 : Int))) (some true) (cond (decide (x0.1 < (0 : Int))) (some true) (cond (decide (x0.1 > (9007199254740992 : Int))) (some true) (some (decide (x0.2 > (9007199254740992 : Int))))))).bind fun (o5 : Bool) => (cond o5 (some ((0 : Int), (1 : Int))) (if (1 < 2) then ((cond (decide (x1.2 < (1 : Int))) (some true) (cond (decide (x1.1 < (0 : Int))) (some true) (cond (decide (x1.1 > (9007199254740992 : Int))) (some true) (some (decide (x1.2 > (9007199254740992 : Int))))))).bind fun (o11 : Bool) => (cond o11 (some ((0 : Int), (1 : Int))) ((F26 x0 x1).bind fun r13 => (some (r13, (0 : Int)))))) else none))) else none)
def res10 (r : Int × Int) : Slot := .tup [.val (.int .i64) r.1, .val (.int .i64) r.2]
def rows10 (r : Int × Int) : List (Nat × Row) := []
theorem C10 {x0 : Int × Int} {x1 : Int × Int} {r : Int × Int} (h : F10 x0 x1 = some r) : CallOK Try.prog 10 [.agg [.val (.int .i64) x0.1, .val (.int .i64) x0.2], .agg [.val (.int .i64) x1.1, .val (.int .i64) x1.2]] (res10 r) (rows10 r) := by
  refine callOK_of' tok (f := 10) (fn := Try.f10) (by kernel_rfl) rfl (by kernel_rfl) (Nat.le_of_ble_eq_true (by kernel_rfl)) (fun C hC => ?_)
  unfold F10 at h
  refine vwp_seq ?_
  refine vw_reg tok hC (anns := [(0, { id := 2 }), (1, { id := 3 })]) (f := { ks := [2, 3], bs := [2, 3] }) (ps := []) (st' := ⟨[(2, .box 2 0), (3, .box 3 0)], [], [(2, (23, [.val (.int .i64) x0.1, .val (.int .i64) x0.2])), (3, (23, [.val (.int .i64) x1.1, .val (.int .i64) x1.2]))]⟩) (by kernel_rfl) trivial ?_
  change VWp _ _ _ _ _
  refine vwp_seq ?_
  refine vwp_seq ?_
  refine vw_reg tok hC (anns := [(2, { id := 10 })]) (f := { ks := [2, 3, 10, 11, 12], rs := [10], bs := [2, 3] }) (ps := []) (st' := ⟨[(2, .box 2 0), (3, .box 3 0), (10, .row 10), (11, .val (.int .i64) (2 : Int)), (12, .val (.int .i64) (0 : Int))], [(10, ⟨23, .st (.pr (.int .i64) (.int .i64)), [x0, x1]⟩)], [(2, (23, [.val (.int .i64) x0.1, .val (.int .i64) x0.2])), (3, (23, [.val (.int .i64) x1.1, .val (.int .i64) x1.2]))]⟩) (by kernel_rfl) trivial ?_
  change VWp _ _ _ _ _
  refine vw_rounds 3 ?_
  refine v_round ?_
  refine vwp_seq ?_
  refine vw_reg tok hC (anns := []) (f := { ks := [2, 3, 10, 11, 12, 13], rs := [10], bs := [2, 3] }) (ps := []) (st' := ⟨[(2, .box 2 0), (3, .box 3 0), (10, .row 10), (11, .val (.int .i64) (2 : Int)), (12, .val (.int .i64) (0 : Int)), (13, .val .bool true)], [(10, ⟨23, .st (.pr (.int .i64) (.int .i64)), [x0, x1]⟩)], [(2, (23, [.val (.int .i64) x0.1, .val (.int .i64) x0.2])), (3, (23, [.val (.int .i64) x1.1, .val (.int .i64) x1.2]))]⟩) (by kernel_rfl) trivial ?_
  change VWp _ _ _ _ _
  refine vwp_seq ?_
  refine vwp_cond (b := true) (by kernel_rfl) (fun hb => ?_) (fun hb => ?_)
  case refine_2 => cases hb
  clear hb
  refine vwp_skip ?_
  change VWp _ _ _ _ _
  refine vwp_seq ?_
  refine vwp_block ?_
  refine vwp_seq ?_
  obtain ⟨hp1, h⟩ := ifS h
  refine vw_reg tok hC (anns := [(2, { id := 7 })]) (f := { ks := [2, 3, 7, 10, 11, 12], rs := [10], bs := [2, 3, 7] }) (ps := [(0 ≤ (0 : Int) ∧ (0 : Int) < (2 : Int)), (0 < 2)]) (st' := ⟨[(2, .box 2 0), (3, .box 3 0), (7, .box 7 0), (10, .row 10), (11, .val (.int .i64) (2 : Int)), (12, .val (.int .i64) (0 : Int))], [(10, ⟨23, .st (.pr (.int .i64) (.int .i64)), [x0, x1]⟩)], [(2, (23, [.val (.int .i64) x0.1, .val (.int .i64) x0.2])), (3, (23, [.val (.int .i64) x1.1, .val (.int .i64) x1.2])), (7, (23, [.val (.int .i64) x0.1, .val (.int .i64) x0.2]))]⟩) (by kernel_rfl) ⟨by decide, hp1, trivial⟩ ?_
  change VWp _ _ _ _ _
  refine vwp_seq ?_
  obtain ⟨o5, ho5, h⟩ := bindS h
  refine vw_join (st1 := ⟨[(2, .box 2 0), (3, .box 3 0), (10, .row 10), (11, .val (.int .i64) (2 : Int)), (12, .val (.int .i64) (0 : Int)), (33, .val .bool o5)], [(10, ⟨23, .st (.pr (.int .i64) (.int .i64)), [x0, x1]⟩)], [(2, (23, [.val (.int .i64) x0.1, .val (.int .i64) x0.2])), (3, (23, [.val (.int .i64) x1.1, .val (.int .i64) x1.2]))]⟩) ?_ ?_
  · clear h
    rcases condS ho5 with ⟨hb2, ho5⟩ | ⟨hb2, ho5⟩
    · obtain rfl := Option.some.inj ho5
      refine vw_reg tok hC (anns := [(3, { fix := some true })]) (f := { ks := [2, 3, 10, 11, 12, 33], rs := [10], bs := [2, 3] }) (ps := [(decide (x0.2 < (1 : Int))) = true]) (st' := ⟨[(2, .box 2 0), (3, .box 3 0), (10, .row 10), (11, .val (.int .i64) (2 : Int)), (12, .val (.int .i64) (0 : Int)), (33, .val .bool true)], [(10, ⟨23, .st (.pr (.int .i64) (.int .i64)), [x0, x1]⟩)], [(2, (23, [.val (.int .i64) x0.1, .val (.int .i64) x0.2])), (3, (23, [.val (.int .i64) x1.1, .val (.int .i64) x1.2]))]⟩) (by kernel_rfl) ⟨hb2, trivial⟩ ?_
      exact r_nextE (by kernel_rfl)
    · rcases condS ho5 with ⟨hb3, ho5⟩ | ⟨hb3, ho5⟩
      · obtain rfl := Option.some.inj ho5
        refine vw_reg tok hC (anns := [(3, { fix := some false }), (8, { fix := some true })]) (f := { ks := [2, 3, 10, 11, 12, 33], rs := [10], bs := [2, 3] }) (ps := [(decide (x0.2 < (1 : Int))) = false, (decide (x0.1 < (0 : Int))) = true]) (st' := ⟨[(2, .box 2 0), (3, .box 3 0), (10, .row 10), (11, .val (.int .i64) (2 : Int)), (12, .val (.int .i64) (0 : Int)), (33, .val .bool true)], [(10, ⟨23, .st (.pr (.int .i64) (.int .i64)), [x0, x1]⟩)], [(2, (23, [.val (.int .i64) x0.1, .val (.int .i64) x0.2])), (3, (23, [.val (.int .i64) x1.1, .val (.int .i64) x1.2]))]⟩) (by kernel_rfl) ⟨hb2, hb3, trivial⟩ ?_
        exact r_nextE (by kernel_rfl)
      · rcases condS ho5 with ⟨hb4, ho5⟩ | ⟨hb4, ho5⟩
        · obtain rfl := Option.some.inj ho5
          refine vw_reg tok hC (anns := [(3, { fix := some false }), (8, { fix := some false }), (13, { fix := some true })]) (f := { ks := [2, 3, 10, 11, 12, 33], rs := [10], bs := [2, 3] }) (ps := [(decide (x0.2 < (1 : Int))) = false, (decide (x0.1 < (0 : Int))) = false, (decide (x0.1 > (9007199254740992 : Int))) = true]) (st' := ⟨[(2, .box 2 0), (3, .box 3 0), (10, .row 10), (11, .val (.int .i64) (2 : Int)), (12, .val (.int .i64) (0 : Int)), (33, .val .bool true)], [(10, ⟨23, .st (.pr (.int .i64) (.int .i64)), [x0, x1]⟩)], [(2, (23, [.val (.int .i64) x0.1, .val (.int .i64) x0.2])), (3, (23, [.val (.int .i64) x1.1, .val (.int .i64) x1.2]))]⟩) (by kernel_rfl) ⟨hb2, hb3, hb4, trivial⟩ ?_
          exact r_nextE (by kernel_rfl)
        · obtain rfl := Option.some.inj ho5
          refine vw_reg tok hC (anns := [(3, { fix := some false }), (8, { fix := some false }), (13, { fix := some false })]) (f := { ks := [2, 3, 10, 11, 12, 33], rs := [10], bs := [2, 3] }) (ps := [(decide (x0.2 < (1 : Int))) = false, (decide (x0.1 < (0 : Int))) = false, (decide (x0.1 > (9007199254740992 : Int))) = false]) (st' := ⟨[(2, .box 2 0), (3, .box 3 0), (10, .row 10), (11, .val (.int .i64) (2 : Int)), (12, .val (.int .i64) (0 : Int)), (33, .val .bool (decide (x0.2 > (9007199254740992 : Int))))], [(10, ⟨23, .st (.pr (.int .i64) (.int .i64)), [x0, x1]⟩)], [(2, (23, [.val (.int .i64) x0.1, .val (.int .i64) x0.2])), (3, (23, [.val (.int .i64) x1.1, .val (.int .i64) x1.2]))]⟩) (by kernel_rfl) ⟨hb2, hb3, hb4, trivial⟩ ?_
          exact r_nextE (by kernel_rfl)
  · change VWp _ _ _ _ _
    refine vwp_cond (b := o5) (by kernel_rfl) (fun hb6 => ?_) (fun hb6 => ?_)
    · replace h := condT h hb6
      refine vwp_seq ?_
      refine vw_reg tok hC (anns := []) (f := { ks := [4, 5] }) (ps := []) (st' := ⟨[(4, .val (.int .i64) (0 : Int)), (5, .val (.int .i64) (1 : Int))], [], []⟩) (by kernel_rfl) trivial ?_
      change VWp _ _ _ _ _
      obtain rfl := Option.some.inj h
      exact vwp_ret (ret_q (res := res10) (rows := rows10) ⟨by kernel_rfl, rfl⟩)
    · replace h := condF h hb6
      refine vwp_skip ?_
      change VWp _ _ _ _ _
      refine vw_reg tok hC (anns := []) (f := { ks := [2, 3, 10, 11, 12], rs := [10], bs := [2, 3] }) (ps := []) (st' := ⟨[(2, .box 2 0), (3, .box 3 0), (10, .row 10), (11, .val (.int .i64) (2 : Int)), (12, .val (.int .i64) (1 : Int))], [(10, ⟨23, .st (.pr (.int .i64) (.int .i64)), [x0, x1]⟩)], [(2, (23, [.val (.int .i64) x0.1, .val (.int .i64) x0.2])), (3, (23, [.val (.int .i64) x1.1, .val (.int .i64) x1.2]))]⟩) (by kernel_rfl) trivial ?_
      change vrounds _ _ _ _ _ _
      refine v_round ?_
      refine vwp_seq ?_
      refine vw_reg tok hC (anns := []) (f := { ks := [2, 3, 10, 11, 12, 13], rs := [10], bs := [2, 3] }) (ps := []) (st' := ⟨[(2, .box 2 0), (3, .box 3 0), (10, .row 10), (11, .val (.int .i64) (2 : Int)), (12, .val (.int .i64) (1 : Int)), (13, .val .bool true)], [(10, ⟨23, .st (.pr (.int .i64) (.int .i64)), [x0, x1]⟩)], [(2, (23, [.val (.int .i64) x0.1, .val (.int .i64) x0.2])), (3, (23, [.val (.int .i64) x1.1, .val (.int .i64) x1.2]))]⟩) (by kernel_rfl) trivial ?_
      change VWp _ _ _ _ _
      refine vwp_seq ?_
      refine vwp_cond (b := true) (by kernel_rfl) (fun hb => ?_) (fun hb => ?_)
      case refine_2 => cases hb
      clear hb
      refine vwp_skip ?_
      change VWp _ _ _ _ _
      refine vwp_seq ?_
      refine vwp_block ?_
      refine vwp_seq ?_
      obtain ⟨hp7, h⟩ := ifS h
      refine vw_reg tok hC (anns := [(2, { id := 7 })]) (f := { ks := [2, 3, 7, 10, 11, 12], rs := [10], bs := [2, 3, 7] }) (ps := [(0 ≤ (1 : Int) ∧ (1 : Int) < (2 : Int)), (1 < 2)]) (st' := ⟨[(2, .box 2 0), (3, .box 3 0), (7, .box 7 0), (10, .row 10), (11, .val (.int .i64) (2 : Int)), (12, .val (.int .i64) (1 : Int))], [(10, ⟨23, .st (.pr (.int .i64) (.int .i64)), [x0, x1]⟩)], [(2, (23, [.val (.int .i64) x0.1, .val (.int .i64) x0.2])), (3, (23, [.val (.int .i64) x1.1, .val (.int .i64) x1.2])), (7, (23, [.val (.int .i64) x1.1, .val (.int .i64) x1.2]))]⟩) (by kernel_rfl) ⟨by decide, hp7, trivial⟩ ?_
      change VWp _ _ _ _ _
      refine vwp_seq ?_
      obtain ⟨o11, ho11, h⟩ := bindS h
      refine vw_join (st1 := ⟨[(2, .box 2 0), (3, .box 3 0), (10, .row 10), (11, .val (.int .i64) (2 : Int)), (12, .val (.int .i64) (1 : Int)), (33, .val .bool o11)], [(10, ⟨23, .st (.pr (.int .i64) (.int .i64)), [x0, x1]⟩)], [(2, (23, [.val (.int .i64) x0.1, .val (.int .i64) x0.2])), (3, (23, [.val (.int .i64) x1.1, .val (.int .i64) x1.2]))]⟩) ?_ ?_
      · clear h
        rcases condS ho11 with ⟨hb8, ho11⟩ | ⟨hb8, ho11⟩
        · obtain rfl := Option.some.inj ho11
          refine vw_reg tok hC (anns := [(3, { fix := some true })]) (f := { ks := [2, 3, 10, 11, 12, 33], rs := [10], bs := [2, 3] }) (ps := [(decide (x1.2 < (1 : Int))) = true]) (st' := ⟨[(2, .box 2 0), (3, .box 3 0), (10, .row 10), (11, .val (.int .i64) (2 : Int)), (12, .val (.int .i64) (1 : Int)), (33, .val .bool true)], [(10, ⟨23, .st (.pr (.int .i64) (.int .i64)), [x0, x1]⟩)], [(2, (23, [.val (.int .i64) x0.1, .val (.int .i64) x0.2])), (3, (23, [.val (.int .i64) x1.1, .val (.int .i64) x1.2]))]⟩) (by kernel_rfl) ⟨hb8, trivial⟩ ?_
          exact r_nextE (by kernel_rfl)
        · rcases condS ho11 with ⟨hb9, ho11⟩ | ⟨hb9, ho11⟩
          · obtain rfl := Option.some.inj ho11
            refine vw_reg tok hC (anns := [(3, { fix := some false }), (8, { fix := some true })]) (f := { ks := [2, 3, 10, 11, 12, 33], rs := [10], bs := [2, 3] }) (ps := [(decide (x1.2 < (1 : Int))) = false, (decide (x1.1 < (0 : Int))) = true]) (st' := ⟨[(2, .box 2 0), (3, .box 3 0), (10, .row 10), (11, .val (.int .i64) (2 : Int)), (12, .val (.int .i64) (1 : Int)), (33, .val .bool true)], [(10, ⟨23, .st (.pr (.int .i64) (.int .i64)), [x0, x1]⟩)], [(2, (23, [.val (.int .i64) x0.1, .val (.int .i64) x0.2])), (3, (23, [.val (.int .i64) x1.1, .val (.int .i64) x1.2]))]⟩) (by kernel_rfl) ⟨hb8, hb9, trivial⟩ ?_
            exact r_nextE (by kernel_rfl)
          · rcases condS ho11 with ⟨hb10, ho11⟩ | ⟨hb10, ho11⟩
            · obtain rfl := Option.some.inj ho11
              refine vw_reg tok hC (anns := [(3, { fix := some false }), (8, { fix := some false }), (13, { fix := some true })]) (f := { ks := [2, 3, 10, 11, 12, 33], rs := [10], bs := [2, 3] }) (ps := [(decide (x1.2 < (1 : Int))) = false, (decide (x1.1 < (0 : Int))) = false, (decide (x1.1 > (9007199254740992 : Int))) = true]) (st' := ⟨[(2, .box 2 0), (3, .box 3 0), (10, .row 10), (11, .val (.int .i64) (2 : Int)), (12, .val (.int .i64) (1 : Int)), (33, .val .bool true)], [(10, ⟨23, .st (.pr (.int .i64) (.int .i64)), [x0, x1]⟩)], [(2, (23, [.val (.int .i64) x0.1, .val (.int .i64) x0.2])), (3, (23, [.val (.int .i64) x1.1, .val (.int .i64) x1.2]))]⟩) (by kernel_rfl) ⟨hb8, hb9, hb10, trivial⟩ ?_
              exact r_nextE (by kernel_rfl)
            · obtain rfl := Option.some.inj ho11
              refine vw_reg tok hC (anns := [(3, { fix := some false }), (8, { fix := some false }), (13, { fix := some false })]) (f := { ks := [2, 3, 10, 11, 12, 33], rs := [10], bs := [2, 3] }) (ps := [(decide (x1.2 < (1 : Int))) = false, (decide (x1.1 < (0 : Int))) = false, (decide (x1.1 > (9007199254740992 : Int))) = false]) (st' := ⟨[(2, .box 2 0), (3, .box 3 0), (10, .row 10), (11, .val (.int .i64) (2 : Int)), (12, .val (.int .i64) (1 : Int)), (33, .val .bool (decide (x1.2 > (9007199254740992 : Int))))], [(10, ⟨23, .st (.pr (.int .i64) (.int .i64)), [x0, x1]⟩)], [(2, (23, [.val (.int .i64) x0.1, .val (.int .i64) x0.2])), (3, (23, [.val (.int .i64) x1.1, .val (.int .i64) x1.2]))]⟩) (by kernel_rfl) ⟨hb8, hb9, hb10, trivial⟩ ?_
              exact r_nextE (by kernel_rfl)
      · change VWp _ _ _ _ _
        refine vwp_cond (b := o11) (by kernel_rfl) (fun hb12 => ?_) (fun hb12 => ?_)
        · replace h := condT h hb12
          refine vwp_seq ?_
          refine vw_reg tok hC (anns := []) (f := { ks := [4, 5] }) (ps := []) (st' := ⟨[(4, .val (.int .i64) (0 : Int)), (5, .val (.int .i64) (1 : Int))], [], []⟩) (by kernel_rfl) trivial ?_
          change VWp _ _ _ _ _
          obtain rfl := Option.some.inj h
          exact vwp_ret (ret_q (res := res10) (rows := rows10) ⟨by kernel_rfl, rfl⟩)
        · replace h := condF h hb12
          refine vwp_skip ?_
          change VWp _ _ _ _ _
          refine vw_reg tok hC (anns := []) (f := { ks := [2, 3, 10, 11, 12], rs := [10], bs := [2, 3] }) (ps := []) (st' := ⟨[(2, .box 2 0), (3, .box 3 0), (10, .row 10), (11, .val (.int .i64) (2 : Int)), (12, .val (.int .i64) (2 : Int))], [(10, ⟨23, .st (.pr (.int .i64) (.int .i64)), [x0, x1]⟩)], [(2, (23, [.val (.int .i64) x0.1, .val (.int .i64) x0.2])), (3, (23, [.val (.int .i64) x1.1, .val (.int .i64) x1.2]))]⟩) (by kernel_rfl) trivial ?_
          change vrounds _ _ _ _ _ _
          refine v_round ?_
          refine vwp_seq ?_
          refine vw_reg tok hC (anns := []) (f := { ks := [2, 3, 10, 11, 12, 13], rs := [10], bs := [2, 3] }) (ps := []) (st' := ⟨[(2, .box 2 0), (3, .box 3 0), (10, .row 10), (11, .val (.int .i64) (2 : Int)), (12, .val (.int .i64) (2 : Int)), (13, .val .bool false)], [(10, ⟨23, .st (.pr (.int .i64) (.int .i64)), [x0, x1]⟩)], [(2, (23, [.val (.int .i64) x0.1, .val (.int .i64) x0.2])), (3, (23, [.val (.int .i64) x1.1, .val (.int .i64) x1.2]))]⟩) (by kernel_rfl) trivial ?_
          change VWp _ _ _ _ _
          refine vwp_seq ?_
          refine vwp_cond (b := false) (by kernel_rfl) (fun hb => ?_) (fun hb => ?_)
          case refine_1 => cases hb
          clear hb
          refine vwp_exit ?_
          change VWp _ _ _ _ _
          refine vwp_seq ?_
          obtain ⟨r13, hr13, h⟩ := bindS h
          refine vw_reg tok hC (anns := [(2, { res := .val (.int .i64) r13 })]) (f := { ks := [4, 5] }) (ps := [CallOK Try.prog 26 [.agg [.val (.int .i64) x0.1, .val (.int .i64) x0.2], .agg [.val (.int .i64) x1.1, .val (.int .i64) x1.2]] (.val (.int .i64) r13) []]) (st' := ⟨[(4, .val (.int .i64) r13), (5, .val (.int .i64) (0 : Int))], [], []⟩) (by kernel_rfl) ⟨C26 hr13, trivial⟩ ?_
          change VWp _ _ _ _ _
          obtain rfl := Option.some.inj h
          exact vwp_ret (ret_q (res := res10) (rows := rows10) ⟨by kernel_rfl, rfl⟩)

/-! ### ablaut/ablautref27.Compare -/
noncomputable def F11 (x0 : Int × Int) (x1 : Int × Int) : Option (Int × Int) :=
  ((cond (decide (x0.2 < (1 : Int))) (some true) (cond (decide (x1.2 < (1 : Int))) (some true) (cond (decide (x0.1 < (0 : Int))) (some true) (cond (decide (x1.1 < (0 : Int))) (some true) (cond (decide (x0.1 > (9007199254740992 : Int))) (some true) (cond (decide (x1.1 > (9007199254740992 : Int))) (some true) (cond (decide (x0.2 > (9007199254740992 : Int))) (some true) (some (decide (x1.2 > (9007199254740992 : Int))))))))))).bind fun (o8 : Bool) => (cond o8 (some ((0 : Int), (1 : Int))) ((F27 x0 x1).bind fun r10 => (some (r10, (0 : Int))))))
def res11 (r : Int × Int) : Slot := .tup [.val (.int .i64) r.1, .val (.int .i64) r.2]
def rows11 (r : Int × Int) : List (Nat × Row) := []
theorem C11 {x0 : Int × Int} {x1 : Int × Int} {r : Int × Int} (h : F11 x0 x1 = some r) : CallOK Try.prog 11 [.agg [.val (.int .i64) x0.1, .val (.int .i64) x0.2], .agg [.val (.int .i64) x1.1, .val (.int .i64) x1.2]] (res11 r) (rows11 r) := by
  refine callOK_of' tok (f := 11) (fn := Try.f11) (by kernel_rfl) rfl (by kernel_rfl) (Nat.le_of_ble_eq_true (by kernel_rfl)) (fun C hC => ?_)
  unfold F11 at h
  refine vwp_seq ?_
  refine vw_reg tok hC (anns := [(0, { id := 2 }), (1, { id := 3 })]) (f := { ks := [2, 3], bs := [2, 3] }) (ps := []) (st' := ⟨[(2, .box 2 0), (3, .box 3 0)], [], [(2, (23, [.val (.int .i64) x0.1, .val (.int .i64) x0.2])), (3, (23, [.val (.int .i64) x1.1, .val (.int .i64) x1.2]))]⟩) (by kernel_rfl) trivial ?_
  change VWp _ _ _ _ _
  refine vwp_seq ?_
  refine vwp_seq ?_
  obtain ⟨o8, ho8, h⟩ := bindS h
  refine vw_join (st1 := ⟨[(2, .box 2 0), (3, .box 3 0), (43, .val .bool o8)], [], [(2, (23, [.val (.int .i64) x0.1, .val (.int .i64) x0.2])), (3, (23, [.val (.int .i64) x1.1, .val (.int .i64) x1.2]))]⟩) ?_ ?_
  · clear h
    rcases condS ho8 with ⟨hb1, ho8⟩ | ⟨hb1, ho8⟩
    · obtain rfl := Option.some.inj ho8
      refine vw_reg tok hC (anns := [(3, { fix := some true })]) (f := { ks := [2, 3, 43], bs := [2, 3] }) (ps := [(decide (x0.2 < (1 : Int))) = true]) (st' := ⟨[(2, .box 2 0), (3, .box 3 0), (43, .val .bool true)], [], [(2, (23, [.val (.int .i64) x0.1, .val (.int .i64) x0.2])), (3, (23, [.val (.int .i64) x1.1, .val (.int .i64) x1.2]))]⟩) (by kernel_rfl) ⟨hb1, trivial⟩ ?_
      exact r_nextE (by kernel_rfl)
    · rcases condS ho8 with ⟨hb2, ho8⟩ | ⟨hb2, ho8⟩
      · obtain rfl := Option.some.inj ho8
        refine vw_reg tok hC (anns := [(3, { fix := some false }), (8, { fix := some true })]) (f := { ks := [2, 3, 43], bs := [2, 3] }) (ps := [(decide (x0.2 < (1 : Int))) = false, (decide (x1.2 < (1 : Int))) = true]) (st' := ⟨[(2, .box 2 0), (3, .box 3 0), (43, .val .bool true)], [], [(2, (23, [.val (.int .i64) x0.1, .val (.int .i64) x0.2])), (3, (23, [.val (.int .i64) x1.1, .val (.int .i64) x1.2]))]⟩) (by kernel_rfl) ⟨hb1, hb2, trivial⟩ ?_
        exact r_nextE (by kernel_rfl)
      · rcases condS ho8 with ⟨hb3, ho8⟩ | ⟨hb3, ho8⟩
        · obtain rfl := Option.some.inj ho8
          refine vw_reg tok hC (anns := [(3, { fix := some false }), (8, { fix := some false }), (13, { fix := some true })]) (f := { ks := [2, 3, 43], bs := [2, 3] }) (ps := [(decide (x0.2 < (1 : Int))) = false, (decide (x1.2 < (1 : Int))) = false, (decide (x0.1 < (0 : Int))) = true]) (st' := ⟨[(2, .box 2 0), (3, .box 3 0), (43, .val .bool true)], [], [(2, (23, [.val (.int .i64) x0.1, .val (.int .i64) x0.2])), (3, (23, [.val (.int .i64) x1.1, .val (.int .i64) x1.2]))]⟩) (by kernel_rfl) ⟨hb1, hb2, hb3, trivial⟩ ?_
          exact r_nextE (by kernel_rfl)
        · rcases condS ho8 with ⟨hb4, ho8⟩ | ⟨hb4, ho8⟩
          · obtain rfl := Option.some.inj ho8
            refine vw_reg tok hC (anns := [(3, { fix := some false }), (8, { fix := some false }), (13, { fix := some false }), (18, { fix := some true })]) (f := { ks := [2, 3, 43], bs := [2, 3] }) (ps := [(decide (x0.2 < (1 : Int))) = false, (decide (x1.2 < (1 : Int))) = false, (decide (x0.1 < (0 : Int))) = false, (decide (x1.1 < (0 : Int))) = true]) (st' := ⟨[(2, .box 2 0), (3, .box 3 0), (43, .val .bool true)], [], [(2, (23, [.val (.int .i64) x0.1, .val (.int .i64) x0.2])), (3, (23, [.val (.int .i64) x1.1, .val (.int .i64) x1.2]))]⟩) (by kernel_rfl) ⟨hb1, hb2, hb3, hb4, trivial⟩ ?_
            exact r_nextE (by kernel_rfl)
          · rcases condS ho8 with ⟨hb5, ho8⟩ | ⟨hb5, ho8⟩
            · obtain rfl := Option.some.inj ho8
              refine vw_reg tok hC (anns := [(3, { fix := some false }), (8, { fix := some false }), (13, { fix := some false }), (18, { fix := some false }), (23, { fix := some true })]) (f := { ks := [2, 3, 43], bs := [2, 3] }) (ps := [(decide (x0.2 < (1 : Int))) = false, (decide (x1.2 < (1 : Int))) = false, (decide (x0.1 < (0 : Int))) = false, (decide (x1.1 < (0 : Int))) = false, (decide (x0.1 > (9007199254740992 : Int))) = true]) (st' := ⟨[(2, .box 2 0), (3, .box 3 0), (43, .val .bool true)], [], [(2, (23, [.val (.int .i64) x0.1, .val (.int .i64) x0.2])), (3, (23, [.val (.int .i64) x1.1, .val (.int .i64) x1.2]))]⟩) (by kernel_rfl) ⟨hb1, hb2, hb3, hb4, hb5, trivial⟩ ?_
              exact r_nextE (by kernel_rfl)
            · rcases condS ho8 with ⟨hb6, ho8⟩ | ⟨hb6, ho8⟩
              · obtain rfl := Option.some.inj ho8
                refine vw_reg tok hC (anns := [(3, { fix := some false }), (8, { fix := some false }), (13, { fix := some false }), (18, { fix := some false }), (23, { fix := some false }), (28, { fix := some true })]) (f := { ks := [2, 3, 43], bs := [2, 3] }) (ps := [(decide (x0.2 < (1 : Int))) = false, (decide (x1.2 < (1 : Int))) = false, (decide (x0.1 < (0 : Int))) = false, (decide (x1.1 < (0 : Int))) = false, (decide (x0.1 > (9007199254740992 : Int))) = false, (decide (x1.1 > (9007199254740992 : Int))) = true]) (st' := ⟨[(2, .box 2 0), (3, .box 3 0), (43, .val .bool true)], [], [(2, (23, [.val (.int .i64) x0.1, .val (.int .i64) x0.2])), (3, (23, [.val (.int .i64) x1.1, .val (.int .i64) x1.2]))]⟩) (by kernel_rfl) ⟨hb1, hb2, hb3, hb4, hb5, hb6, trivial⟩ ?_
                exact r_nextE (by kernel_rfl)
              · rcases condS ho8 with ⟨hb7, ho8⟩ | ⟨hb7, ho8⟩
                · obtain rfl := Option.some.inj ho8
                  refine vw_reg tok hC (anns := [(3, { fix := some false }), (8, { fix := some false }), (13, { fix := some false }), (18, { fix := some false }), (23, { fix := some false }), (28, { fix := some false }), (33, { fix := some true })]) (f := { ks := [2, 3, 43], bs := [2, 3] }) (ps := [(decide (x0.2 < (1 : Int))) = false, (decide (x1.2 < (1 : Int))) = false, (decide (x0.1 < (0 : Int))) = false, (decide (x1.1 < (0 : Int))) = false, (decide (x0.1 > (9007199254740992 : Int))) = false, (decide (x1.1 > (9007199254740992 : Int))) = false, (decide (x0.2 > (9007199254740992 : Int))) = true]) (st' := ⟨[(2, .box 2 0), (3, .box 3 0), (43, .val .bool true)], [], [(2, (23, [.val (.int .i64) x0.1, .val (.int .i64) x0.2])), (3, (23, [.val (.int .i64) x1.1, .val (.int .i64) x1.2]))]⟩) (by kernel_rfl) ⟨hb1, hb2, hb3, hb4, hb5, hb6, hb7, trivial⟩ ?_
                  exact r_nextE (by kernel_rfl)
                · obtain rfl := Option.some.inj ho8
                  refine vw_reg tok hC (anns := [(3, { fix := some false }), (8, { fix := some false }), (13, { fix := some false }), (18, { fix := some false }), (23, { fix := some false }), (28, { fix := some false }), (33, { fix := some false })]) (f := { ks := [2, 3, 43], bs := [2, 3] }) (ps := [(decide (x0.2 < (1 : Int))) = false, (decide (x1.2 < (1 : Int))) = false, (decide (x0.1 < (0 : Int))) = false, (decide (x1.1 < (0 : Int))) = false, (decide (x0.1 > (9007199254740992 : Int))) = false, (decide (x1.1 > (9007199254740992 : Int))) = false, (decide (x0.2 > (9007199254740992 : Int))) = false]) (st' := ⟨[(2, .box 2 0), (3, .box 3 0), (43, .val .bool (decide (x1.2 > (9007199254740992 : Int))))], [], [(2, (23, [.val (.int .i64) x0.1, .val (.int .i64) x0.2])), (3, (23, [.val (.int .i64) x1.1, .val (.int .i64) x1.2]))]⟩) (by kernel_rfl) ⟨hb1, hb2, hb3, hb4, hb5, hb6, hb7, trivial⟩ ?_
                  exact r_nextE (by kernel_rfl)
  · change VWp _ _ _ _ _
    refine vwp_cond (b := o8) (by kernel_rfl) (fun hb9 => ?_) (fun hb9 => ?_)
    · replace h := condT h hb9
      refine vwp_seq ?_
      refine vw_reg tok hC (anns := []) (f := { ks := [4, 5] }) (ps := []) (st' := ⟨[(4, .val (.int .i64) (0 : Int)), (5, .val (.int .i64) (1 : Int))], [], []⟩) (by kernel_rfl) trivial ?_
      change VWp _ _ _ _ _
      obtain rfl := Option.some.inj h
      exact vwp_ret (ret_q (res := res11) (rows := rows11) ⟨by kernel_rfl, rfl⟩)
    · replace h := condF h hb9
      refine vwp_skip ?_
      change VWp _ _ _ _ _
      refine vwp_seq ?_
      obtain ⟨r10, hr10, h⟩ := bindS h
      refine vw_reg tok hC (anns := [(2, { res := .val (.int .i64) r10 })]) (f := { ks := [4, 5] }) (ps := [CallOK Try.prog 27 [.agg [.val (.int .i64) x0.1, .val (.int .i64) x0.2], .agg [.val (.int .i64) x1.1, .val (.int .i64) x1.2]] (.val (.int .i64) r10) []]) (st' := ⟨[(4, .val (.int .i64) r10), (5, .val (.int .i64) (0 : Int))], [], []⟩) (by kernel_rfl) ⟨C27 hr10, trivial⟩ ?_
      change VWp _ _ _ _ _
      obtain rfl := Option.some.inj h
      exact vwp_ret (ret_q (res := res11) (rows := rows11) ⟨by kernel_rfl, rfl⟩)

/-! ### ablaut/ablautlaw27.known -/
noncomputable def F12  : Option (Bool) :=
  ((F28 ((1 : Int), (1 : Int), (1 : Int), (1 : Int))).bind fun r1 => ((F29 ((1 : Int), (1 : Int), (1 : Int), (1 : Int))).bind fun r2 => (cond (r1.2 == (0 : Int)) (cond (r2.2 == (0 : Int)) (cond ((r1.1.1 == (2 : Int)) && (r1.1.2 == (3 : Int))) (some ((r2.1.1 == (5 : Int)) && (r2.1.2 == (6 : Int)))) (some false)) (some false)) (some false))))
def res12 (r : Bool) : Slot := .val .bool r
def rows12 (r : Bool) : List (Nat × Row) := []
theorem C12 {r : Bool} (h : F12 = some r) : CallOK Try.prog 12 [] (res12 r) (rows12 r) := by
  refine callOK_of' tok (f := 12) (fn := Try.f12) (by kernel_rfl) rfl (by kernel_rfl) (Nat.le_of_ble_eq_true (by kernel_rfl)) (fun C hC => ?_)
  unfold F12 at h
  refine vwp_seq ?_
  refine vw_reg tok hC (anns := []) (f := { ks := [] }) (ps := []) (st' := ⟨[], [], []⟩) (by kernel_rfl) trivial ?_
  change VWp _ _ _ _ _
  refine vwp_seq ?_
  obtain ⟨r1, hr1, h⟩ := bindS h
  refine vw_reg tok hC (anns := [(1, { res := .tup [.agg [.val (.int .i64) r1.1.1, .val (.int .i64) r1.1.2], .val (.int .i64) r1.2] }), (5, { id := 1 })]) (f := { ks := [1, 2], bs := [1] }) (ps := [CallOK Try.prog 28 [.agg [.val (.int .i64) (1 : Int), .val (.int .i64) (1 : Int), .val (.int .i64) (1 : Int), .val (.int .i64) (1 : Int)]] (.tup [.agg [.val (.int .i64) r1.1.1, .val (.int .i64) r1.1.2], .val (.int .i64) r1.2]) []]) (st' := ⟨[(1, .box 1 0), (2, .val (.int .i64) r1.2)], [], [(1, (23, [.val (.int .i64) r1.1.1, .val (.int .i64) r1.1.2]))]⟩) (by kernel_rfl) ⟨C28 hr1, trivial⟩ ?_
  change VWp _ _ _ _ _
  refine vwp_seq ?_
  obtain ⟨r2, hr2, h⟩ := bindS h
  refine vw_reg tok hC (anns := [(1, { res := .tup [.agg [.val (.int .i64) r2.1.1, .val (.int .i64) r2.1.2], .val (.int .i64) r2.2] }), (5, { id := 3 })]) (f := { ks := [1, 2, 3, 4], bs := [1, 3] }) (ps := [CallOK Try.prog 29 [.agg [.val (.int .i64) (1 : Int), .val (.int .i64) (1 : Int), .val (.int .i64) (1 : Int), .val (.int .i64) (1 : Int)]] (.tup [.agg [.val (.int .i64) r2.1.1, .val (.int .i64) r2.1.2], .val (.int .i64) r2.2]) []]) (st' := ⟨[(1, .box 1 0), (2, .val (.int .i64) r1.2), (3, .box 3 0), (4, .val (.int .i64) r2.2)], [], [(1, (23, [.val (.int .i64) r1.1.1, .val (.int .i64) r1.1.2])), (3, (23, [.val (.int .i64) r2.1.1, .val (.int .i64) r2.1.2]))]⟩) (by kernel_rfl) ⟨C29 hr2, trivial⟩ ?_
  change VWp _ _ _ _ _
  refine vwp_seq ?_
  rcases condS h with ⟨hb3, h⟩ | ⟨hb3, h⟩
  · rcases condS h with ⟨hb4, h⟩ | ⟨hb4, h⟩
    · rcases condS h with ⟨hb5, h⟩ | ⟨hb5, h⟩
      · refine vw_reg tok hC (anns := [(2, { fix := some true }), (6, { fix := some true }), (11, { fix := some true })]) (f := { ks := [0] }) (ps := [(r1.2 == (0 : Int)) = true, (r2.2 == (0 : Int)) = true, ((r1.1.1 == (2 : Int)) && (r1.1.2 == (3 : Int))) = true]) (st' := ⟨[(0, .val .bool ((r2.1.1 == (5 : Int)) && (r2.1.2 == (6 : Int))))], [], []⟩) (by kernel_rfl) ⟨hb3, hb4, hb5, trivial⟩ ?_
        change VWp _ _ _ _ _
        obtain rfl := Option.some.inj h
        exact vwp_ret (ret_q (res := res12) (rows := rows12) ⟨by kernel_rfl, rfl⟩)
      · refine vw_reg tok hC (anns := [(2, { fix := some true }), (6, { fix := some true }), (11, { fix := some false })]) (f := { ks := [0] }) (ps := [(r1.2 == (0 : Int)) = true, (r2.2 == (0 : Int)) = true, ((r1.1.1 == (2 : Int)) && (r1.1.2 == (3 : Int))) = false]) (st' := ⟨[(0, .val .bool false)], [], []⟩) (by kernel_rfl) ⟨hb3, hb4, hb5, trivial⟩ ?_
        change VWp _ _ _ _ _
        obtain rfl := Option.some.inj h
        exact vwp_ret (ret_q (res := res12) (rows := rows12) ⟨by kernel_rfl, rfl⟩)
    · refine vw_reg tok hC (anns := [(2, { fix := some true }), (6, { fix := some false })]) (f := { ks := [0] }) (ps := [(r1.2 == (0 : Int)) = true, (r2.2 == (0 : Int)) = false]) (st' := ⟨[(0, .val .bool false)], [], []⟩) (by kernel_rfl) ⟨hb3, hb4, trivial⟩ ?_
      change VWp _ _ _ _ _
      obtain rfl := Option.some.inj h
      exact vwp_ret (ret_q (res := res12) (rows := rows12) ⟨by kernel_rfl, rfl⟩)
  · refine vw_reg tok hC (anns := [(2, { fix := some false })]) (f := { ks := [0] }) (ps := [(r1.2 == (0 : Int)) = false]) (st' := ⟨[(0, .val .bool false)], [], []⟩) (by kernel_rfl) ⟨hb3, trivial⟩ ?_
    change VWp _ _ _ _ _
    obtain rfl := Option.some.inj h
    exact vwp_ret (ret_q (res := res12) (rows := rows12) ⟨by kernel_rfl, rfl⟩)

/-! ### ablaut/ablautlaw27.TallyCompares -/
noncomputable def F3 (x0 : Int × Int) (x1 : Int × Int) : Option (Bool) :=
  ((F10 x0 x1).bind fun r1 => ((F11 x0 x1).bind fun r2 => ((F10 x1 x0).bind fun r3 => (cond (r1.1 == r2.1) (cond (r1.2 == r2.2) (cond (r3.1 == (ineg .i64 r1.1)) (cond (r3.2 == r1.2) ((F12).bind fun r8 => (some r8)) (some false)) (some false)) (some false)) (some false)))))
def res3 (r : Bool) : Slot := .val .bool r
def rows3 (r : Bool) : List (Nat × Row) := []
theorem C3 {x0 : Int × Int} {x1 : Int × Int} {r : Bool} (h : F3 x0 x1 = some r) : CallOK Try.prog 3 [.agg [.val (.int .i64) x0.1, .val (.int .i64) x0.2], .agg [.val (.int .i64) x1.1, .val (.int .i64) x1.2]] (res3 r) (rows3 r) := by
  refine callOK_of' tok (f := 3) (fn := Try.f3) (by kernel_rfl) rfl (by kernel_rfl) (Nat.le_of_ble_eq_true (by kernel_rfl)) (fun C hC => ?_)
  unfold F3 at h
  refine vwp_seq ?_
  refine vw_reg tok hC (anns := [(0, { id := 2 }), (1, { id := 3 })]) (f := { ks := [2, 3], bs := [2, 3] }) (ps := []) (st' := ⟨[(2, .box 2 0), (3, .box 3 0)], [], [(2, (23, [.val (.int .i64) x0.1, .val (.int .i64) x0.2])), (3, (23, [.val (.int .i64) x1.1, .val (.int .i64) x1.2]))]⟩) (by kernel_rfl) trivial ?_
  change VWp _ _ _ _ _
  refine vwp_seq ?_
  obtain ⟨r1, hr1, h⟩ := bindS h
  refine vw_reg tok hC (anns := [(2, { res := .tup [.val (.int .i64) r1.1, .val (.int .i64) r1.2] })]) (f := { ks := [2, 3, 5, 6], bs := [2, 3] }) (ps := [CallOK Try.prog 10 [.agg [.val (.int .i64) x0.1, .val (.int .i64) x0.2], .agg [.val (.int .i64) x1.1, .val (.int .i64) x1.2]] (.tup [.val (.int .i64) r1.1, .val (.int .i64) r1.2]) []]) (st' := ⟨[(2, .box 2 0), (3, .box 3 0), (5, .val (.int .i64) r1.1), (6, .val (.int .i64) r1.2)], [], [(2, (23, [.val (.int .i64) x0.1, .val (.int .i64) x0.2])), (3, (23, [.val (.int .i64) x1.1, .val (.int .i64) x1.2]))]⟩) (by kernel_rfl) ⟨C10 hr1, trivial⟩ ?_
  change VWp _ _ _ _ _
  refine vwp_seq ?_
  obtain ⟨r2, hr2, h⟩ := bindS h
  refine vw_reg tok hC (anns := [(2, { res := .tup [.val (.int .i64) r2.1, .val (.int .i64) r2.2] })]) (f := { ks := [2, 3, 5, 6, 7, 8], bs := [2, 3] }) (ps := [CallOK Try.prog 11 [.agg [.val (.int .i64) x0.1, .val (.int .i64) x0.2], .agg [.val (.int .i64) x1.1, .val (.int .i64) x1.2]] (.tup [.val (.int .i64) r2.1, .val (.int .i64) r2.2]) []]) (st' := ⟨[(2, .box 2 0), (3, .box 3 0), (5, .val (.int .i64) r1.1), (6, .val (.int .i64) r1.2), (7, .val (.int .i64) r2.1), (8, .val (.int .i64) r2.2)], [], [(2, (23, [.val (.int .i64) x0.1, .val (.int .i64) x0.2])), (3, (23, [.val (.int .i64) x1.1, .val (.int .i64) x1.2]))]⟩) (by kernel_rfl) ⟨C11 hr2, trivial⟩ ?_
  change VWp _ _ _ _ _
  refine vwp_seq ?_
  obtain ⟨r3, hr3, h⟩ := bindS h
  refine vw_reg tok hC (anns := [(2, { res := .tup [.val (.int .i64) r3.1, .val (.int .i64) r3.2] })]) (f := { ks := [5, 6, 7, 8, 9, 10] }) (ps := [CallOK Try.prog 10 [.agg [.val (.int .i64) x1.1, .val (.int .i64) x1.2], .agg [.val (.int .i64) x0.1, .val (.int .i64) x0.2]] (.tup [.val (.int .i64) r3.1, .val (.int .i64) r3.2]) []]) (st' := ⟨[(5, .val (.int .i64) r1.1), (6, .val (.int .i64) r1.2), (7, .val (.int .i64) r2.1), (8, .val (.int .i64) r2.2), (9, .val (.int .i64) r3.1), (10, .val (.int .i64) r3.2)], [], []⟩) (by kernel_rfl) ⟨C10 hr3, trivial⟩ ?_
  change VWp _ _ _ _ _
  refine vwp_seq ?_
  rcases condS h with ⟨hb4, h⟩ | ⟨hb4, h⟩
  · rcases condS h with ⟨hb5, h⟩ | ⟨hb5, h⟩
    · rcases condS h with ⟨hb6, h⟩ | ⟨hb6, h⟩
      · rcases condS h with ⟨hb7, h⟩ | ⟨hb7, h⟩
        · obtain ⟨r8, hr8, h⟩ := bindS h
          refine vw_reg tok hC (anns := [(3, { fix := some true }), (8, { fix := some true }), (14, { fix := some true }), (19, { fix := some true }), (20, { res := .val .bool r8 })]) (f := { ks := [4] }) (ps := [(r1.1 == r2.1) = true, (r1.2 == r2.2) = true, (r3.1 == (ineg .i64 r1.1)) = true, (r3.2 == r1.2) = true, CallOK Try.prog 12 [] (.val .bool r8) []]) (st' := ⟨[(4, .val .bool r8)], [], []⟩) (by kernel_rfl) ⟨hb4, hb5, hb6, hb7, C12 hr8, trivial⟩ ?_
          change VWp _ _ _ _ _
          obtain rfl := Option.some.inj h
          exact vwp_ret (ret_q (res := res3) (rows := rows3) ⟨by kernel_rfl, rfl⟩)
        · refine vw_reg tok hC (anns := [(3, { fix := some true }), (8, { fix := some true }), (14, { fix := some true }), (19, { fix := some false })]) (f := { ks := [4] }) (ps := [(r1.1 == r2.1) = true, (r1.2 == r2.2) = true, (r3.1 == (ineg .i64 r1.1)) = true, (r3.2 == r1.2) = false]) (st' := ⟨[(4, .val .bool false)], [], []⟩) (by kernel_rfl) ⟨hb4, hb5, hb6, hb7, trivial⟩ ?_
          change VWp _ _ _ _ _
          obtain rfl := Option.some.inj h
          exact vwp_ret (ret_q (res := res3) (rows := rows3) ⟨by kernel_rfl, rfl⟩)
      · refine vw_reg tok hC (anns := [(3, { fix := some true }), (8, { fix := some true }), (14, { fix := some false })]) (f := { ks := [4] }) (ps := [(r1.1 == r2.1) = true, (r1.2 == r2.2) = true, (r3.1 == (ineg .i64 r1.1)) = false]) (st' := ⟨[(4, .val .bool false)], [], []⟩) (by kernel_rfl) ⟨hb4, hb5, hb6, trivial⟩ ?_
        change VWp _ _ _ _ _
        obtain rfl := Option.some.inj h
        exact vwp_ret (ret_q (res := res3) (rows := rows3) ⟨by kernel_rfl, rfl⟩)
    · refine vw_reg tok hC (anns := [(3, { fix := some true }), (8, { fix := some false })]) (f := { ks := [4] }) (ps := [(r1.1 == r2.1) = true, (r1.2 == r2.2) = false]) (st' := ⟨[(4, .val .bool false)], [], []⟩) (by kernel_rfl) ⟨hb4, hb5, trivial⟩ ?_
      change VWp _ _ _ _ _
      obtain rfl := Option.some.inj h
      exact vwp_ret (ret_q (res := res3) (rows := rows3) ⟨by kernel_rfl, rfl⟩)
  · refine vw_reg tok hC (anns := [(3, { fix := some false })]) (f := { ks := [4] }) (ps := [(r1.1 == r2.1) = false]) (st' := ⟨[(4, .val .bool false)], [], []⟩) (by kernel_rfl) ⟨hb4, trivial⟩ ?_
    change VWp _ _ _ _ _
    obtain rfl := Option.some.inj h
    exact vwp_ret (ret_q (res := res3) (rows := rows3) ⟨by kernel_rfl, rfl⟩)

end Go.V.Ta
