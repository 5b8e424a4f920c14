/- The types of the loaded program, as the value logic knows them. Printed by wip/tools/gotypes.py. -/
import Derived.Test.YtcldmkjlbdpbaaaV23
import Derived.Test.YtcldmkjlbdpbaaaProg
import Derived.KernelRfl
set_option linter.unusedVariables false
namespace Go.V.Ta
open Go.Proofs

noncomputable def tab : List (Nat × TI) := [
  (3, TI.plain Try.t3.desc Try.t3 (.int .i64) false),
  (4, TI.plain Try.t4.desc Try.t4 (.bool) false),
  (9, TI.plain Try.t9.desc Try.t9 (.str) false),
  (23, TI.plain Try.t22.desc Try.t23 (.st (.pr (.int .i64) (.int .i64))) true),
  (24, TI.plain Try.t3.desc Try.t24 (.int .i64) false),
  (29, TI.plain Try.t29.desc Try.t29 (.sl 3 (.int .i64)) false),
  (51, TI.plain Try.t51.desc Try.t51 (.sl 23 (.st (.pr (.int .i64) (.int .i64)))) false),
  (55, TI.plain Try.t55.desc Try.t55 (.st (.pr (.int .i64) (.pr (.int .i64) (.pr (.int .i64) (.int .i64))))) false),
  (98, TI.plain Try.t98.desc Try.t98 (.int .u64) false),
  (99, TI.plain Try.t99.desc Try.t99 (.st (.pr (.int .u64) (.int .u64))) false),
  (111, TI.plain Try.t111.desc Try.t111 (.int .u64) false),
  (121, TI.plain Try.t120.desc Try.t121 (.st (.pr (.int .i64) (.int .i64))) true)]
noncomputable def T (t : Nat) : Option TI := assoc t tab
theorem fact3 : TFact Try.prog 3 (TI.plain Try.t3.desc Try.t3 (.int .i64) false) := tfact (by kernel_rfl) (by kernel_rfl) (by kernel_rfl) (by kernel_rfl) (by kernel_rfl)
theorem fact4 : TFact Try.prog 4 (TI.plain Try.t4.desc Try.t4 (.bool) false) := tfact (by kernel_rfl) (by kernel_rfl) (by kernel_rfl) (by kernel_rfl) (by kernel_rfl)
theorem fact9 : TFact Try.prog 9 (TI.plain Try.t9.desc Try.t9 (.str) false) := tfact (by kernel_rfl) (by kernel_rfl) (by kernel_rfl) (by kernel_rfl) (by kernel_rfl)
theorem fact23 : TFact Try.prog 23 (TI.plain Try.t22.desc Try.t23 (.st (.pr (.int .i64) (.int .i64))) true) := tfact (by kernel_rfl) (by kernel_rfl) (by kernel_rfl) (by kernel_rfl) (by kernel_rfl)
theorem fact24 : TFact Try.prog 24 (TI.plain Try.t3.desc Try.t24 (.int .i64) false) := tfact (by kernel_rfl) (by kernel_rfl) (by kernel_rfl) (by kernel_rfl) (by kernel_rfl)
theorem fact29 : TFact Try.prog 29 (TI.plain Try.t29.desc Try.t29 (.sl 3 (.int .i64)) false) := tfact (by kernel_rfl) (by kernel_rfl) (by kernel_rfl) (by kernel_rfl) (by kernel_rfl)
theorem fact51 : TFact Try.prog 51 (TI.plain Try.t51.desc Try.t51 (.sl 23 (.st (.pr (.int .i64) (.int .i64)))) false) := tfact (by kernel_rfl) (by kernel_rfl) (by kernel_rfl) (by kernel_rfl) (by kernel_rfl)
theorem fact55 : TFact Try.prog 55 (TI.plain Try.t55.desc Try.t55 (.st (.pr (.int .i64) (.pr (.int .i64) (.pr (.int .i64) (.int .i64))))) false) := tfact (by kernel_rfl) (by kernel_rfl) (by kernel_rfl) (by kernel_rfl) (by kernel_rfl)
theorem fact98 : TFact Try.prog 98 (TI.plain Try.t98.desc Try.t98 (.int .u64) false) := tfact (by kernel_rfl) (by kernel_rfl) (by kernel_rfl) (by kernel_rfl) (by kernel_rfl)
theorem fact99 : TFact Try.prog 99 (TI.plain Try.t99.desc Try.t99 (.st (.pr (.int .u64) (.int .u64))) false) := tfact (by kernel_rfl) (by kernel_rfl) (by kernel_rfl) (by kernel_rfl) (by kernel_rfl)
theorem fact111 : TFact Try.prog 111 (TI.plain Try.t111.desc Try.t111 (.int .u64) false) := tfact (by kernel_rfl) (by kernel_rfl) (by kernel_rfl) (by kernel_rfl) (by kernel_rfl)
theorem fact121 : TFact Try.prog 121 (TI.plain Try.t120.desc Try.t121 (.st (.pr (.int .i64) (.int .i64))) true) := tfact (by kernel_rfl) (by kernel_rfl) (by kernel_rfl) (by kernel_rfl) (by kernel_rfl)
theorem tok : TOk Try.prog T := tok_of (l := tab) ⟨fact3, fact4, fact9, fact23, fact24, fact29, fact51, fact55, fact98, fact99, fact111, fact121, trivial⟩
theorem mixed : Try.prog.follows .mixedOrders = true := by kernel_rfl
end Go.V.Ta
