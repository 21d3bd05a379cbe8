/- Common to the sixteen ways. -/
import Derived.Test.YtckadanghhibhaaJback2
namespace Go.Proofs.Ytckadanghhibhaa
open Go.RowKit
theorem head_neq_same (s t : Int) (w : World) : (binOp .neq 24 (.agg #[.int .u32 s, .int .i64 t]) (.agg #[.int .u32 s, .int .i64 t])).run Try.prog w = .ok (.bool false) w := by
  rw [head_neq]; simp
end Go.Proofs.Ytckadanghhibhaa
