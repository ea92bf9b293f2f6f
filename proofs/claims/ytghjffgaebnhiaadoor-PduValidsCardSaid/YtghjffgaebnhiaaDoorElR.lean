/- The element type of lists of ranges, as the program's tables tell it. -/
import Derived.Test.YtghjffgaebnhiaaDoorProg
import Derived.Test.YtghjffgaebnhiaaDoorBase
namespace Go.Proofs.YtghjffgaebnhiaaDoor
set_option linter.unusedVariables false
set_option linter.unusedSimpArgs false
theorem El.range : El Tryd.prog 24 57 (.agg #[.int .i64 0, .int .i64 0]) 2 16 := ⟨Tryd.underlying24, by kernel_rfl, rfl, by decide, by decide⟩
end Go.Proofs.YtghjffgaebnhiaaDoor
