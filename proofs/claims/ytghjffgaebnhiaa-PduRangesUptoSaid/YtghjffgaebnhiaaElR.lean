/- The element type of lists of ranges, as the program's tables tell it. -/
import Derived.Test.YtghjffgaebnhiaaProg
import Derived.Test.YtghjffgaebnhiaaBase
namespace Go.Proofs.Ytghjffgaebnhiaa
set_option linter.unusedVariables false
set_option linter.unusedSimpArgs false
theorem El.range : El Try.prog 22 31 (.agg #[.int .i64 0, .int .i64 0]) 2 16 := ⟨Try.underlying22, by kernel_rfl, rfl, by decide, by decide⟩
end Go.Proofs.Ytghjffgaebnhiaa
