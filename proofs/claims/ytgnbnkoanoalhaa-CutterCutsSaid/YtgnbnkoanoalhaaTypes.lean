/- The element types of this seat's slices, as the program's tables tell them. -/
import Derived.Test.YtgnbnkoanoalhaaProg
import Derived.Test.YtgnbnkoanoalhaaBase
namespace Go.Proofs.Ytgnbnkoanoalhaa
set_option linter.unusedVariables false
set_option linter.unusedSimpArgs false
theorem El.u8 : El Try.prog 22 5 (.int .u8 0) 1 1 := ⟨Try.underlying22, by kernel_rfl, rfl, by decide, by decide⟩
theorem El.bytes : El Try.prog 24 22 (.slice none 0 0) 1 24 := ⟨Try.underlying24, by kernel_rfl, rfl, by decide, by decide⟩
theorem El.range : El Try.prog 60 77 (.agg #[.int .i64 0, .int .i64 0]) 2 16 := ⟨Try.underlying60, by kernel_rfl, rfl, by decide, by decide⟩
theorem El.ranges : El Try.prog 88 60 (.slice none 0 0) 1 24 := ⟨Try.underlying88, by kernel_rfl, rfl, by decide, by decide⟩
theorem run_str8 {w W : World} {v : Value} {l : List UInt8} (h : Bs w v l) (hW : W.heap = w.heap) : (convert 22 9 v).run Try.prog W = .ok (.string (str l)) W :=
  run_str Try.underlying22 Try.underlying5 Try.underlying9 h hW
end Go.Proofs.Ytgnbnkoanoalhaa
