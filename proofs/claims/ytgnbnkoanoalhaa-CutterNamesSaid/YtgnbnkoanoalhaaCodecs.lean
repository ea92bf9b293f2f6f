/- The codecs of this seat's argument types. -/
import Derived.Test.YtgnbnkoanoalhaaProg
import Derived.Test.YtgnbnkoanoalhaaCodec
namespace Go.Proofs.Ytgnbnkoanoalhaa
set_option linter.unusedVariables false
set_option linter.unusedSimpArgs false
abbrev cInt : Codec Try.prog 3 Int := Codec.int .i64 Try.underlying3 (by kernel_rfl)
abbrev cU64 : Codec Try.prog 104 Int := Codec.int .u64 Try.underlying104 (by kernel_rfl)
abbrev cBytes : Codec Try.prog 22 (List UInt8) := Codec.slice Try.underlying22 (by kernel_rfl) (Codec.u8 Try.underlying5 (by kernel_rfl)) (by decide)
theorem bytesU8 : Try.prog.bytesOf 5 = 1 := by kernel_rfl
set_option maxRecDepth 100000 in
theorem cBytes_bs {w : World} {v : Value} {l : List UInt8} (h : cBytes.rep w [v] l) : Bs w v l ∧ l.length ≤ 140737488351232 := by
  obtain ⟨v', h1, h2, h3⟩ := bs_of_slice h
  rw [bytesU8] at h3
  simp only [List.cons.injEq, and_true] at h1
  subst h1
  exact ⟨h2, by simp only [reachBytes] at h3; omega⟩
end Go.Proofs.Ytgnbnkoanoalhaa
