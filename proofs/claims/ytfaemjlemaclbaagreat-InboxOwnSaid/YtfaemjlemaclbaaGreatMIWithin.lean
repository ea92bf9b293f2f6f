/- within: a number brought into 0 .. m - 1. -/
import Derived.Test.YtfaemjlemaclbaaGreatMIOps
namespace Go.Proofs.YtfaemjlemaclbaaGreat
set_option linter.unusedVariables false
set_option linter.unusedSimpArgs false
open Go.RowKit Go.Maps
def WithinPost (w : World) (m : Nat) (e : Ending) (w' : World) : Prop := ∃ k : Nat, k < m ∧ e = .returned (.int .i64 (k : Int)) ∧ w' = w
set_option maxHeartbeats 1000000 in
set_option maxRecDepth 100000 in
theorem within_any (n : Int) (m : Nat) (w : World) (h0 : 0 < m) (h1 : m ≤ 4611686018427) :
    Calls Tryz.prog 13 #[.int .i64 n, .int .i64 (m : Int)] w fun e w' => WithinPost w m e w' := by
  have hm0 : ((m : Int) == 0) = false := by simp; omega
  have ht1 : Int.tmod n m < m := by have := Int.tmod_lt_of_pos n (b := (m : Int)) (by omega); omega
  have ht2 : -(m : Int) < Int.tmod n m := by
    have := Int.tmod_lt_of_pos (-n) (b := (m : Int)) (by omega)
    rw [Int.neg_tmod] at this
    omega
  obtain ⟨k, hk⟩ : ∃ k, k = Int.tmod n m := ⟨_, rfl⟩
  rw [← hk] at ht1 ht2
  have hk' := hk.symm
  clear hk
  by_cases hn : k < 0
  · go_enter Tryz.func13, Tryz.ntmps13
    go_wp2_with fail
    go_ret
    exact ⟨(k + m).toNat, by omega, by rw [Int.toNat_of_nonneg (by omega)]; rfl, rfl⟩
  · go_enter Tryz.func13, Tryz.ntmps13
    go_wp2_with fail
    go_ret
    exact ⟨k.toNat, by omega, by rw [Int.toNat_of_nonneg (by omega)]; rfl, rfl⟩
end Go.Proofs.YtfaemjlemaclbaaGreat
