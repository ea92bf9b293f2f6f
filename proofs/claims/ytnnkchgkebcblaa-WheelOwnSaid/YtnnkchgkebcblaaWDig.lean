/- digit and time. -/
import Derived.Test.YtnnkchgkebcblaaWSt
import Derived.Laws.BitsAllLaws
namespace Go.Proofs.Ytnnkchgkebcblaa
set_option linter.unusedVariables false
set_option linter.unusedSimpArgs false
open Go.RowKit
theorem and63 (x : Nat) (h : x < 18446744073709551616) : bits .and .u64 (x : Int) 63 = ((x % 64 : Nat) : Int) := by
  rw [u64_and _ _ (by omega) (by omega) (by omega) (by omega)]
  have := Nat.and_two_pow_sub_one_eq_mod x 6
  simp only [Int.toNat_natCast]
  rw [show (63 : Int).toNat = 2 ^ 6 - 1 by decide, this]
theorem shr_dg (x l : Nat) : (x : Int) / 2 ^ (6 * l) = ((hi l x : Nat) : Int) := by
  unfold hi
  rw [show (64 : Nat) ^ l = 2 ^ (6 * l) by rw [Nat.pow_mul], Int.natCast_ediv]
  congr 1
theorem dg_bits (x l : Nat) (hx : x < 64 ^ 8) : wrap64 (bits .and .u64 ((x : Int) / 2 ^ (6 * l)) 63) = ((dg x l : Nat) : Int) := by
  have h1 : hi l x ≤ x := Nat.div_le_self _ _
  rw [shr_dg, and63 _ (by omega), ← dg_hi]
  have := dg_lt x l
  unfold wrap64
  omega
set_option maxHeartbeats 1000000 in
set_option maxRecDepth 100000 in
theorem digit_any (x l : Nat) (hx : x < 64 ^ 8) (hl : l < 8) (w : World) :
    Calls Try.prog 46 #[.int .u64 (x : Int), .int .i64 (l : Int)] w fun e w' => e = .returned (.int .i64 ((dg x l : Nat) : Int)) ∧ w' = w := by
  go_enter Try.func46, Try.ntmps46
  go_wp2
  rw [dg_bits x l hx]
  go_ret
  exact ⟨rfl, rfl⟩
set_option maxHeartbeats 1000000 in
set_option maxRecDepth 100000 in
theorem time_any (x : Nat) (w : World) :
    Calls Try.prog 33 #[.int .u64 (x : Int)] w fun e w' => e = .returned (.int .u64 ((min x 281474976710655 : Nat) : Int)) ∧ w' = w := by
  go_enter Try.func33, Try.ntmps33
  by_cases h : x ≤ 281474976710655
  · have hb : ((x : Int) ≤ 281474976710655) := by omega
    go_wp2
    all_goals first
      | omega
      | (go_ret; exact ⟨by rw [Nat.min_eq_left h]; rfl, rfl⟩)
  · have hb : ¬ ((x : Int) ≤ 281474976710655) := by omega
    go_wp2
    all_goals first
      | omega
      | (go_ret; exact ⟨by rw [Nat.min_eq_right (by omega)]; rfl, rfl⟩)
end Go.Proofs.Ytnnkchgkebcblaa
