/- WheelNil returns true. -/
import Derived.Test.YtnnkchgkebcblaaWKnows
import Derived.Test.YtnnkchgkebcblaaCodecs
namespace Go.Proofs.Ytnnkchgkebcblaa
set_option linter.unusedVariables false
set_option linter.unusedSimpArgs false
open Go.RowKit
/-- a wheel that is none: nil, or one that New did not make. -/
def NoW (w : World) (v : Value) : Prop := v = .pointer none ∨ ∃ g, v = .pointer (some ⟨g, 0, none⟩) ∧ w.cell? ⟨g, 0, none⟩ = some (.bool false)
set_option maxHeartbeats 1000000 in
set_option maxRecDepth 100000 in
theorem nNext (v : Value) (w : World) (h : NoW w v) : Calls Try.prog 25 #[v] w fun e w' => e = .returned (.tuple #[.int .u64 0, .bool false]) ∧ w' = w := by
  rcases h with rfl | ⟨g, rfl, hc⟩
  all_goals
    go_enter Try.func25, Try.ntmps25
    go_wp2_with fail
    go_ret2
    exact ⟨rfl, rfl⟩
set_option maxHeartbeats 1000000 in
set_option maxRecDepth 100000 in
theorem nNow (v : Value) (w : World) (h : NoW w v) : Calls Try.prog 26 #[v] w fun e w' => e = .returned (.int .u64 0) ∧ w' = w := by
  rcases h with rfl | ⟨g, rfl, hc⟩
  all_goals
    go_enter Try.func26, Try.ntmps26
    go_wp2_with fail
    go_ret
    exact ⟨rfl, rfl⟩
set_option maxHeartbeats 1000000 in
set_option maxRecDepth 100000 in
theorem nLen (v : Value) (w : World) (h : NoW w v) : Calls Try.prog 27 #[v] w fun e w' => e = .returned (.int .i64 0) ∧ w' = w := by
  rcases h with rfl | ⟨g, rfl, hc⟩
  all_goals
    go_enter Try.func27, Try.ntmps27
    go_wp2_with fail
    go_ret
    exact ⟨rfl, rfl⟩
set_option maxHeartbeats 1000000 in
set_option maxRecDepth 100000 in
theorem nSet (v : Value) (i : Int) (x : Nat) (w : World) (h : NoW w v) : Calls Try.prog 28 #[v, .int .i64 i, .int .u64 (x : Int)] w fun e w' => e = .returned (.int .i64 1) ∧ w' = w := by
  rcases h with rfl | ⟨g, rfl, hc⟩
  all_goals
    go_enter Try.func28, Try.ntmps28
    go_wp2_with fail
    go_ret
    exact ⟨rfl, rfl⟩
theorem NoW.later {w w' : World} {v : Value} (h : NoW w v) (hb : Below w.heap.size w w') : NoW w' v := by
  rcases h with rfl | ⟨g, rfl, hc⟩
  · exact .inl rfl
  · exact .inr ⟨g, rfl, below_cell hb hc (World.block_lt_of_cell? _ _ hc)⟩
set_option maxHeartbeats 1000000 in
set_option maxRecDepth 100000 in
theorem nStop (v : Value) (i : Int) (w : World) (h : NoW w v) : Calls Try.prog 31 #[v, .int .i64 i] w fun e w' => e = .returned (.bool false) ∧ Below w.heap.size w w' := by
  rcases h with rfl | ⟨g, rfl, hc⟩
  · go_enter Try.func31, Try.ntmps31
    go_wp2_with fail
    go_ret
    exact ⟨rfl, (Below.refl _ _).alloc (Nat.le_refl _) _⟩
  · have hg := World.block_lt_of_cell? _ _ hc
    have hg : g < w.heap.size := hg
    go_enter Try.func31, Try.ntmps31
    go_wp2_with fail
    go_ret
    exact ⟨rfl, (Below.refl _ _).alloc (Nat.le_refl _) _⟩
set_option maxHeartbeats 1000000 in
set_option maxRecDepth 100000 in
theorem nAdvance (v : Value) (x : Nat) (w : World) (h : NoW w v) : Calls Try.prog 20 #[v, .int .u64 (x : Int)] w fun e w' => e = .returned (.slice none 0 0) ∧ w' = w := by
  rcases h with rfl | ⟨g, rfl, hc⟩
  all_goals
    go_enter Try.func20, Try.ntmps20
    go_wp2_with fail
    go_ret
    exact ⟨rfl, rfl⟩
set_option maxHeartbeats 2000000 in
set_option maxRecDepth 100000 in
theorem nothing_any (v : Value) (i : Int) (x : Nat) (w : World) (h : NoW w v) :
    Calls Try.prog 32 #[v, .int .i64 i, .int .u64 (x : Int)] w fun e w' => e = .returned (.bool true) ∧ Below w.heap.size w w' := by
  have H := Lib.hid h
  clear h
  go_enter Try.func32, Try.ntmps32
  go_wp2_with fail
  refine (nNext v w H.out).mono ?_
  rintro e w1 ⟨rfl, rfl⟩
  go_wp2_with fail
  refine (nSet v i x w1 H.out).mono ?_
  rintro e w2 ⟨rfl, rfl⟩
  go_wp2_with fail
  refine (nStop v i w2 H.out).mono ?_
  rintro e w3 ⟨rfl, hB3⟩
  have H3 := Lib.hid (H.out.later hB3)
  have HB3 := Lib.hid hB3
  clear hB3
  go_wp2_with fail
  refine (nAdvance v x w3 H3.out).mono ?_
  rintro e w4 ⟨rfl, rfl⟩
  go_wp2_with fail
  refine (nNow v w4 H3.out).mono ?_
  rintro e w5 ⟨rfl, rfl⟩
  go_wp2_with fail
  refine (nLen v w5 H3.out).mono ?_
  rintro e w6 ⟨rfl, rfl⟩
  go_wp2_with fail
  go_ret
  exact ⟨rfl, HB3.out⟩
set_option maxHeartbeats 2000000 in
set_option maxRecDepth 100000 in
theorem nil_in (i : Int) (x : Nat) (w : World) :
    Calls Try.prog 12 #[.int .i64 i, .int .u64 (x : Int)] w fun e w' => e = .returned (.bool true) ∧ Below w.heap.size w w' := by
  go_enter Try.func12, Try.ntmps12
  go_wp2_with fail
  refine (knows_any w).mono ?_
  rintro e w1 ⟨rfl, hB1⟩
  have HB1 := Lib.hid hB1
  clear hB1
  go_wp2_with fail
  refine (nothing_any _ i x w1 (.inl rfl)).mono ?_
  rintro e w2 ⟨rfl, hB2⟩
  have HB2 := Lib.hid (below_trans HB1.out hB2)
  clear hB2
  go_wp2_with fail
  obtain ⟨w3, hw3⟩ : ∃ w3, w3 = w2.alloc (.cells Try.zeroCells69 69) := ⟨_, rfl⟩
  rw [← hw3]
  have hB3 : Below w2.heap.size w2 w3 := hw3 ▸ (Below.refl _ _).alloc (Nat.le_refl _) _
  have hc : w3.cell? ⟨w2.heap.size, 0, none⟩ = some (.bool false) := by
    rw [hw3, zeroWheel]
    exact (Blk.new w2 _ _).cell_some (i := 0) rfl
  have HB3 := Lib.hid (below_trans HB2.out hB3)
  have HC := Lib.hid hc
  clear hw3 hB3 hc
  refine (nothing_any _ i x w3 (.inr ⟨_, rfl, HC.out⟩)).mono ?_
  rintro e w4 ⟨rfl, hB4⟩
  have HB4 := Lib.hid (below_trans HB3.out hB4)
  clear hB4
  go_wp2_with fail
  go_ret
  exact ⟨rfl, HB4.out⟩
theorem nilLaw_walk (W : World) (v0 : Int) (x0 : Int) (h0 : cInt.rep W [.int .i64 v0] x0) (v1 : Int) (x1 : Int) (h1 : cU64.rep W [.int .u64 v1] x1) :
    Calls Try.prog 12 #[.int .i64 v0, .int .u64 v1] W fun e w' => e = .returned (.bool true) ∧ Below W.heap.size W w' := by
  obtain ⟨x, rfl⟩ : ∃ n : Nat, v1 = (n : Int) := by
    obtain ⟨a1, a2⟩ := h1
    simp only [List.cons.injEq, Value.int.injEq, true_and, and_true] at a1
    subst a1
    refine ⟨_, (?_ : v1 = ((v1.toNat : Nat) : Int))⟩
    simp only [Lit.wf, Bool.and_eq_true, decide_eq_true_eq] at a2
    have e1 : IntKind.u64.min = 0 := by decide
    omega
  exact nil_in v0 x W
end Go.Proofs.Ytnnkchgkebcblaa
