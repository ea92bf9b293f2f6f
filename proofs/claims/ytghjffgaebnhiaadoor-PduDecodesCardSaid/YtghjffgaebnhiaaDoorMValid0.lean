/- pdu: kind, named, forms at data, goodData. -/
import Derived.Test.YtghjffgaebnhiaaDoorMCrc
import Derived.Test.YtghjffgaebnhiaaDoorMClass
import Derived.Test.YtghjffgaebnhiaaDoorMTypes
import Derived.Lib.Hide
import Derived.Laws.ResultCell
import Derived.Laws.EntriesVeiled
namespace Go.Proofs.YtghjffgaebnhiaaDoor
set_option linter.unusedVariables false
set_option linter.unusedSimpArgs false
open Go.RowKit
set_option maxHeartbeats 400000 in
set_option maxRecDepth 100000 in
theorem kind_any (k : Int) (w : World) : Calls Tryd.prog 37 #[.int .i64 k] w fun e w' => e = .returned (.bool (decide (1 ≤ k) && decide (k ≤ 3))) ∧ w' = w := by
  by_cases h1 : 1 ≤ k
  · have hc1 : decide (k ≥ 1) = true := by simpa using h1
    go_enter Tryd.func37, Tryd.ntmps37
    go_wp2
    go_ret
    simp [h1]
  · have hc1 : decide (k ≥ 1) = false := by simpa using h1
    go_enter Tryd.func37, Tryd.ntmps37
    go_wp2
    go_ret
    simp [h1]
set_option maxHeartbeats 400000 in
set_option maxRecDepth 100000 in
theorem named_any (n : UInt64) (w : World) : Calls Tryd.prog 38 #[.int .u64 (n.toNat : Int)] w fun e w' => e = .returned (.bool (decide (named n))) ∧ w' = w := by
  have hdec : decide (named n) = (decide (1 ≤ n.toNat) && decide (n.toNat ≤ 281474976710655)) := by
    by_cases h : named n
    · rw [decide_eq_true h, decide_eq_true h.1, decide_eq_true h.2]; rfl
    · rw [decide_eq_false h]
      unfold named at h
      by_cases h1 : 1 ≤ n.toNat
      · rw [decide_eq_true h1, decide_eq_false (fun h2 => h ⟨h1, h2⟩)]; rfl
      · rw [decide_eq_false h1]; rfl
  rw [hdec]
  obtain ⟨k, hk⟩ : ∃ k, k = n.toNat := ⟨_, rfl⟩
  rw [← hk]
  clear hk hdec
  by_cases h1 : 1 ≤ k
  · have hc1 : decide ((k : Int) ≥ 1) = true := by simp; omega
    go_enter Tryd.func38, Tryd.ntmps38
    go_wp2
    go_ret
    refine ⟨?_, rfl⟩
    simp [h1]
    omega
  · have hc1 : decide ((k : Int) ≥ 1) = false := by simp; omega
    go_enter Tryd.func38, Tryd.ntmps38
    go_wp2
    go_ret
    refine ⟨?_, rfl⟩
    simp [h1]
theorem forms_at (W : World) : (Instr.index 104 (.agg #[.nilFunc, .nilFunc, .nilFunc, .func (.func 71) #[] #[], .func (.func 72) #[] #[], .func (.func 73) #[] #[],
    .func (.func 74) #[] #[], .func (.func 75) #[] #[], .func (.func 76) #[] #[], .func (.func 77) #[] #[], .func (.func 78) #[] #[], .func (.func 79) #[] #[]]) (.int .i64 1)).run Tryd.prog W =
    .ok (.agg #[.func (.func 71) #[] #[], .func (.func 72) #[] #[], .func (.func 73) #[] #[]]) W := by
  kernel_rfl
set_option maxHeartbeats 400000 in
set_option maxRecDepth 100000 in
theorem forms_data (w : World) : Calls Tryd.prog 39 #[.int .i64 1] w fun e w' => e = .returned (.agg #[.func (.func 71) #[] #[], .func (.func 72) #[] #[], .func (.func 73) #[] #[]]) ∧ Below w.heap.size w w' := by
  have hx := forms_at
  go_enter Tryd.func39, Tryd.ntmps39
  go_wp2
  refine bodyPost_ret (v := .agg #[.func (.func 71) #[] #[], .func (.func 72) #[] #[], .func (.func 73) #[] #[]]) (results_cell_row rfl _ _ w.heap.size _ _ _ _ rfl (heap_alloc_new _ _) Tryd.underlying69 rfl (by kernel_rfl)) rfl ?_
  exact ⟨rfl, (Below.refl _ _).alloc (Nat.le_refl _) _⟩
set_option maxHeartbeats 1000000 in
set_option maxRecDepth 100000 in
theorem goodData_any (u : UD) (dp gp : Option Addr) (dc gc : Nat) (w : World) :
    Calls Tryd.prog 71 #[uv u (.slice dp u.data.length dc) (.slice gp u.got.length gc)] w fun e w' => e = .returned (.bool (decide (goodD u))) ∧ Below w.heap.size w w' := by
  have hdec : decide (goodD u) = ((decide (u.path = 1) || decide (u.path = 2)) && (decide (1 ≤ u.cnt) && decide (u.cnt ≤ 64) && decide (0 ≤ u.idx) && decide (u.idx < u.cnt)) && decide (1 ≤ u.data.length) && decide (u.data.length ≤ 1024) && decide (u.code = 0) && decide (u.got.length = 0)) := by
    rw [Bool.eq_iff_iff, decide_eq_true_iff]
    simp only [decide_eq_true_eq, Bool.and_eq_true, Bool.or_eq_true, and_assoc, goodD]
  rw [hdec]
  obtain ⟨kind, ep, ses, path, idx, cnt, data, code, got⟩ := u
  unfold uv
  simp only
  obtain ⟨n, hn⟩ : ∃ n, n = data.length := ⟨_, rfl⟩
  obtain ⟨k, hk⟩ : ∃ k, k = got.length := ⟨_, rfl⟩
  obtain ⟨e1, he1⟩ : ∃ e1, e1 = ep.toNat := ⟨_, rfl⟩
  obtain ⟨e2, he2⟩ : ∃ e2, e2 = ses.toNat := ⟨_, rfl⟩
  rw [← hn, ← hk, ← he1, ← he2]
  clear hn hk hdec he1 he2
  go_enter Tryd.func71, Tryd.ntmps71
  go_wp2
  all_goals
    go_ret
    refine ⟨?_, (Below.refl _ _).alloc (Nat.le_refl _) _⟩
    congr 2 <;> first | (simp [*]; done) | (simp [*]; omega) | (simp [*]; rw [Bool.eq_iff_iff]; simp; try omega)
end Go.Proofs.YtghjffgaebnhiaaDoor
