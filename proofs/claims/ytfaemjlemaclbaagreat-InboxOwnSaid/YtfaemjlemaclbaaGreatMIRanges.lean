/- ranges: lists of ranges that are alike. -/
import Derived.Test.YtfaemjlemaclbaaGreatMBase
import Derived.Test.YtfaemjlemaclbaaGreatMRefGot
import Derived.Test.YtfaemjlemaclbaaGreatMAppAt
namespace Go.Proofs.YtfaemjlemaclbaaGreat
set_option linter.unusedVariables false
set_option linter.unusedSimpArgs false
open Go.RowKit
set_option maxHeartbeats 1000000 in
set_option maxRecDepth 100000 in
theorem iranges_yes (v v' : Value) (l : List (Int × Int)) (w : World) (h : Rgs w v l) (h' : Rgs w v' l) (hl : l.length ≤ 140737488355328) :
    Calls Tryz.prog 25 #[v, v'] w fun e w' => e = .returned (.bool true) ∧ ∃ n, w' = w.drewN n := by
  obtain ⟨ao, cap, rfl, _, hr⟩ := h.cells
  obtain ⟨ao', cap', rfl, _, hr'⟩ := h'.cells
  clear h h'
  go_enter Tryz.func25, Tryz.ntmps25
  go_wp2
  go_loopw [5] (fun i wr => ∃ k : Nat, k ≤ l.length ∧ i = .int .i64 k ∧ ∃ q, wr = w.drewN q) (fun i _ => l.length - (intOf i).toNat)
  case atStart => exact ⟨0, Nat.zero_le _, rfl, 0, rfl⟩
  case round =>
    obtain ⟨k, hk, rfl, q, rfl⟩ := hrel
    by_cases hlt : k < l.length
    · obtain ⟨b, off, rfl, hc⟩ := hr (by omega)
      obtain ⟨b', off', rfl, hc'⟩ := hr' (by omega)
      obtain ⟨c0, c1⟩ := hc k _ (List.getElem?_eq_getElem hlt)
      obtain ⟨d0, d1⟩ := hc' k _ (List.getElem?_eq_getElem hlt)
      obtain ⟨x1, hx1⟩ : ∃ x, x = (l[k]).1 := ⟨_, rfl⟩
      obtain ⟨x2, hx2⟩ : ∃ x, x = (l[k]).2 := ⟨_, rfl⟩
      rw [← hx1] at c0 d0
      rw [← hx2] at c1 d1
      clear hx1 hx2 hc hc' hr hr'
      have ix : (k : Int) < l.length := by omega
      go_wp2
      go_quiet (fail)
      go_wp2
      go_roundw
      case rel => exact ⟨k + 1, by omega, by go_num, _, rfl⟩
      case measure => simp [intOf]; omega
    · obtain rfl : k = l.length := by omega
      go_wp2
      go_ret
      exact ⟨rfl, _, rfl⟩
end Go.Proofs.YtfaemjlemaclbaaGreat
