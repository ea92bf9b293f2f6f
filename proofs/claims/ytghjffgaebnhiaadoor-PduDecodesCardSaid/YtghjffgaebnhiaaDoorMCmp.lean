/- cmp.Compare at two numbers, and the order by which pdu.Least sorts. -/
import Derived.Test.YtghjffgaebnhiaaDoorMElR
import Derived.Sort.Grow
import Derived.Shelf.SlicesG.Cmp
namespace Go.Proofs.YtghjffgaebnhiaaDoor
set_option linter.unusedVariables false
set_option linter.unusedSimpArgs false
open Go.RowKit Go.Sort Go.Proofs
set_option maxHeartbeats 1000000 in
theorem isNaN_any (a : Int) (w : World) : Calls Tryd.prog 92 #[.int .i64 a] w fun e w' => e = .returned (.bool false) ∧ w = w' := by
  go_enter Tryd.func92, Tryd.ntmps92
  go_wp2
  go_ret
  exact ⟨rfl, rfl⟩
set_option maxHeartbeats 1000000 in
theorem cmp_any (a b : Int) (w : World) : Calls Tryd.prog 64 #[.int .i64 a, .int .i64 b] w fun e w' => e = .returned (.int .i64 (Lib.compareInt a b)) ∧ w = w' := by
  by_cases h1 : a < b
  · go_enter Tryd.func64, Tryd.ntmps64
    go_wp2_with fail
    refine (isNaN_any _ _).mono ?_
    rintro e _ ⟨rfl, rfl⟩
    go_wp2_with fail
    refine (isNaN_any _ _).mono ?_
    rintro e _ ⟨rfl, rfl⟩
    go_wp2_with fail
    go_ret
    exact ⟨by rw [show Lib.compareInt a b = -1 by unfold Lib.compareInt; split <;> (try split) <;> omega]; rfl, rfl⟩
  · by_cases h2 : b < a
    · go_enter Tryd.func64, Tryd.ntmps64
      go_wp2_with fail
      refine (isNaN_any _ _).mono ?_
      rintro e _ ⟨rfl, rfl⟩
      go_wp2_with fail
      refine (isNaN_any _ _).mono ?_
      rintro e _ ⟨rfl, rfl⟩
      go_wp2_with fail
      go_ret
      exact ⟨by rw [show Lib.compareInt a b = 1 by unfold Lib.compareInt; split <;> (try split) <;> omega]; rfl, rfl⟩
    · go_enter Tryd.func64, Tryd.ntmps64
      go_wp2_with fail
      refine (isNaN_any _ _).mono ?_
      rintro e _ ⟨rfl, rfl⟩
      go_wp2_with fail
      refine (isNaN_any _ _).mono ?_
      rintro e _ ⟨rfl, rfl⟩
      go_wp2_with fail
      go_ret
      exact ⟨by rw [show Lib.compareInt a b = 0 by unfold Lib.compareInt; split <;> (try split) <;> omega]; rfl, rfl⟩
set_option maxHeartbeats 1000000 in
/-- pdu.Least's order: two blocks are laid. -/
theorem byFrom_any (x y : Int × Int) (W : World) : Calls Tryd.prog 63 #[.agg #[.int .i64 x.1, .int .i64 x.2], .agg #[.int .i64 y.1, .int .i64 y.2]] W fun e w' => e = .returned (.int .i64 (Lib.compareInt x.1 y.1)) ∧ ∃ q os', w' = grow (W.drewN q) os' := by
  obtain ⟨x1, x2⟩ := x
  obtain ⟨y1, y2⟩ := y
  simp only
  have hcon := fun W' => cmp_any x1 y1 W'
  generalize Lib.compareInt x1 y1 = r at hcon ⊢
  go_enter Tryd.func63, Tryd.ntmps63
  go_wp2_with fail
  refine (hcon _).mono ?_
  rintro e _ ⟨rfl, rfl⟩
  go_wp2_with fail
  go_ret
  exact ⟨rfl, 0, _, by rw [alloc_eq_grow, alloc_eq_grow, grow_grow]; rfl⟩
end Go.Proofs.YtghjffgaebnhiaaDoor
