/- InboxMakes returns true. -/
import Derived.Test.YtfaemjlemaclbaaMIKnows
import Derived.Test.YtfaemjlemaclbaaMBase
namespace Go.Proofs.Ytfaemjlemaclbaa
set_option linter.unusedVariables false
set_option linter.unusedSimpArgs false
open Go.RowKit Go.Maps
set_option maxHeartbeats 1000000 in
set_option maxRecDepth 100000 in
theorem znew_no (a b : Int) (w : World) (h : ¬ newOk a b) :
    Calls Try.prog 39 #[.int .i64 a, .int .i64 b] w fun e w' => e = .returned (.tuple #[.pointer none, .int .i64 1]) ∧ w' = w := by
  have hor : a < 1 ∨ (¬ a < 1 ∧ 64 < a) ∨ (¬ a < 1 ∧ ¬ 64 < a ∧ b < 1) ∨ (¬ a < 1 ∧ ¬ 64 < a ∧ ¬ b < 1 ∧ 4096 < b) := by
    unfold newOk at h
    omega
  clear h
  rcases hor with h | ⟨h, h1⟩ | ⟨h, h1, h2⟩ | ⟨h, h1, h2, h3⟩
  all_goals
    go_enter Try.func39, Try.ntmps39
    go_wp2
    go_ret2
    exact ⟨rfl, rfl⟩
def ZMade (w : World) (a b : Nat) (e : Ending) (w' : World) : Prop := ∃ d, e = .returned (.tuple #[.pointer (some ⟨d, 0, none⟩), .int .i64 0]) ∧ Blk w' d 103 [.int .i64 (a : Int), .int .i64 (b : Int), .int .u64 0, .slice none 0 0, .slice none 0 0] ∧ Below w.heap.size w w'
set_option maxHeartbeats 1000000 in
set_option maxRecDepth 100000 in
theorem znew_in (a b : Nat) (w : World) (h : newOk a b) :
    Calls Try.prog 39 #[.int .i64 (a : Int), .int .i64 (b : Int)] w fun e w' => ZMade w a b e w' := by
  obtain ⟨h1, h2, h3, h4⟩ := h
  have g1 : ¬ (a : Int) < 1 := by omega
  have g2 : ¬ 64 < (a : Int) := by omega
  have g3 : ¬ (b : Int) < 1 := by omega
  have g4 : ¬ 4096 < (b : Int) := by omega
  go_enter Try.func39, Try.ntmps39
  go_wp2
  go_ret2
  exact ⟨_, rfl, Blk.new w _ [.int .i64 (a : Int), .int .i64 (b : Int), .int .u64 0, .slice none 0 0, .slice none 0 0], (Below.refl _ _).alloc (Nat.le_refl _) _⟩
def ZBoth (w : World) (a b : Nat) (e : Ending) (w' : World) : Prop := ∃ x d S, e = .returned (.tuple #[.pointer (some ⟨x, 0, none⟩), .pointer (some ⟨d, 0, none⟩), .bool true]) ∧ In w' x S 0 ⟨a, b, 0, [], []⟩ ∧ Blk w' d 103 [.int .i64 (a : Int), .int .i64 (b : Int), .int .u64 0, .slice none 0 0, .slice none 0 0] ∧ Below w.heap.size w w'
set_option maxHeartbeats 1000000 in
set_option maxRecDepth 100000 in
theorem zboth_yes (a b : Nat) (w : World) (h : newOk a b) : Calls Try.prog 18 #[.int .i64 (a : Int), .int .i64 (b : Int)] w fun e w' => ZBoth w a b e w' := by
  go_enter Try.func18, Try.ntmps18
  go_wp2_with fail
  refine (inew_yes a b w h).mono ?_
  rintro e w1 ⟨x, Si, rfl, h1, hS1, hB1⟩
  have H1 := Lib.hid h1; have HB1 := Lib.hid hB1
  clear h1 hS1 hB1
  go_wp2_with fail
  refine (znew_in a b w1 h).mono ?_
  rintro e w2 ⟨d, rfl, h2, hB2⟩
  have H2 := Lib.hid h2; have HB2 := Lib.hid hB2
  clear h2 hB2
  go_wp2_with fail
  go_ret3
  exact ⟨x, d, Si, rfl, H1.out.later HB2.out, H2.out, below_trans HB1.out HB2.out⟩
set_option maxHeartbeats 1000000 in
set_option maxRecDepth 100000 in
theorem zboth_no (a b : Int) (w : World) (h : ¬ newOk a b) : Calls Try.prog 18 #[.int .i64 a, .int .i64 b] w fun e w' => e = .returned (.tuple #[.pointer none, .pointer none, .bool true]) ∧ w' = w := by
  go_enter Try.func18, Try.ntmps18
  go_wp2_with fail
  refine (inew_no a b w h).mono ?_
  rintro e w1 ⟨rfl, rfl⟩
  go_wp2_with fail
  refine (znew_no a b w1 h).mono ?_
  rintro e w2 ⟨rfl, rfl⟩
  go_wp2_with fail
  go_ret3
  exact ⟨rfl, rfl⟩
set_option maxHeartbeats 2000000 in
set_option maxRecDepth 100000 in
theorem zshows {w : World} {x d a b : Nat} {S : Nat → Prop} (h : In w x S 0 ⟨a, b, 0, [], []⟩) (h2 : Blk w d 103 [.int .i64 (a : Int), .int .i64 (b : Int), .int .u64 0, .slice none 0 0, .slice none 0 0]) :
    Calls Try.prog 19 #[.pointer (some ⟨x, 0, none⟩), .pointer (some ⟨d, 0, none⟩)] w fun e w' => e = .returned (.bool true) ∧ Below w.heap.size w w' := by
  have H1 := Lib.hid h; have H2 := Lib.hid h2
  clear h h2
  go_enter Try.func19, Try.ntmps19
  go_wp2_with fail
  refine (in_open H1.out).mono ?_
  rintro e w1 ⟨v1, rfl, ho1, hB1⟩
  obtain ⟨a1, cap1, rfl, -⟩ := own_open ho1
  have H1b := Lib.hid (H1.out.later hB1); have HB1 := Lib.hid hB1
  clear ho1 hB1
  go_wp2_with fail
  refine (in_decided H1b.out).mono ?_
  rintro e w2 ⟨v2, rfl, ho2, hB2⟩
  obtain ⟨a2, cap2, rfl, -⟩ := own_open ho2
  have hB := below_trans HB1.out hB2
  have h2c := H2.out.later hB
  have c2 := h2c.cell_some (i := 2) rfl
  have c3 := h2c.cell_some (i := 3) rfl
  have c4 := h2c.cell_some (i := 4) rfl
  have H1c := Lib.hid (H1b.out.later hB2); have HB := Lib.hid hB
  clear hB hB2 h2c ho2
  simp only [List.length_nil, List.map_nil] at *
  go_wp2_with fail
  refine region_class (C := fun w' => w'.cell? ⟨d, 2, none⟩ = some (.int .u64 0) ∧ w'.cell? ⟨d, 3, none⟩ = some (.slice none 0 0) ∧ w'.cell? ⟨d, 4, none⟩ = some (.slice none 0 0) ∧ Hid (In w' x S 0 ⟨a, b, 0, [], []⟩) ∧ Hid (Below w2.heap.size w2 w')) (by kernel_rfl) (by kernel_rfl) ⟨c2, c3, c4, Lib.hid (H1c.out.later (Below.refl _ _).drew), Lib.hid (Below.refl _ _).drew⟩ ?_
  repeat (first
    | go_big_quiet_skip
    | (go_big_quiet_want
       rename_i K hK
       apply Exists.intro
       refine ⟨fun w' hw' => ?_, hK _ ?_⟩
       obtain ⟨c2, c3, c4, r3, r4⟩ := hw'
       go_simp
       first
         | (go_at_call 25
            refine (in_epoch r3.out).mono ?_
            rintro e w5 ⟨rfl, rfl⟩
            exact ⟨rfl, c2, c3, c4, r3, r4⟩)
         | with_reducible rfl
       clear hK K
       simp only [Act.put, List.setIfInBounds_toArray, List.set_cons_zero, List.set_cons_succ]))
  refine wpQuiet_nil ?_
  rintro w5 ⟨c2, c3, c4, -, r4⟩
  have HB5 := Lib.hid (below_trans HB.out r4.out)
  clear r4
  go_wp2_with fail
  go_loopw [7] (fun i wr => i = .int .i64 0 ∧ ∃ q, wr = w5.drewN q) (fun i _ => 0)
  case atStart => exact ⟨rfl, 0, rfl⟩
  case round =>
    obtain ⟨rfl, q, rfl⟩ := hrel
    go_wp2_with fail
    go_loopw [8] (fun i wr => i = .int .i64 0 ∧ ∃ q, wr = w5.drewN q) (fun i _ => 0)
    case atStart => exact ⟨rfl, _, rfl⟩
    case round =>
      obtain ⟨rfl, q, rfl⟩ := hrel
      go_wp2_with fail
      go_ret
      exact ⟨rfl, below_drewN HB5.out _⟩
set_option maxHeartbeats 2000000 in
set_option maxRecDepth 100000 in
theorem imakes_in (a b : Int) (w : World) :
    Calls Try.prog 5 #[.int .i64 a, .int .i64 b] w fun e w' => e = .returned (.bool true) ∧ Below w.heap.size w w' := by
  by_cases hok : newOk a b
  · obtain ⟨a, rfl⟩ := Int.eq_ofNat_of_zero_le (show 0 ≤ a by have := hok.1; omega)
    obtain ⟨b, rfl⟩ := Int.eq_ofNat_of_zero_le (show 0 ≤ b by have := hok.2.2.1; omega)
    go_enter Try.func5, Try.ntmps5
    go_wp2_with fail
    refine (zboth_yes a b w hok).mono ?_
    rintro e w1 ⟨x, d, S, rfl, h1, h2, hB1⟩
    have H1 := Lib.hid h1; have H2 := Lib.hid h2; have HB1 := Lib.hid hB1
    clear h1 h2 hB1
    go_wp2_with fail
    refine (knows_any w1).mono ?_
    rintro e w2 ⟨rfl, hB2⟩
    have HB2 := Lib.hid hB2
    clear hB2
    go_wp2_with fail
    refine (zshows (H1.out.later HB2.out) (H2.out.later HB2.out)).mono ?_
    rintro e w3 ⟨rfl, hB3⟩
    have HB3 := Lib.hid hB3
    clear hB3
    go_wp2_with fail
    go_ret
    exact ⟨rfl, below_trans (below_trans HB1.out HB2.out) HB3.out⟩
  · go_enter Try.func5, Try.ntmps5
    go_wp2_with fail
    refine (zboth_no a b w hok).mono ?_
    rintro e w1 ⟨rfl, hw⟩
    rw [hw]
    clear hw w1
    go_wp2_with fail
    refine (knows_any w).mono ?_
    rintro e w2 ⟨rfl, hB2⟩
    have HB2 := Lib.hid hB2
    clear hB2
    go_wp2_with fail
    go_ret
    exact ⟨rfl, HB2.out⟩
theorem imakes_walk (W : World) (v0 : Int) (x0 : Int) (h0 : cInt.rep W [.int .i64 v0] x0) (v1 : Int) (x1 : Int) (h1 : cInt.rep W [.int .i64 v1] x1) :
    Calls Try.prog 5 #[.int .i64 v0, .int .i64 v1] W fun e w' => e = .returned (.bool true) ∧ Below W.heap.size W w' := imakes_in v0 v1 W
end Go.Proofs.Ytfaemjlemaclbaa
