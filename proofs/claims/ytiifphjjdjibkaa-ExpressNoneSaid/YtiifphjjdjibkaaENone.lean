/- A sender that nobody made (express): ExpressNone returns true. -/
import Derived.WalkKit
import Derived.WalkSpells
import Derived.WalkLawsBesides
import Derived.Lib.Hide
import Derived.KernelRfl
import Derived.Test.YtiifphjjdjibkaaProg
import Derived.Test.YtiifphjjdjibkaaClass
import Derived.Laws.ResultCell
namespace Go.Proofs.Ytiifphjjdjibkaa
set_option linter.unusedVariables false
set_option linter.unusedSimpArgs false
open Go.RowKit
def Nobody (w : World) (p : Value) : Prop := p = .pointer none ∨ ∃ g, p = .pointer (some ⟨g, 0, none⟩) ∧ w.cell? ⟨g, 8, none⟩ = some (.pointer none)
theorem Nobody.below {w w' : World} {p : Value} (h : Nobody w p) (hB : Below w.heap.size w w') : Nobody w' p := by
  rcases h with rfl | ⟨g, rfl, hg⟩
  · exact Or.inl rfl
  · exact Or.inr ⟨g, rfl, below_cell hB hg (World.block_lt_of_cell? _ _ hg)⟩
set_option maxHeartbeats 1000000 in
set_option maxRecDepth 100000 in
theorem busy_none (p : Value) (w : World) (h : Nobody w p) :
    Calls Try.prog 11 #[p] w fun e w' => e = .returned (.slice none 0 0) ∧ Below w.heap.size w w' := by
  rcases h with rfl | ⟨g, rfl, hg⟩
  all_goals
    first | (have hl := World.block_lt_of_cell? _ _ hg; simp only at hl; have hl1 : g < w.heap.size + 1 := Nat.lt_succ_of_lt hl; have hl2 : g < w.heap.size + 1 + 1 := Nat.lt_succ_of_lt hl1) | skip
    go_enter Try.func11, Try.ntmps11
    go_wp2
    go_ret
    first
    | exact ⟨rfl, Below.refl _ _⟩
    | exact ⟨rfl, (Below.refl _ _).alloc (Nat.le_refl _) _⟩
    | exact ⟨rfl, ((Below.refl _ _).alloc (Nat.le_refl _) _).alloc (by simp) _⟩
    | exact ⟨rfl, (((Below.refl _ _).alloc (Nat.le_refl _) _).alloc (by simp) _).alloc (by simp; omega) _⟩
set_option maxHeartbeats 1000000 in
set_option maxRecDepth 100000 in
theorem tick_none (p : Value) (w : World) (h : Nobody w p) (n : Value) :
    Calls Try.prog 12 #[p, n] w fun e w' => e = .returned (.slice none 0 0) ∧ Below w.heap.size w w' := by
  rcases h with rfl | ⟨g, rfl, hg⟩
  all_goals
    first | (have hl := World.block_lt_of_cell? _ _ hg; simp only at hl; have hl1 : g < w.heap.size + 1 := Nat.lt_succ_of_lt hl; have hl2 : g < w.heap.size + 1 + 1 := Nat.lt_succ_of_lt hl1) | skip
    go_enter Try.func12, Try.ntmps12
    go_wp2
    go_ret
    first
    | exact ⟨rfl, Below.refl _ _⟩
    | exact ⟨rfl, (Below.refl _ _).alloc (Nat.le_refl _) _⟩
    | exact ⟨rfl, ((Below.refl _ _).alloc (Nat.le_refl _) _).alloc (by simp) _⟩
    | exact ⟨rfl, (((Below.refl _ _).alloc (Nat.le_refl _) _).alloc (by simp) _).alloc (by simp; omega) _⟩
set_option maxHeartbeats 1000000 in
set_option maxRecDepth 100000 in
theorem begin_none (p : Value) (w : World) (h : Nobody w p) (x : Nat) (a b c d : Value) :
    Calls Try.prog 8 #[p, .int .u64 x, .agg #[a, b], c, d] w fun e w' => e = .returned (.tuple #[.slice none 0 0, .int .i64 1]) ∧ Below w.heap.size w w' := by
  rcases h with rfl | ⟨g, rfl, hg⟩
  all_goals
    first | (have hl := World.block_lt_of_cell? _ _ hg; simp only at hl; have hl1 : g < w.heap.size + 1 := Nat.lt_succ_of_lt hl; have hl2 : g < w.heap.size + 1 + 1 := Nat.lt_succ_of_lt hl1) | skip
    go_enter Try.func8, Try.ntmps8
    go_wp2
    go_ret2
    first
    | exact ⟨rfl, Below.refl _ _⟩
    | exact ⟨rfl, (Below.refl _ _).alloc (Nat.le_refl _) _⟩
    | exact ⟨rfl, ((Below.refl _ _).alloc (Nat.le_refl _) _).alloc (by simp) _⟩
    | exact ⟨rfl, (((Below.refl _ _).alloc (Nat.le_refl _) _).alloc (by simp) _).alloc (by simp; omega) _⟩
set_option maxHeartbeats 1000000 in
set_option maxRecDepth 100000 in
theorem none_any (p : Value) (w : World) (h : Nobody w p) :
    Calls Try.prog 20 #[p] w fun e w' => e = .returned (.bool true) ∧ w' = w := by
  rcases h with rfl | ⟨g, rfl, hg⟩
  all_goals
    go_enter Try.func20, Try.ntmps20
    go_wp2
    go_ret
    exact ⟨rfl, rfl⟩
set_option maxHeartbeats 1000000 in
set_option maxRecDepth 100000 in
theorem stop_none (p : Value) (w : World) (h : Nobody w p) (a b : Value) :
    Calls Try.prog 16 #[p, .agg #[a, b]] w fun e w' => e = .returned (.tuple #[.int .u64 0, .bool false]) ∧ Below w.heap.size w w' := by
  go_enter Try.func16, Try.ntmps16
  go_wp2
  refine region_class (C := fun w' => Nobody w' p ∧ Below w.heap.size w w') (by kernel_rfl) (by kernel_rfl) ⟨h.below ((Below.refl _ _).alloc (Nat.le_refl _) _).drew, ((Below.refl _ _).alloc (Nat.le_refl _) _).drew⟩ ?_
  repeat (first
    | go_big_quiet_skip
    | (go_big_quiet_want
       rename_i K hK
       apply Exists.intro
       refine ⟨fun w' hw' => ?_, hK _ ?_⟩
       obtain ⟨r1, r3⟩ := hw'
       go_simp
       first
         | (go_at_call 20
            refine (none_any p _ r1).mono ?_
            rintro e w1 ⟨rfl, rfl⟩
            exact ⟨rfl, r1, r3⟩)
         | with_reducible rfl
       clear hK K
       simp only [Act.put, List.setIfInBounds_toArray, List.set_cons_zero, List.set_cons_succ]))
  refine wpQuiet_nil ?_
  rintro w5 ⟨r1, r3⟩
  go_wp2
  go_ret2
  exact ⟨rfl, r3⟩
set_option maxHeartbeats 1000000 in
set_option maxRecDepth 100000 in
theorem hear_none (p : Value) (w : World) (h : Nobody w p) (cs : Array Value) :
    Calls Try.prog 15 #[p, .agg cs] w fun e w' => e = .returned (.tuple #[.agg #[.int .i64 0, .int .u64 0, .int .i64 0], .bool false]) ∧ Below w.heap.size w w' := by
  go_enter Try.func15, Try.ntmps15
  go_wp2
  refine region_class (C := fun w' => Nobody w' p ∧ w'.heap[w.heap.size + 1]? = some (.cells #[Value.int IntKind.i64 0, Value.int IntKind.u64 0, Value.int IntKind.i64 0] 56) ∧ Below w.heap.size w w') (by kernel_rfl) (by kernel_rfl) ⟨(h.below ((Below.refl _ _).alloc (Nat.le_refl _) _)).below ((Below.refl _ _).alloc (Nat.le_refl _) _).drew, by simp [World.drew, World.alloc, Array.push], (((Below.refl _ _).alloc (Nat.le_refl _) _).alloc (by simp) _).drew⟩ ?_
  repeat (first
    | go_big_quiet_skip
    | (go_big_quiet_want
       rename_i K hK
       apply Exists.intro
       refine ⟨fun w' hw' => ?_, hK _ ?_⟩
       obtain ⟨r1, r2, r3⟩ := hw'
       go_simp
       first
         | (go_at_call 20
            refine (none_any p _ r1).mono ?_
            rintro e w1 ⟨rfl, rfl⟩
            exact ⟨rfl, r1, r2, r3⟩)
         | with_reducible rfl
       clear hK K
       simp only [Act.put, List.setIfInBounds_toArray, List.set_cons_zero, List.set_cons_succ]))
  refine wpQuiet_nil ?_
  rintro w5 ⟨r1, r2, r3⟩
  have c0 : w5.cell? ⟨w.heap.size + 1, 0, none⟩ = some (.int .i64 0) := by simp [World.cell?, r2]
  have c1 : w5.cell? ⟨w.heap.size + 1, 1, none⟩ = some (.int .u64 0) := by simp [World.cell?, r2]
  have c2 : w5.cell? ⟨w.heap.size + 1, 2, none⟩ = some (.int .i64 0) := by simp [World.cell?, r2]
  have f0 : w5.frozen? ⟨w.heap.size + 1, 0, none⟩ = false := by simp [World.frozen?, r2]
  have f1 : w5.frozen? ⟨w.heap.size + 1, 1, none⟩ = false := by simp [World.frozen?, r2]
  have f2 : w5.frozen? ⟨w.heap.size + 1, 2, none⟩ = false := by simp [World.frozen?, r2]
  go_wp2
  refine bodyPost_ret (v := .tuple #[.agg #[.int .i64 0, .int .u64 0, .int .i64 0], .bool false]) ?_ rfl ?_
  · rw [results_cell_tmp rfl]
    go_simp
  · exact ⟨rfl, ((r3.setCell (Nat.le_succ _) _).setCell (Nat.le_succ _) _).setCell (Nat.le_succ _) _⟩
set_option maxHeartbeats 4000000 in
set_option maxRecDepth 100000 in
theorem none_walk (w : World) :
    Calls Try.prog 4 #[] w fun e w' => e = .returned (.bool true) ∧ Below w.heap.size w w' := by
  go_enter Try.func4, Try.ntmps4
  go_wp2_with fail
  have n0 : ∀ x, Nobody x (.pointer none) := fun _ => Or.inl rfl
  obtain ⟨w0, hw0⟩ : ∃ w0, w0 = w.alloc (.cells #[.int .i64 0, .int .u64 0, .int .u64 0, .int .i64 0, .int .i64 0, .int .i64 0, .int .u64 0, .int .u64 0, .pointer none, .map none, .map none, .int .i64 0] 54) := ⟨_, rfl⟩
  have hN0 : Nobody w0 (.pointer (some ⟨w.heap.size, 0, none⟩)) := Or.inr ⟨_, rfl, by rw [hw0, World.cell?_alloc_at (hn := by simp)]; rfl⟩
  have hB0' : Below w.heap.size w w0 := hw0 ▸ (Below.refl _ _).alloc (Nat.le_refl _) _
  rw [← hw0]
  clear hw0
  obtain ⟨w1, hw1⟩ : ∃ w1, w1 = w0.alloc (.cells #[.int .u8 1] 5) := ⟨_, rfl⟩
  have hb : Below w0.heap.size w0 w1 := hw1 ▸ (Below.refl _ _).alloc (Nat.le_refl _) _
  have hN1 := hN0.below hb
  have hB1' := below_trans hB0' hb
  rw [← hw1]
  clear hw1 hb hN0 hB0'
  refine (begin_none _ _ hN1 1 _ _ _ _).mono ?_
  rintro e w2 ⟨rfl, hB2⟩
  have hN2 := hN1.below hB2
  have hB2' := below_trans hB1' hB2
  clear hB2 hN1 hB1'
  go_wp2_with fail
  obtain ⟨w3, hw3⟩ : ∃ w3, w3 = w2.alloc (.cells #[.int .u8 1] 5) := ⟨_, rfl⟩
  have hb : Below w2.heap.size w2 w3 := hw3 ▸ (Below.refl _ _).alloc (Nat.le_refl _) _
  have hN3 := hN2.below hb
  have hB3' := below_trans hB2' hb
  rw [← hw3]
  clear hw3 hb hN2 hB2'
  refine (begin_none _ _ (n0 _) 1 _ _ _ _).mono ?_
  rintro e w4 ⟨rfl, hB4⟩
  have hN4 := hN3.below hB4
  have hB4' := below_trans hB3' hB4
  clear hB4 hN3 hB3'
  go_wp2_with fail
  refine (hear_none _ _ hN4 _).mono ?_
  rintro e w5 ⟨rfl, hB5⟩
  have hN5 := hN4.below hB5
  have hB5' := below_trans hB4' hB5
  clear hB5 hN4 hB4'
  obtain ⟨d, hd⟩ : ∃ d, d = w5.heap.size := ⟨_, rfl⟩
  go_wp2_with fail
  rw [← hd]
  obtain ⟨w6, hw6⟩ : ∃ w6, w6 = w5.alloc (.cells #[.int .i64 0, .int .u64 0, .int .i64 0] 56) := ⟨_, rfl⟩
  have c06 : w6.cell? ⟨d, 0, none⟩ = some (.int .i64 0) := by rw [hw6, World.cell?_alloc_at (hn := by simp [hd])]; rfl
  have c16 : w6.cell? ⟨d, 1, none⟩ = some (.int .u64 0) := by rw [hw6, World.cell?_alloc_at (hn := by simp [hd])]; rfl
  have c26 : w6.cell? ⟨d, 2, none⟩ = some (.int .i64 0) := by rw [hw6, World.cell?_alloc_at (hn := by simp [hd])]; rfl
  have hb : Below w5.heap.size w5 w6 := hw6 ▸ (Below.refl _ _).alloc (Nat.le_refl _) _
  have hN6 := hN5.below hb
  have hB6' := below_trans hB5' hb
  rw [← hw6]
  clear hw6 hd hb hN5 hB5'
  refine (stop_none _ _ (n0 _) _ _).mono ?_
  rintro e w7 ⟨rfl, hB7⟩
  have hN7 := hN6.below hB7
  have hB7' := below_trans hB6' hB7
  have c07 := below_cell hB7 c06 (World.block_lt_of_cell? _ _ c06)
  have c17 := below_cell hB7 c16 (World.block_lt_of_cell? _ _ c16)
  have c27 := below_cell hB7 c26 (World.block_lt_of_cell? _ _ c26)
  clear c06 c16 c26
  clear hB7 hN6 hB6'
  go_wp2_with fail
  refine (tick_none _ _ hN7 _).mono ?_
  rintro e w8 ⟨rfl, hB8⟩
  have hN8 := hN7.below hB8
  have hB8' := below_trans hB7' hB8
  have c08 := below_cell hB8 c07 (World.block_lt_of_cell? _ _ c07)
  have c18 := below_cell hB8 c17 (World.block_lt_of_cell? _ _ c17)
  have c28 := below_cell hB8 c27 (World.block_lt_of_cell? _ _ c27)
  clear c07 c17 c27
  clear hB8 hN7 hB7'
  go_wp2_with fail
  refine (tick_none _ _ (n0 _) _).mono ?_
  rintro e w9 ⟨rfl, hB9⟩
  have hN9 := hN8.below hB9
  have hB9' := below_trans hB8' hB9
  have c09 := below_cell hB9 c08 (World.block_lt_of_cell? _ _ c08)
  have c19 := below_cell hB9 c18 (World.block_lt_of_cell? _ _ c18)
  have c29 := below_cell hB9 c28 (World.block_lt_of_cell? _ _ c28)
  clear c08 c18 c28
  clear hB9 hN8 hB8'
  go_wp2_with fail
  refine (busy_none _ _ hN9).mono ?_
  rintro e w10 ⟨rfl, hB10⟩
  have hN10 := hN9.below hB10
  have hB10' := below_trans hB9' hB10
  have c010 := below_cell hB10 c09 (World.block_lt_of_cell? _ _ c09)
  have c110 := below_cell hB10 c19 (World.block_lt_of_cell? _ _ c19)
  have c210 := below_cell hB10 c29 (World.block_lt_of_cell? _ _ c29)
  clear c09 c19 c29
  clear hB10 hN9 hB9'
  go_wp2_with fail
  refine (busy_none _ _ (n0 _)).mono ?_
  rintro e w11 ⟨rfl, hB11⟩
  have hN11 := hN10.below hB11
  have hB11' := below_trans hB10' hB11
  have c011 := below_cell hB11 c010 (World.block_lt_of_cell? _ _ c010)
  have c111 := below_cell hB11 c110 (World.block_lt_of_cell? _ _ c110)
  have c211 := below_cell hB11 c210 (World.block_lt_of_cell? _ _ c210)
  clear c010 c110 c210
  clear hB11 hN10 hB10'
  go_wp2_with fail
  go_ret
  exact ⟨rfl, hB11'⟩
end Go.Proofs.Ytiifphjjdjibkaa
