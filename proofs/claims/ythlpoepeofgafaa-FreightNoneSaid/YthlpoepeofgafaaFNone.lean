/- A sender that nobody made (freight): FreightNone returns true. -/
import Derived.WalkKit
import Derived.WalkSpells
import Derived.WalkLawsBesides
import Derived.Lib.Hide
import Derived.KernelRfl
import Derived.Test.YthlpoepeofgafaaProg
import Derived.Test.YthlpoepeofgafaaClass
import Derived.Laws.ResultCell
namespace Go.Proofs.Ythlpoepeofgafaa
set_option linter.unusedVariables false
set_option linter.unusedSimpArgs false
open Go.RowKit
def Nobody (w : World) (p : Value) : Prop := p = .pointer none ∨ ∃ g, p = .pointer (some ⟨g, 0, none⟩) ∧ w.cell? ⟨g, 6, none⟩ = some (.int .u64 0)
theorem Nobody.below {w w' : World} {p : Value} (h : Nobody w p) (hB : Below w.heap.size w w') : Nobody w' p := by
  rcases h with rfl | ⟨g, rfl, hg⟩
  · exact Or.inl rfl
  · exact Or.inr ⟨g, rfl, below_cell hB hg (World.block_lt_of_cell? _ _ hg)⟩
set_option maxHeartbeats 1000000 in
set_option maxRecDepth 100000 in
theorem stop_none (p : Value) (w : World) (h : Nobody w p) (a b : Value) :
    Calls Try.prog 19 #[p, .agg #[a, b]] w fun e w' => e = .returned (.tuple #[.int .u64 0, .bool false]) ∧ Below w.heap.size w w' := by
  rcases h with rfl | ⟨g, rfl, hg⟩
  all_goals
    first | (have hl := World.block_lt_of_cell? _ _ hg; simp only at hl) | skip
    go_enter Try.func19, Try.ntmps19
    go_wp2
    go_ret2
    first
    | exact ⟨rfl, Below.refl _ _⟩
    | exact ⟨rfl, (Below.refl _ _).alloc (Nat.le_refl _) _⟩
    | exact ⟨rfl, ((Below.refl _ _).alloc (Nat.le_refl _) _).alloc (by simp) _⟩
    | exact ⟨rfl, ((Below.refl _ _).drew.alloc (Nat.le_refl _) _).alloc (by simp) _⟩
set_option maxHeartbeats 1000000 in
set_option maxRecDepth 100000 in
theorem wait_none (p : Value) (w : World) (h : Nobody w p) :
    Calls Try.prog 12 #[p] w fun e w' => e = .returned (.slice none 0 0) ∧ Below w.heap.size w w' := by
  rcases h with rfl | ⟨g, rfl, hg⟩
  all_goals
    first | (have hl := World.block_lt_of_cell? _ _ hg; simp only at hl) | skip
    go_enter Try.func12, Try.ntmps12
    go_wp2
    go_ret
    first
    | exact ⟨rfl, Below.refl _ _⟩
    | exact ⟨rfl, (Below.refl _ _).alloc (Nat.le_refl _) _⟩
    | exact ⟨rfl, ((Below.refl _ _).alloc (Nat.le_refl _) _).alloc (by simp) _⟩
    | exact ⟨rfl, ((Below.refl _ _).drew.alloc (Nat.le_refl _) _).alloc (by simp) _⟩
set_option maxHeartbeats 1000000 in
set_option maxRecDepth 100000 in
theorem busy_none (p : Value) (w : World) (h : Nobody w p) :
    Calls Try.prog 15 #[p] w fun e w' => e = .returned (.slice none 0 0) ∧ Below w.heap.size w w' := by
  rcases h with rfl | ⟨g, rfl, hg⟩
  all_goals
    first | (have hl := World.block_lt_of_cell? _ _ hg; simp only at hl) | skip
    go_enter Try.func15, Try.ntmps15
    go_wp2
    go_ret
    first
    | exact ⟨rfl, Below.refl _ _⟩
    | exact ⟨rfl, (Below.refl _ _).alloc (Nat.le_refl _) _⟩
    | exact ⟨rfl, ((Below.refl _ _).alloc (Nat.le_refl _) _).alloc (by simp) _⟩
    | exact ⟨rfl, ((Below.refl _ _).drew.alloc (Nat.le_refl _) _).alloc (by simp) _⟩
set_option maxHeartbeats 1000000 in
set_option maxRecDepth 100000 in
theorem tick_none (p : Value) (w : World) (h : Nobody w p) (n : Value) :
    Calls Try.prog 14 #[p, n] w fun e w' => e = .returned (.tuple #[.slice none 0 0, .slice none 0 0]) ∧ Below w.heap.size w w' := by
  rcases h with rfl | ⟨g, rfl, hg⟩
  all_goals
    first | (have hl := World.block_lt_of_cell? _ _ hg; simp only at hl) | skip
    go_enter Try.func14, Try.ntmps14
    go_wp2
    go_ret2
    first
    | exact ⟨rfl, Below.refl _ _⟩
    | exact ⟨rfl, (Below.refl _ _).alloc (Nat.le_refl _) _⟩
    | exact ⟨rfl, ((Below.refl _ _).alloc (Nat.le_refl _) _).alloc (by simp) _⟩
    | exact ⟨rfl, ((Below.refl _ _).drew.alloc (Nat.le_refl _) _).alloc (by simp) _⟩
set_option maxHeartbeats 1000000 in
set_option maxRecDepth 100000 in
theorem run_none (p : Value) (w : World) (h : Nobody w p) (x y : Nat) :
    Calls Try.prog 13 #[p, .int .u64 x, .int .u64 y] w fun e w' => e = .returned (.tuple #[.int .i64 0, .slice none 0 0]) ∧ Below w.heap.size w w' := by
  rcases h with rfl | ⟨g, rfl, hg⟩
  all_goals
    first | (have hl := World.block_lt_of_cell? _ _ hg; simp only at hl) | skip
    go_enter Try.func13, Try.ntmps13
    go_wp2
    go_ret2
    first
    | exact ⟨rfl, Below.refl _ _⟩
    | exact ⟨rfl, (Below.refl _ _).alloc (Nat.le_refl _) _⟩
    | exact ⟨rfl, ((Below.refl _ _).alloc (Nat.le_refl _) _).alloc (by simp) _⟩
    | exact ⟨rfl, ((Below.refl _ _).drew.alloc (Nat.le_refl _) _).alloc (by simp) _⟩
set_option maxHeartbeats 1000000 in
set_option maxRecDepth 100000 in
theorem queue_none (p : Value) (w : World) (h : Nobody w p) (a b c : Value) :
    Calls Try.prog 10 #[p, .agg #[a, b], c] w fun e w' => e = .returned (.int .i64 1) ∧ Below w.heap.size w w' := by
  rcases h with rfl | ⟨g, rfl, hg⟩
  all_goals
    first | (have hl := World.block_lt_of_cell? _ _ hg; simp only at hl) | skip
    go_enter Try.func10, Try.ntmps10
    go_wp2
    go_ret
    first
    | exact ⟨rfl, Below.refl _ _⟩
    | exact ⟨rfl, (Below.refl _ _).alloc (Nat.le_refl _) _⟩
    | exact ⟨rfl, ((Below.refl _ _).alloc (Nat.le_refl _) _).alloc (by simp) _⟩
    | exact ⟨rfl, ((Below.refl _ _).drew.alloc (Nat.le_refl _) _).alloc (by simp) _⟩
set_option maxHeartbeats 1000000 in
set_option maxRecDepth 100000 in
theorem none_any (p : Value) (w : World) (h : Nobody w p) :
    Calls Try.prog 26 #[p] w fun e w' => e = .returned (.bool true) ∧ w' = w := by
  rcases h with rfl | ⟨g, rfl, hg⟩
  all_goals
    first | (have hl := World.block_lt_of_cell? _ _ hg; simp only at hl) | skip
    go_enter Try.func26, Try.ntmps26
    go_wp2
    go_ret
    exact ⟨rfl, rfl⟩
set_option maxHeartbeats 1000000 in
set_option maxRecDepth 100000 in
theorem hear_none (p : Value) (w : World) (h : Nobody w p) (cs : Array Value) :
    Calls Try.prog 18 #[p, .agg cs] w fun e w' => e = .returned (.tuple #[.agg #[.int .i64 0, .int .u64 0, .int .i64 0], .bool false]) ∧ Below w.heap.size w w' := by
  go_enter Try.func18, Try.ntmps18
  go_wp2
  refine region_class (C := fun w' => Nobody w' p ∧ w'.heap[w.heap.size + 1]? = some (.cells #[Value.int IntKind.i64 0, Value.int IntKind.u64 0, Value.int IntKind.i64 0] 56) ∧ Below w.heap.size w w') (by kernel_rfl) (by kernel_rfl) ⟨(h.below ((Below.refl _ _).alloc (Nat.le_refl _) _)).below ((Below.refl _ _).alloc (Nat.le_refl _) _).drew, by simp [World.drew, World.alloc, Array.push], (((Below.refl _ _).alloc (Nat.le_refl _) _).alloc (by simp) _).drew⟩ ?_
  repeat (first
    | go_big_quiet_skip
    | (go_big_quiet_want
       rename_i K hK
       apply Exists.intro
       refine ⟨fun w' hw' => ?_, hK _ ?_⟩
       obtain ⟨r1, r2, r3⟩ := hw'
       go_simp
       first
         | (go_at_call 26
            refine (none_any p _ r1).mono ?_
            rintro e w1 ⟨rfl, rfl⟩
            exact ⟨rfl, r1, r2, r3⟩)
         | with_reducible rfl
       clear hK K
       simp only [Act.put, List.setIfInBounds_toArray, List.set_cons_zero, List.set_cons_succ]))
  refine wpQuiet_nil ?_
  rintro w5 ⟨r1, r2, r3⟩
  have c0 : w5.cell? ⟨w.heap.size + 1, 0, none⟩ = some (.int .i64 0) := by simp [World.cell?, r2]
  have c1 : w5.cell? ⟨w.heap.size + 1, 1, none⟩ = some (.int .u64 0) := by simp [World.cell?, r2]
  have c2 : w5.cell? ⟨w.heap.size + 1, 2, none⟩ = some (.int .i64 0) := by simp [World.cell?, r2]
  have f0 : w5.frozen? ⟨w.heap.size + 1, 0, none⟩ = false := by simp [World.frozen?, r2]
  have f1 : w5.frozen? ⟨w.heap.size + 1, 1, none⟩ = false := by simp [World.frozen?, r2]
  have f2 : w5.frozen? ⟨w.heap.size + 1, 2, none⟩ = false := by simp [World.frozen?, r2]
  go_wp2
  refine bodyPost_ret (v := .tuple #[.agg #[.int .i64 0, .int .u64 0, .int .i64 0], .bool false]) ?_ rfl ?_
  · rw [results_cell_tmp rfl]
    go_simp
  · exact ⟨rfl, ((r3.setCell (Nat.le_succ _) _).setCell (Nat.le_succ _) _).setCell (Nat.le_succ _) _⟩
set_option maxHeartbeats 4000000 in
set_option maxRecDepth 100000 in
theorem none_walk (w : World) :
    Calls Try.prog 4 #[] w fun e w' => e = .returned (.bool true) ∧ Below w.heap.size w w' := by
  go_enter Try.func4, Try.ntmps4
  go_wp2_with fail
  obtain ⟨z, hz⟩ : ∃ z, z = w.alloc (.cells #[.int .i64 0, .int .u64 0, .int .u64 0, .int .i64 0, .int .i64 0, .int .i64 0, .int .u64 0, .int .u64 0, .slice none 0 0, .slice none 0 0] 54) := ⟨_, rfl⟩
  have hN : Nobody z (.pointer (some ⟨w.heap.size, 0, none⟩)) := Or.inr ⟨_, rfl, by rw [hz, World.cell?_alloc_at (hn := by simp)]; rfl⟩
  have hB : Below w.heap.size w z := hz ▸ (Below.refl _ _).alloc (Nat.le_refl _) _
  rw [← hz]
  clear hz
  have n0 : ∀ x, Nobody x (.pointer none) := fun _ => Or.inl rfl
  refine (hear_none _ _ hN _).mono ?_
  rintro e w1 ⟨rfl, hB1⟩
  have hN1 := hN.below hB1
  have hB1' := below_trans hB hB1
  clear hB hN hB1
  obtain ⟨d, hd⟩ : ∃ d, d = w1.heap.size := ⟨_, rfl⟩
  go_wp2_with fail
  rw [← hd]
  obtain ⟨w2, hw2⟩ : ∃ w2, w2 = w1.alloc (.cells #[.int .i64 0, .int .u64 0, .int .i64 0] 56) := ⟨_, rfl⟩
  have c02 : w2.cell? ⟨d, 0, none⟩ = some (.int .i64 0) := by rw [hw2, World.cell?_alloc_at (hn := by simp [hd])]; rfl
  have c12 : w2.cell? ⟨d, 1, none⟩ = some (.int .u64 0) := by rw [hw2, World.cell?_alloc_at (hn := by simp [hd])]; rfl
  have c22 : w2.cell? ⟨d, 2, none⟩ = some (.int .i64 0) := by rw [hw2, World.cell?_alloc_at (hn := by simp [hd])]; rfl
  have hb : Below w1.heap.size w1 w2 := hw2 ▸ (Below.refl _ _).alloc (Nat.le_refl _) _
  have hN2 := hN1.below hb
  have hB2' := below_trans hB1' hb
  rw [← hw2]
  clear hw2 hd hb hN1 hB1'
  refine (stop_none _ _ (n0 _) _ _).mono ?_
  rintro e w3 ⟨rfl, hB3⟩
  have hN3 := hN2.below hB3
  have hB3' := below_trans hB2' hB3
  have c03 := below_cell hB3 c02 (World.block_lt_of_cell? _ _ c02)
  have c13 := below_cell hB3 c12 (World.block_lt_of_cell? _ _ c12)
  have c23 := below_cell hB3 c22 (World.block_lt_of_cell? _ _ c22)
  clear hB3 c02 c12 c22 hN2 hB2'
  go_wp2_with fail
  refine (run_none _ _ hN3 1 5).mono ?_
  rintro e w4 ⟨rfl, hB4⟩
  have hN4 := hN3.below hB4
  have hB4' := below_trans hB3' hB4
  have c04 := below_cell hB4 c03 (World.block_lt_of_cell? _ _ c03)
  have c14 := below_cell hB4 c13 (World.block_lt_of_cell? _ _ c13)
  have c24 := below_cell hB4 c23 (World.block_lt_of_cell? _ _ c23)
  clear hB4 c03 c13 c23 hN3 hB3'
  go_wp2_with fail
  refine (run_none _ _ (n0 _) 1 5).mono ?_
  rintro e w5 ⟨rfl, hB5⟩
  have hN5 := hN4.below hB5
  have hB5' := below_trans hB4' hB5
  have c05 := below_cell hB5 c04 (World.block_lt_of_cell? _ _ c04)
  have c15 := below_cell hB5 c14 (World.block_lt_of_cell? _ _ c14)
  have c25 := below_cell hB5 c24 (World.block_lt_of_cell? _ _ c24)
  clear hB5 c04 c14 c24 hN4 hB4'
  go_wp2_with fail
  refine (tick_none _ _ hN5 _).mono ?_
  rintro e w6 ⟨rfl, hB6⟩
  have hN6 := hN5.below hB6
  have hB6' := below_trans hB5' hB6
  have c06 := below_cell hB6 c05 (World.block_lt_of_cell? _ _ c05)
  have c16 := below_cell hB6 c15 (World.block_lt_of_cell? _ _ c15)
  have c26 := below_cell hB6 c25 (World.block_lt_of_cell? _ _ c25)
  clear hB6 c05 c15 c25 hN5 hB5'
  go_wp2_with fail
  refine (tick_none _ _ (n0 _) _).mono ?_
  rintro e w7 ⟨rfl, hB7⟩
  have hN7 := hN6.below hB7
  have hB7' := below_trans hB6' hB7
  have c07 := below_cell hB7 c06 (World.block_lt_of_cell? _ _ c06)
  have c17 := below_cell hB7 c16 (World.block_lt_of_cell? _ _ c16)
  have c27 := below_cell hB7 c26 (World.block_lt_of_cell? _ _ c26)
  clear hB7 c06 c16 c26 hN6 hB6'
  go_wp2_with fail
  obtain ⟨w8, hw8⟩ : ∃ w8, w8 = w7.alloc (.cells #[.int .u8 1] 5) := ⟨_, rfl⟩
  have hb : Below w7.heap.size w7 w8 := hw8 ▸ (Below.refl _ _).alloc (Nat.le_refl _) _
  have hN8 := hN7.below hb
  have hB8' := below_trans hB7' hb
  have c08 := below_cell hb c07 (World.block_lt_of_cell? _ _ c07)
  have c18 := below_cell hb c17 (World.block_lt_of_cell? _ _ c17)
  have c28 := below_cell hb c27 (World.block_lt_of_cell? _ _ c27)
  rw [← hw8]
  clear hw8 hb c07 c17 c27 hN7 hB7'
  refine (queue_none _ _ hN8 _ _ _).mono ?_
  rintro e w9 ⟨rfl, hB9⟩
  have hN9 := hN8.below hB9
  have hB9' := below_trans hB8' hB9
  have c09 := below_cell hB9 c08 (World.block_lt_of_cell? _ _ c08)
  have c19 := below_cell hB9 c18 (World.block_lt_of_cell? _ _ c18)
  have c29 := below_cell hB9 c28 (World.block_lt_of_cell? _ _ c28)
  clear hB9 c08 c18 c28 hN8 hB8'
  go_wp2_with fail
  obtain ⟨w10, hw10⟩ : ∃ w10, w10 = w9.alloc (.cells #[.int .u8 1] 5) := ⟨_, rfl⟩
  have hb : Below w9.heap.size w9 w10 := hw10 ▸ (Below.refl _ _).alloc (Nat.le_refl _) _
  have hN10 := hN9.below hb
  have hB10' := below_trans hB9' hb
  have c010 := below_cell hb c09 (World.block_lt_of_cell? _ _ c09)
  have c110 := below_cell hb c19 (World.block_lt_of_cell? _ _ c19)
  have c210 := below_cell hb c29 (World.block_lt_of_cell? _ _ c29)
  rw [← hw10]
  clear hw10 hb c09 c19 c29 hN9 hB9'
  refine (queue_none _ _ (n0 _) _ _ _).mono ?_
  rintro e w11 ⟨rfl, hB11⟩
  have hN11 := hN10.below hB11
  have hB11' := below_trans hB10' hB11
  have c011 := below_cell hB11 c010 (World.block_lt_of_cell? _ _ c010)
  have c111 := below_cell hB11 c110 (World.block_lt_of_cell? _ _ c110)
  have c211 := below_cell hB11 c210 (World.block_lt_of_cell? _ _ c210)
  clear hB11 c010 c110 c210 hN10 hB10'
  go_wp2_with fail
  refine (wait_none _ _ hN11).mono ?_
  rintro e w12 ⟨rfl, hB12⟩
  have hN12 := hN11.below hB12
  have hB12' := below_trans hB11' hB12
  have c012 := below_cell hB12 c011 (World.block_lt_of_cell? _ _ c011)
  have c112 := below_cell hB12 c111 (World.block_lt_of_cell? _ _ c111)
  have c212 := below_cell hB12 c211 (World.block_lt_of_cell? _ _ c211)
  clear hB12 c011 c111 c211 hN11 hB11'
  go_wp2_with fail
  refine (wait_none _ _ (n0 _)).mono ?_
  rintro e w13 ⟨rfl, hB13⟩
  have hN13 := hN12.below hB13
  have hB13' := below_trans hB12' hB13
  have c013 := below_cell hB13 c012 (World.block_lt_of_cell? _ _ c012)
  have c113 := below_cell hB13 c112 (World.block_lt_of_cell? _ _ c112)
  have c213 := below_cell hB13 c212 (World.block_lt_of_cell? _ _ c212)
  clear hB13 c012 c112 c212 hN12 hB12'
  go_wp2_with fail
  refine (busy_none _ _ hN13).mono ?_
  rintro e w14 ⟨rfl, hB14⟩
  have hN14 := hN13.below hB14
  have hB14' := below_trans hB13' hB14
  have c014 := below_cell hB14 c013 (World.block_lt_of_cell? _ _ c013)
  have c114 := below_cell hB14 c113 (World.block_lt_of_cell? _ _ c113)
  have c214 := below_cell hB14 c213 (World.block_lt_of_cell? _ _ c213)
  clear hB14 c013 c113 c213 hN13 hB13'
  go_wp2_with fail
  refine (busy_none _ _ (n0 _)).mono ?_
  rintro e w15 ⟨rfl, hB15⟩
  have hN15 := hN14.below hB15
  have hB15' := below_trans hB14' hB15
  have c015 := below_cell hB15 c014 (World.block_lt_of_cell? _ _ c014)
  have c115 := below_cell hB15 c114 (World.block_lt_of_cell? _ _ c114)
  have c215 := below_cell hB15 c214 (World.block_lt_of_cell? _ _ c214)
  clear hB15 c014 c114 c214 hN14 hB14'
  go_wp2_with fail
  go_ret
  exact ⟨rfl, hB15'⟩
end Go.Proofs.Ythlpoepeofgafaa
