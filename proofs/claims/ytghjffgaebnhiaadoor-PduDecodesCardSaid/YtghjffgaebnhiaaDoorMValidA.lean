/- pdu.Valid at any unit. -/
import Derived.Test.YtghjffgaebnhiaaDoorMValidR
namespace Go.Proofs.YtghjffgaebnhiaaDoor
set_option linter.unusedVariables false
set_option linter.unusedSimpArgs false
open Go.RowKit
def validU (u : UD) : Prop := named u.ep ∧ named u.ses ∧ (u.kind = 1 ∧ goodD u ∨ u.kind = 2 ∧ goodR u ∨ u.kind = 3 ∧ goodC u)
instance (u : UD) : Decidable (validU u) := inferInstanceAs (Decidable (_ ∧ _))
theorem forms_at2 (W : World) : (Instr.index 104 (.agg #[.nilFunc, .nilFunc, .nilFunc, .func (.func 71) #[] #[], .func (.func 72) #[] #[], .func (.func 73) #[] #[], .func (.func 74) #[] #[], .func (.func 75) #[] #[], .func (.func 76) #[] #[], .func (.func 77) #[] #[], .func (.func 78) #[] #[], .func (.func 79) #[] #[]]) (.int .i64 2)).run Tryd.prog W =
    .ok (.agg #[.func (.func 74) #[] #[], .func (.func 75) #[] #[], .func (.func 76) #[] #[]]) W := by
  kernel_rfl
set_option maxHeartbeats 400000 in
set_option maxRecDepth 100000 in
theorem forms_2 (w : World) : Calls Tryd.prog 39 #[.int .i64 2] w fun e w' => e = .returned (.agg #[.func (.func 74) #[] #[], .func (.func 75) #[] #[], .func (.func 76) #[] #[]]) ∧ Below w.heap.size w w' := by
  have hx := forms_at2
  go_enter Tryd.func39, Tryd.ntmps39
  go_wp2
  refine bodyPost_ret (v := .agg #[.func (.func 74) #[] #[], .func (.func 75) #[] #[], .func (.func 76) #[] #[]]) (results_cell_row rfl _ _ w.heap.size _ _ _ _ rfl (heap_alloc_new _ _) Tryd.underlying69 rfl (by kernel_rfl)) rfl ?_
  exact ⟨rfl, (Below.refl _ _).alloc (Nat.le_refl _) _⟩
theorem forms_at3 (W : World) : (Instr.index 104 (.agg #[.nilFunc, .nilFunc, .nilFunc, .func (.func 71) #[] #[], .func (.func 72) #[] #[], .func (.func 73) #[] #[], .func (.func 74) #[] #[], .func (.func 75) #[] #[], .func (.func 76) #[] #[], .func (.func 77) #[] #[], .func (.func 78) #[] #[], .func (.func 79) #[] #[]]) (.int .i64 3)).run Tryd.prog W =
    .ok (.agg #[.func (.func 77) #[] #[], .func (.func 78) #[] #[], .func (.func 79) #[] #[]]) W := by
  kernel_rfl
set_option maxHeartbeats 400000 in
set_option maxRecDepth 100000 in
theorem forms_3 (w : World) : Calls Tryd.prog 39 #[.int .i64 3] w fun e w' => e = .returned (.agg #[.func (.func 77) #[] #[], .func (.func 78) #[] #[], .func (.func 79) #[] #[]]) ∧ Below w.heap.size w w' := by
  have hx := forms_at3
  go_enter Tryd.func39, Tryd.ntmps39
  go_wp2
  refine bodyPost_ret (v := .agg #[.func (.func 77) #[] #[], .func (.func 78) #[] #[], .func (.func 79) #[] #[]]) (results_cell_row rfl _ _ w.heap.size _ _ _ _ rfl (heap_alloc_new _ _) Tryd.underlying69 rfl (by kernel_rfl)) rfl ?_
  exact ⟨rfl, (Below.refl _ _).alloc (Nat.le_refl _) _⟩
theorem forms_1 (w : World) : Calls Tryd.prog 39 #[.int .i64 1] w fun e w' => e = .returned (.agg #[.func (.func 71) #[] #[], .func (.func 72) #[] #[], .func (.func 73) #[] #[]]) ∧ Below w.heap.size w w' := forms_data w
set_option maxHeartbeats 1000000 in
set_option maxRecDepth 100000 in
theorem valid_1 (u : UD) (dp gp : Option Addr) (dc gc : Nat) (w : World) (hk : u.kind = 1) (G : Bool)
    (hgood : ∀ W, Below w.heap.size w W → Calls Tryd.prog 71 #[uv u (.slice dp u.data.length dc) (.slice gp u.got.length gc)] W fun e w' => e = .returned (.bool G) ∧ Below W.heap.size W w') :
    Calls Tryd.prog 10 #[uv u (.slice dp u.data.length dc) (.slice gp u.got.length gc)] w fun e w' => e = .returned (.int .i64 (if (decide (named u.ep) && decide (named u.ses) && G) = true then 0 else 30)) ∧ Below w.heap.size w w' := by
  have hn1 := fun W => named_any u.ep W
  have hn2 := fun W => named_any u.ses W
  obtain ⟨N1, hN1⟩ : ∃ N1, N1 = decide (named u.ep) := ⟨_, rfl⟩
  obtain ⟨N2, hN2⟩ : ∃ N2, N2 = decide (named u.ses) := ⟨_, rfl⟩
  rw [← hN1, ← hN2]
  rw [← hN1] at hn1
  rw [← hN2] at hn2
  clear hN1 hN2
  obtain ⟨kind, ep, ses, path, idx, cnt, data, code, got⟩ := u
  subst hk
  unfold uv at hgood ⊢
  simp only at hgood hn1 hn2 ⊢
  obtain ⟨n, hn⟩ : ∃ n, n = data.length := ⟨_, rfl⟩
  obtain ⟨k, hk⟩ : ∃ k, k = got.length := ⟨_, rfl⟩
  obtain ⟨e1, he1⟩ : ∃ e1, e1 = ep.toNat := ⟨_, rfl⟩
  obtain ⟨e2, he2⟩ : ∃ e2, e2 = ses.toNat := ⟨_, rfl⟩
  rw [← hn, ← hk, ← he1, ← he2] at hgood ⊢
  rw [← he1] at hn1
  rw [← he2] at hn2
  clear hn hk he1 he2
  have hfld : ∀ W, (Instr.field 69 (.agg #[.func (.func 71) #[] #[], .func (.func 72) #[] #[], .func (.func 73) #[] #[]]) 0).run Tryd.prog W = .ok (.func (.func 71) #[] #[]) W := fun W => by kernel_rfl
  cases N1 <;> cases N2 <;> cases G
  all_goals
    go_enter Tryd.func10, Tryd.ntmps10
    go_wp2_with fail
    have hb := Blk.new w 26 [.int .i64 1, .int .u64 (e1 : Int), .int .u64 (e2 : Int), .int .i64 path, .int .i64 idx, .int .i64 cnt, .slice dp n dc, .int .i64 code, .slice gp k gc]
    have hB : Below w.heap.size w (w.alloc (.cells (List.toArray [.int .i64 1, .int .u64 (e1 : Int), .int .u64 (e2 : Int), .int .i64 path, .int .i64 idx, .int .i64 cnt, .slice dp n dc, .int .i64 code, .slice gp k gc]) 26)) := (Below.refl _ _).alloc (Nat.le_refl _) _
    refine region_class (C := fun w' => Blk w' w.heap.size 26 [.int .i64 1, .int .u64 (e1 : Int), .int .u64 (e2 : Int), .int .i64 path, .int .i64 idx, .int .i64 cnt, .slice dp n dc, .int .i64 code, .slice gp k gc] ∧ Below w.heap.size w w') (by kernel_rfl) (by kernel_rfl) ⟨hb.drew, hB.drew⟩ ?_
    clear hb hB
    repeat
      (first
       | go_big_quiet_skip
       | (go_big_quiet_want
          rename_i K hK
          apply Exists.intro
          refine ⟨fun w' hw' => ?_, hK _ ?_⟩
          · obtain ⟨b1, b2⟩ := hw'
            have z0 := b1.cell_some (i := 0) rfl
            have z1 := b1.cell_some (i := 1) rfl
            have z2 := b1.cell_some (i := 2) rfl
            have z3 := b1.cell_some (i := 3) rfl
            have z4 := b1.cell_some (i := 4) rfl
            have z5 := b1.cell_some (i := 5) rfl
            have z6 := b1.cell_some (i := 6) rfl
            have z7 := b1.cell_some (i := 7) rfl
            have z8 := b1.cell_some (i := 8) rfl
            go_simp
            first
            | (go_at_call 37
               refine (kind_any _ _).mono ?_
               rintro e w1 ⟨rfl, rfl⟩
               exact ⟨rfl, b1, b2⟩)
            | (go_at_call 38
               with_reducible refine (hn1 _).mono ?_
               rintro e w1 ⟨rfl, rfl⟩
               exact ⟨rfl, b1, b2⟩)
            | (go_at_call 38
               refine (hn2 _).mono ?_
               rintro e w1 ⟨rfl, rfl⟩
               exact ⟨rfl, b1, b2⟩)
            | (go_at_call 39
               refine (forms_1 _).mono ?_
               rintro e w1 ⟨rfl, hB1⟩
               exact ⟨rfl, b1.later hB1, below_trans b2 hB1⟩)
            | (go_at_call 71
               refine (hgood _ b2).mono ?_
               rintro e w1 ⟨rfl, hB1⟩
               exact ⟨rfl, b1.later hB1, below_trans b2 hB1⟩)
            | with_reducible rfl
          clear hK K
          simp only [Act.put, List.setIfInBounds_toArray, List.set_cons_zero, List.set_cons_succ]))
    refine wpQuiet_nil ?_
    rintro w5 ⟨b1, b2⟩
    go_wp2
    go_ret
    exact ⟨rfl, b2⟩
set_option maxHeartbeats 1000000 in
set_option maxRecDepth 100000 in
theorem valid_2 (u : UD) (dp gp : Option Addr) (dc gc : Nat) (w : World) (hk : u.kind = 2) (G : Bool)
    (hgood : ∀ W, Below w.heap.size w W → Calls Tryd.prog 74 #[uv u (.slice dp u.data.length dc) (.slice gp u.got.length gc)] W fun e w' => e = .returned (.bool G) ∧ Below W.heap.size W w') :
    Calls Tryd.prog 10 #[uv u (.slice dp u.data.length dc) (.slice gp u.got.length gc)] w fun e w' => e = .returned (.int .i64 (if (decide (named u.ep) && decide (named u.ses) && G) = true then 0 else 30)) ∧ Below w.heap.size w w' := by
  have hn1 := fun W => named_any u.ep W
  have hn2 := fun W => named_any u.ses W
  obtain ⟨N1, hN1⟩ : ∃ N1, N1 = decide (named u.ep) := ⟨_, rfl⟩
  obtain ⟨N2, hN2⟩ : ∃ N2, N2 = decide (named u.ses) := ⟨_, rfl⟩
  rw [← hN1, ← hN2]
  rw [← hN1] at hn1
  rw [← hN2] at hn2
  clear hN1 hN2
  obtain ⟨kind, ep, ses, path, idx, cnt, data, code, got⟩ := u
  subst hk
  unfold uv at hgood ⊢
  simp only at hgood hn1 hn2 ⊢
  obtain ⟨n, hn⟩ : ∃ n, n = data.length := ⟨_, rfl⟩
  obtain ⟨k, hk⟩ : ∃ k, k = got.length := ⟨_, rfl⟩
  obtain ⟨e1, he1⟩ : ∃ e1, e1 = ep.toNat := ⟨_, rfl⟩
  obtain ⟨e2, he2⟩ : ∃ e2, e2 = ses.toNat := ⟨_, rfl⟩
  rw [← hn, ← hk, ← he1, ← he2] at hgood ⊢
  rw [← he1] at hn1
  rw [← he2] at hn2
  clear hn hk he1 he2
  have hfld : ∀ W, (Instr.field 69 (.agg #[.func (.func 74) #[] #[], .func (.func 75) #[] #[], .func (.func 76) #[] #[]]) 0).run Tryd.prog W = .ok (.func (.func 74) #[] #[]) W := fun W => by kernel_rfl
  cases N1 <;> cases N2 <;> cases G
  all_goals
    go_enter Tryd.func10, Tryd.ntmps10
    go_wp2_with fail
    have hb := Blk.new w 26 [.int .i64 2, .int .u64 (e1 : Int), .int .u64 (e2 : Int), .int .i64 path, .int .i64 idx, .int .i64 cnt, .slice dp n dc, .int .i64 code, .slice gp k gc]
    have hB : Below w.heap.size w (w.alloc (.cells (List.toArray [.int .i64 2, .int .u64 (e1 : Int), .int .u64 (e2 : Int), .int .i64 path, .int .i64 idx, .int .i64 cnt, .slice dp n dc, .int .i64 code, .slice gp k gc]) 26)) := (Below.refl _ _).alloc (Nat.le_refl _) _
    refine region_class (C := fun w' => Blk w' w.heap.size 26 [.int .i64 2, .int .u64 (e1 : Int), .int .u64 (e2 : Int), .int .i64 path, .int .i64 idx, .int .i64 cnt, .slice dp n dc, .int .i64 code, .slice gp k gc] ∧ Below w.heap.size w w') (by kernel_rfl) (by kernel_rfl) ⟨hb.drew, hB.drew⟩ ?_
    clear hb hB
    repeat
      (first
       | go_big_quiet_skip
       | (go_big_quiet_want
          rename_i K hK
          apply Exists.intro
          refine ⟨fun w' hw' => ?_, hK _ ?_⟩
          · obtain ⟨b1, b2⟩ := hw'
            have z0 := b1.cell_some (i := 0) rfl
            have z1 := b1.cell_some (i := 1) rfl
            have z2 := b1.cell_some (i := 2) rfl
            have z3 := b1.cell_some (i := 3) rfl
            have z4 := b1.cell_some (i := 4) rfl
            have z5 := b1.cell_some (i := 5) rfl
            have z6 := b1.cell_some (i := 6) rfl
            have z7 := b1.cell_some (i := 7) rfl
            have z8 := b1.cell_some (i := 8) rfl
            go_simp
            first
            | (go_at_call 37
               refine (kind_any _ _).mono ?_
               rintro e w1 ⟨rfl, rfl⟩
               exact ⟨rfl, b1, b2⟩)
            | (go_at_call 38
               with_reducible refine (hn1 _).mono ?_
               rintro e w1 ⟨rfl, rfl⟩
               exact ⟨rfl, b1, b2⟩)
            | (go_at_call 38
               refine (hn2 _).mono ?_
               rintro e w1 ⟨rfl, rfl⟩
               exact ⟨rfl, b1, b2⟩)
            | (go_at_call 39
               refine (forms_2 _).mono ?_
               rintro e w1 ⟨rfl, hB1⟩
               exact ⟨rfl, b1.later hB1, below_trans b2 hB1⟩)
            | (go_at_call 74
               refine (hgood _ b2).mono ?_
               rintro e w1 ⟨rfl, hB1⟩
               exact ⟨rfl, b1.later hB1, below_trans b2 hB1⟩)
            | with_reducible rfl
          clear hK K
          simp only [Act.put, List.setIfInBounds_toArray, List.set_cons_zero, List.set_cons_succ]))
    refine wpQuiet_nil ?_
    rintro w5 ⟨b1, b2⟩
    go_wp2
    go_ret
    exact ⟨rfl, b2⟩
set_option maxHeartbeats 1000000 in
set_option maxRecDepth 100000 in
theorem valid_3 (u : UD) (dp gp : Option Addr) (dc gc : Nat) (w : World) (hk : u.kind = 3) (G : Bool)
    (hgood : ∀ W, Below w.heap.size w W → Calls Tryd.prog 77 #[uv u (.slice dp u.data.length dc) (.slice gp u.got.length gc)] W fun e w' => e = .returned (.bool G) ∧ Below W.heap.size W w') :
    Calls Tryd.prog 10 #[uv u (.slice dp u.data.length dc) (.slice gp u.got.length gc)] w fun e w' => e = .returned (.int .i64 (if (decide (named u.ep) && decide (named u.ses) && G) = true then 0 else 30)) ∧ Below w.heap.size w w' := by
  have hn1 := fun W => named_any u.ep W
  have hn2 := fun W => named_any u.ses W
  obtain ⟨N1, hN1⟩ : ∃ N1, N1 = decide (named u.ep) := ⟨_, rfl⟩
  obtain ⟨N2, hN2⟩ : ∃ N2, N2 = decide (named u.ses) := ⟨_, rfl⟩
  rw [← hN1, ← hN2]
  rw [← hN1] at hn1
  rw [← hN2] at hn2
  clear hN1 hN2
  obtain ⟨kind, ep, ses, path, idx, cnt, data, code, got⟩ := u
  subst hk
  unfold uv at hgood ⊢
  simp only at hgood hn1 hn2 ⊢
  obtain ⟨n, hn⟩ : ∃ n, n = data.length := ⟨_, rfl⟩
  obtain ⟨k, hk⟩ : ∃ k, k = got.length := ⟨_, rfl⟩
  obtain ⟨e1, he1⟩ : ∃ e1, e1 = ep.toNat := ⟨_, rfl⟩
  obtain ⟨e2, he2⟩ : ∃ e2, e2 = ses.toNat := ⟨_, rfl⟩
  rw [← hn, ← hk, ← he1, ← he2] at hgood ⊢
  rw [← he1] at hn1
  rw [← he2] at hn2
  clear hn hk he1 he2
  have hfld : ∀ W, (Instr.field 69 (.agg #[.func (.func 77) #[] #[], .func (.func 78) #[] #[], .func (.func 79) #[] #[]]) 0).run Tryd.prog W = .ok (.func (.func 77) #[] #[]) W := fun W => by kernel_rfl
  cases N1 <;> cases N2 <;> cases G
  all_goals
    go_enter Tryd.func10, Tryd.ntmps10
    go_wp2_with fail
    have hb := Blk.new w 26 [.int .i64 3, .int .u64 (e1 : Int), .int .u64 (e2 : Int), .int .i64 path, .int .i64 idx, .int .i64 cnt, .slice dp n dc, .int .i64 code, .slice gp k gc]
    have hB : Below w.heap.size w (w.alloc (.cells (List.toArray [.int .i64 3, .int .u64 (e1 : Int), .int .u64 (e2 : Int), .int .i64 path, .int .i64 idx, .int .i64 cnt, .slice dp n dc, .int .i64 code, .slice gp k gc]) 26)) := (Below.refl _ _).alloc (Nat.le_refl _) _
    refine region_class (C := fun w' => Blk w' w.heap.size 26 [.int .i64 3, .int .u64 (e1 : Int), .int .u64 (e2 : Int), .int .i64 path, .int .i64 idx, .int .i64 cnt, .slice dp n dc, .int .i64 code, .slice gp k gc] ∧ Below w.heap.size w w') (by kernel_rfl) (by kernel_rfl) ⟨hb.drew, hB.drew⟩ ?_
    clear hb hB
    repeat
      (first
       | go_big_quiet_skip
       | (go_big_quiet_want
          rename_i K hK
          apply Exists.intro
          refine ⟨fun w' hw' => ?_, hK _ ?_⟩
          · obtain ⟨b1, b2⟩ := hw'
            have z0 := b1.cell_some (i := 0) rfl
            have z1 := b1.cell_some (i := 1) rfl
            have z2 := b1.cell_some (i := 2) rfl
            have z3 := b1.cell_some (i := 3) rfl
            have z4 := b1.cell_some (i := 4) rfl
            have z5 := b1.cell_some (i := 5) rfl
            have z6 := b1.cell_some (i := 6) rfl
            have z7 := b1.cell_some (i := 7) rfl
            have z8 := b1.cell_some (i := 8) rfl
            go_simp
            first
            | (go_at_call 37
               refine (kind_any _ _).mono ?_
               rintro e w1 ⟨rfl, rfl⟩
               exact ⟨rfl, b1, b2⟩)
            | (go_at_call 38
               with_reducible refine (hn1 _).mono ?_
               rintro e w1 ⟨rfl, rfl⟩
               exact ⟨rfl, b1, b2⟩)
            | (go_at_call 38
               refine (hn2 _).mono ?_
               rintro e w1 ⟨rfl, rfl⟩
               exact ⟨rfl, b1, b2⟩)
            | (go_at_call 39
               refine (forms_3 _).mono ?_
               rintro e w1 ⟨rfl, hB1⟩
               exact ⟨rfl, b1.later hB1, below_trans b2 hB1⟩)
            | (go_at_call 77
               refine (hgood _ b2).mono ?_
               rintro e w1 ⟨rfl, hB1⟩
               exact ⟨rfl, b1.later hB1, below_trans b2 hB1⟩)
            | with_reducible rfl
          clear hK K
          simp only [Act.put, List.setIfInBounds_toArray, List.set_cons_zero, List.set_cons_succ]))
    refine wpQuiet_nil ?_
    rintro w5 ⟨b1, b2⟩
    go_wp2
    go_ret
    exact ⟨rfl, b2⟩
set_option maxHeartbeats 1000000 in
set_option maxRecDepth 100000 in
theorem valid_0 (u : UD) (dp gp : Option Addr) (dc gc : Nat) (w : World) (hk : ¬ (1 ≤ u.kind ∧ u.kind ≤ 3)) :
    Calls Tryd.prog 10 #[uv u (.slice dp u.data.length dc) (.slice gp u.got.length gc)] w fun e w' => e = .returned (.int .i64 30) ∧ Below w.heap.size w w' := by
  obtain ⟨kind, ep, ses, path, idx, cnt, data, code, got⟩ := u
  unfold uv
  simp only at hk ⊢
  obtain ⟨n, hn⟩ : ∃ n, n = data.length := ⟨_, rfl⟩
  obtain ⟨k, hk'⟩ : ∃ k, k = got.length := ⟨_, rfl⟩
  obtain ⟨e1, he1⟩ : ∃ e1, e1 = ep.toNat := ⟨_, rfl⟩
  obtain ⟨e2, he2⟩ : ∃ e2, e2 = ses.toNat := ⟨_, rfl⟩
  rw [← hn, ← hk', ← he1, ← he2]
  clear hn hk' he1 he2
  have hkd : (decide (1 ≤ kind) && decide (kind ≤ 3)) = false := by
    rw [Bool.eq_false_iff]
    intro h
    simp only [Bool.and_eq_true, decide_eq_true_eq] at h
    exact hk h
  have hkk := fun W => kind_any kind W
  rw [hkd] at hkk
  clear hkd hk
  · skip
    go_enter Tryd.func10, Tryd.ntmps10
    go_wp2_with fail
    have hb := Blk.new w 26 [.int .i64 kind, .int .u64 (e1 : Int), .int .u64 (e2 : Int), .int .i64 path, .int .i64 idx, .int .i64 cnt, .slice dp n dc, .int .i64 code, .slice gp k gc]
    have hB : Below w.heap.size w (w.alloc (.cells (List.toArray [.int .i64 kind, .int .u64 (e1 : Int), .int .u64 (e2 : Int), .int .i64 path, .int .i64 idx, .int .i64 cnt, .slice dp n dc, .int .i64 code, .slice gp k gc]) 26)) := (Below.refl _ _).alloc (Nat.le_refl _) _
    refine region_class (C := fun w' => Blk w' w.heap.size 26 [.int .i64 kind, .int .u64 (e1 : Int), .int .u64 (e2 : Int), .int .i64 path, .int .i64 idx, .int .i64 cnt, .slice dp n dc, .int .i64 code, .slice gp k gc] ∧ Below w.heap.size w w') (by kernel_rfl) (by kernel_rfl) ⟨hb.drew, hB.drew⟩ ?_
    clear hb hB
    repeat
      (first
       | go_big_quiet_skip
       | (go_big_quiet_want
          rename_i K hK
          apply Exists.intro
          refine ⟨fun w' hw' => ?_, hK _ ?_⟩
          · obtain ⟨b1, b2⟩ := hw'
            have z0 := b1.cell_some (i := 0) rfl
            have z1 := b1.cell_some (i := 1) rfl
            have z2 := b1.cell_some (i := 2) rfl
            have z3 := b1.cell_some (i := 3) rfl
            have z4 := b1.cell_some (i := 4) rfl
            have z5 := b1.cell_some (i := 5) rfl
            have z6 := b1.cell_some (i := 6) rfl
            have z7 := b1.cell_some (i := 7) rfl
            have z8 := b1.cell_some (i := 8) rfl
            go_simp
            first
            | (go_at_call 37
               refine (hkk _).mono ?_
               rintro e w1 ⟨rfl, rfl⟩
               exact ⟨rfl, b1, b2⟩)
            | with_reducible rfl
          clear hK K
          simp only [Act.put, List.setIfInBounds_toArray, List.set_cons_zero, List.set_cons_succ]))
    refine wpQuiet_nil ?_
    rintro w5 ⟨b1, b2⟩
    go_wp2
    go_ret
    exact ⟨rfl, b2⟩
theorem valid_any (u : UD) (dp gp : Option Addr) (dc gc : Nat) (w : World) (hg : Rgs w (.slice gp u.got.length gc) u.got) (hl : u.got.length ≤ 140737488355328) :
    Calls Tryd.prog 10 #[uv u (.slice dp u.data.length dc) (.slice gp u.got.length gc)] w fun e w' => e = .returned (.int .i64 (if validU u then 0 else 30)) ∧ Below w.heap.size w w' := by
  have key : ∀ (k : Int) (G : Prop) [Decidable G], u.kind = k → (validU u ↔ named u.ep ∧ named u.ses ∧ G) → (if (decide (named u.ep) && decide (named u.ses) && decide G) = true then (0 : Int) else 30) = if validU u then 0 else 30 := fun k G _ _ h => by
    by_cases hv : validU u
    · have := h.1 hv
      rw [if_pos hv, if_pos (by rw [decide_eq_true this.1, decide_eq_true this.2.1, decide_eq_true this.2.2]; rfl)]
    · rw [if_neg hv, if_neg]
      intro hh
      simp only [Bool.and_eq_true, decide_eq_true_eq] at hh
      exact hv (h.2 ⟨hh.1.1, hh.1.2, hh.2⟩)
  by_cases h1 : u.kind = 1
  · rw [← key 1 (goodD u) h1 ⟨fun h => ⟨h.1, h.2.1, by rcases h.2.2 with h | h | h; exact h.2; omega; omega⟩, fun h => ⟨h.1, h.2.1, .inl ⟨h1, h.2.2⟩⟩⟩]
    exact valid_1 u dp gp dc gc w h1 _ fun W _ => goodData_any u dp gp dc gc W
  by_cases h2 : u.kind = 2
  · rw [← key 2 (goodR u) h2 ⟨fun h => ⟨h.1, h.2.1, by rcases h.2.2 with h | h | h; omega; exact h.2; omega⟩, fun h => ⟨h.1, h.2.1, .inr (.inl ⟨h2, h.2.2⟩)⟩⟩]
    exact valid_2 u dp gp dc gc w h2 _ fun W hB => goodReport_any u dp gp dc gc W (hg.later hB) hl
  by_cases h3 : u.kind = 3
  · rw [← key 3 (goodC u) h3 ⟨fun h => ⟨h.1, h.2.1, by rcases h.2.2 with h | h | h; omega; omega; exact h.2⟩, fun h => ⟨h.1, h.2.1, .inr (.inr ⟨h3, h.2.2⟩)⟩⟩]
    exact valid_3 u dp gp dc gc w h3 _ fun W _ => goodCancel_any u dp gp dc gc W
  · rw [if_neg (by rintro ⟨-, -, h | h | h⟩; exact h1 h.1; exact h2 h.1; exact h3 h.1)]
    exact valid_0 u dp gp dc gc w (by omega)
end Go.Proofs.YtghjffgaebnhiaaDoor
