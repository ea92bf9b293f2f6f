/- Decide. -/
import Derived.Test.YtfaemjlemaclbaaGreatMIDrop
namespace Go.Proofs.YtfaemjlemaclbaaGreat
set_option linter.unusedVariables false
set_option linter.unusedSimpArgs false
open Go.RowKit Go.Maps
/-- delete, as one step of a region that draws its order. -/
theorem step_del {P : Program} {ops : Array Oper} {o : Oper} {a : Act} {W W' : World} {K : Act → World → Prop} {Q : Exit → Act → World → Prop} {F : Prop} (hgd : o.guard = none) (m x : Operand) (t k : TypeId)
    (ho : o.op = .call { callee := .builtin .delete, args := #[m, x], argTypes := #[t, k] }) {mb : Nat} {v : Value} (hm : a.eval m = .map (some mb)) (hx : a.eval x = v)
    (hrun : ∀ ty, (Builtin.delete_ #[t, k] ty #[.map (some mb), v]).run P W = .ok (.tuple #[]) W') (h : K (a.put o.dst (.tuple #[])) W') :
    if Region.wanted o (yielded ops a.tmps) = true then Oper.wp P o a W K Q else F := by
  have hw : Region.wanted o (yielded ops a.tmps) = true := by simp [Region.wanted, hgd]
  rw [if_pos hw]
  unfold Oper.wp
  simp [execOp, ho, resolve, invoke, builtin, hm, hx, hrun, Result.andThen]
  exact h
set_option maxHeartbeats 400000 in
set_option maxRecDepth 100000 in
theorem nameD_any (n : UInt64) (w : World) : Calls Tryz.prog 51 #[.int .u64 (n.toNat : Int)] w fun e w' => e = .returned (.bool (decide (named n))) ∧ w' = w := by
  have hdec : decide (named n) = (decide (1 ≤ n.toNat) && decide (n.toNat ≤ 281474976710655)) := by
    by_cases h : named n
    · rw [decide_eq_true h, decide_eq_true h.1, decide_eq_true h.2]; rfl
    · rw [decide_eq_false h]
      unfold named at h
      by_cases h1 : 1 ≤ n.toNat
      · rw [decide_eq_true h1, decide_eq_false (fun h2 => h ⟨h1, h2⟩)]; rfl
      · rw [decide_eq_false h1]; rfl
  rw [hdec]
  obtain ⟨k, hk⟩ : ∃ k, k = n.toNat := ⟨_, rfl⟩
  rw [← hk]
  clear hk hdec
  by_cases h1 : 1 ≤ k
  · have hc1 : decide ((k : Int) ≥ 1) = true := by simp; omega
    go_enter Tryz.func51, Tryz.ntmps51
    go_wp2
    go_ret
    refine ⟨?_, rfl⟩
    simp [h1]
    omega
  · have hc1 : decide ((k : Int) ≥ 1) = false := by simp; omega
    go_enter Tryz.func51, Tryz.ntmps51
    go_wp2
    go_ret
    refine ⟨?_, rfl⟩
    simp [h1]
section
variable {w : World} {x bo bd t : Nat} {O : List OE} {C : List CE} {m : IM}
set_option maxHeartbeats 1000000 in
set_option maxRecDepth 100000 in
theorem dec_bad (h : IAt w x bo bd t O C m) (s : Sess) (code : Int) (hb : badD s code) :
    Calls Tryz.prog 26 #[.pointer (some ⟨x, 0, none⟩), .agg #[.int .u64 (s.1.toNat : Int), .int .u64 (s.2.toNat : Int)], .int .i64 code] w fun e w' => e = .returned (.int .i64 1) ∧ Below w.heap.size w w' := by
  have c3 := h.blk.cell_some (i := 3) rfl
  have hx := h.blk.lt
  obtain ⟨s1, s2⟩ := s
  have n1 := fun W => nameD_any s1 W
  have n2 := fun W => nameD_any s2 W
  obtain ⟨N1, hN1⟩ : ∃ N1, N1 = decide (named s1) := ⟨_, rfl⟩
  obtain ⟨N2, hN2⟩ : ∃ N2, N2 = decide (named s2) := ⟨_, rfl⟩
  have hbb : code < 1 ∨ code > 7 ∨ N1 = false ∨ N2 = false := by
    rcases hb with h | h | h | h
    · exact .inl h
    · exact .inr (.inl h)
    · exact .inr (.inr (.inl (by rw [hN1]; exact decide_eq_false h)))
    · exact .inr (.inr (.inr (by rw [hN2]; exact decide_eq_false h)))
  rw [← hN1] at n1
  rw [← hN2] at n2
  clear h hb hN1 hN2
  have c3' := below_cell ((Below.refl w.heap.size w).alloc (Nat.le_refl _) (.cells #[.int .u64 (s1.toNat : Int), .int .u64 (s2.toNat : Int)] 66)) c3 hx
  by_cases hc1 : code < 1
  · go_enter Tryz.func26, Tryz.ntmps26
    go_wp2_with fail
    refine (none_any _ _ _ c3').mono ?_
    rintro e w1 ⟨rfl, rfl⟩
    go_wp2_with fail
    go_ret
    exact ⟨rfl, (Below.refl _ _).alloc (Nat.le_refl _) _⟩
  by_cases hc7 : code > 7
  · go_enter Tryz.func26, Tryz.ntmps26
    go_wp2_with fail
    refine (none_any _ _ _ c3').mono ?_
    rintro e w1 ⟨rfl, rfl⟩
    go_wp2_with fail
    go_ret
    exact ⟨rfl, (Below.refl _ _).alloc (Nat.le_refl _) _⟩
  have hN : N1 = false ∨ N2 = false := by
    rcases hbb with h | h | h
    · exact absurd h hc1
    · exact absurd h hc7
    · exact h
  clear hbb
  cases N1 with
  | false =>
    go_enter Tryz.func26, Tryz.ntmps26
    go_wp2_with fail
    refine (none_any _ _ _ c3').mono ?_
    rintro e w1 ⟨rfl, rfl⟩
    go_wp2_with fail
    refine (n1 _).mono ?_
    rintro e w1 ⟨rfl, rfl⟩
    go_wp2_with fail
    go_ret
    exact ⟨rfl, (Below.refl _ _).alloc (Nat.le_refl _) _⟩
  | true =>
    have hN2 : N2 = false := by
      rcases hN with h | h
      · cases h
      · exact h
    subst hN2
    go_enter Tryz.func26, Tryz.ntmps26
    go_wp2_with fail
    refine (none_any _ _ _ c3').mono ?_
    rintro e w1 ⟨rfl, rfl⟩
    go_wp2_with fail
    refine (n1 _).mono ?_
    rintro e w1 ⟨rfl, rfl⟩
    go_wp2_with fail
    refine (n2 _).mono ?_
    rintro e w1 ⟨rfl, rfl⟩
    go_wp2_with fail
    go_ret
    exact ⟨rfl, (Below.refl _ _).alloc (Nat.le_refl _) _⟩
end
end Go.Proofs.YtfaemjlemaclbaaGreat
