/- The reference's Got: the runs of the segments that are there. -/
import Derived.Test.YtgnbnkoanoalhaaRefBox
import Derived.Test.YtgnbnkoanoalhaaGot
import Derived.Deep.RegionLaw
namespace Go.Proofs.Ytgnbnkoanoalhaa
set_option linter.unusedVariables false
set_option linter.unusedSimpArgs false
open Go.RowKit
theorem gotL_full (ps : List (List UInt8)) (k : Nat) : full (gotL ps k) = gotL ps k := by
  induction k with
  | zero => rfl
  | succ k ih =>
    rw [gotL]
    unfold full at ih ⊢
    rw [List.filter_append, ih]
    congr 1
    split
    · rfl
    · simp; omega
theorem gotL_lt (ps : List (List UInt8)) (k : Nat) : ∀ g ∈ gotL ps k, g.1 < k := by
  induction k with
  | zero => simp [gotL]
  | succ k ih =>
    intro g hg
    rw [gotL] at hg
    rcases List.mem_append.1 hg with h | h
    · have := ih g h; omega
    · split at h
      · simp at h
      · simp at h; subst h; simp only; omega
theorem gotL_sorted (ps : List (List UInt8)) (k : Nat) : (gotL ps k).Pairwise fun a b => a.1 ≤ b.1 := by
  induction k with
  | zero => simp [gotL]
  | succ k ih =>
    rw [gotL, List.pairwise_append]
    refine ⟨ih, by split <;> simp, fun a ha b hb => ?_⟩
    have := gotL_lt ps k a ha
    split at hb
    · simp at hb
    · simp at hb; subst hb; simp only; omega
theorem merge_got (ps : List (List UInt8)) (k : Nat) : mergeR (gotL ps k) = leastR (gotL ps k) := merge_least (by rw [gotL_full]) (gotL_sorted ps k)
theorem merge_got_succ (ps : List (List UInt8)) (k : Nat) : mergeR (gotL ps (k + 1)) = if ps.getD k [] = [] then mergeR (gotL ps k) else pushR (mergeR (gotL ps k)) ((k : Int), (k : Int) + 1) := by
  rw [gotL]
  split
  · rw [List.append_nil]
  · rw [mergeR_snoc]
/-- where the last run ends. -/
theorem merge_got_end (ps : List (List UInt8)) (k : Nat) : (∀ g ∈ mergeR (gotL ps k), g.2 ≤ k) ∧ (0 < k → ps.getD (k - 1) [] ≠ [] → ∃ init a, mergeR (gotL ps k) = init ++ [(a, (k : Int))]) ∧ ((0 < k → ps.getD (k - 1) [] = []) → ∀ g ∈ mergeR (gotL ps k), g.2 < k) := by
  induction k with
  | zero => simp [gotL, mergeR]
  | succ k ih =>
    obtain ⟨h1, h2, h3⟩ := ih
    rw [merge_got_succ, Nat.add_sub_cancel]
    by_cases hp : ps.getD k [] = []
    · rw [if_pos hp]
      refine ⟨fun g hg => by have := h1 g hg; omega, fun _ h => absurd hp h, fun _ g hg => by have := h1 g hg; omega⟩
    · rw [if_neg hp]
      unfold pushR
      cases he : (mergeR (gotL ps k)).getLast? with
      | none =>
        simp only
        refine ⟨fun g hg => ?_, fun _ _ => ⟨[], (k : Int), by simp⟩, fun h => absurd (h (by omega)) hp⟩
        simp at hg; subst hg; simp only; omega
      | some q =>
        obtain ⟨init, hi⟩ := List.getLast?_eq_some_iff.1 he
        have hq := h1 q (by rw [hi]; simp)
        simp only
        split
        · next hle =>
          have hmx : max q.2 ((k : Int) + 1) = (k : Int) + 1 := by omega
          rw [hi, List.dropLast_concat, hmx]
          refine ⟨fun g hg => ?_, fun _ _ => ⟨init, q.1, by simp⟩, fun h => absurd (h (by omega)) hp⟩
          rcases List.mem_append.1 hg with h | h
          · have := h1 g (by rw [hi]; simp [h]); omega
          · simp at h; subst h; simp only; omega
        · next hle =>
          refine ⟨fun g hg => ?_, fun _ _ => ⟨mergeR (gotL ps k), (k : Int), by simp⟩, fun h => absurd (h (by omega)) hp⟩
          rcases List.mem_append.1 hg with h | h
          · have := h1 g h; omega
          · simp at h; subst h; simp only; omega

set_option maxHeartbeats 2000000 in
set_option maxRecDepth 100000 in
theorem refGot_any (r base : Nat) {Z : Nat → Prop} (ls : List (List UInt8)) (w : World) (h : RefAt w r base Z ls) (hl : ls.length ≤ 64) :
    Calls Try.prog 37 #[.pointer (some ⟨r, 0, none⟩)] w fun e w' => ∃ v, e = .returned v ∧ w'.ownsRow w.heap.size 77 2 v (leastR (gotL ls ls.length)).length (rvs (leastR (gotL ls ls.length))) ∧ Below w.heap.size w w' := by
  have hr := h.lt.1
  obtain ⟨ao, cap, c0, hp⟩ := h.open
  have HP := Lib.hid hp
  clear hp h
  obtain ⟨N, hN⟩ : ∃ N, N = ls.length := ⟨_, rfl⟩
  rw [← hN] at c0 hl
  have HN := Lib.hid hN
  clear hN
  go_enter Try.func37, Try.ntmps37
  go_wp2
  go_loopw [3, 4] (fun o i wr => ∃ k : Nat, k ≤ N ∧ i = .int .i64 k ∧ wr.ownsRow w.heap.size 77 2 o (mergeR (gotL ls k)).length (rvs (mergeR (gotL ls k))) ∧ Below w.heap.size w wr)
    (fun _ i _ => N - (intOf i).toNat)
  case atStart => exact ⟨0, Nat.zero_le _, rfl, World.ownsRow_nil _ _ _ _, Below.refl _ _⟩
  case round =>
    obtain ⟨k, hk, rfl, hown, hB⟩ := hrel
    have hz := hB.size
    have c0 := below_cell hB c0 hr
    by_cases hlt : k < N
    · have hkl : k < ls.length := by rw [← HN.out]; exact hlt
      obtain ⟨b, off, xp, xc, rfl, e1, -⟩ := (HP.out.later hB).elem hkl
      have hts := merge_got_succ ls k
      obtain ⟨he1, he2, he3⟩ := merge_got_end ls k
      have hol : (mergeR (gotL ls k)).length ≤ k := Nat.le_trans (mergeR_len _) (gotL_len ls k)
      obtain ⟨O, hO⟩ : ∃ O, O = mergeR (gotL ls k) := ⟨_, rfl⟩
      rw [← hO] at hown hts he1 he2 he3 hol
      have ix : (k : Int) < N := by omega
      by_cases hpe : ls.getD k [] = []
      · have HT := Lib.hid hts; have HPE := Lib.hid hpe; have HO := Lib.hid hO
        rw [hpe] at e1
        clear hts hpe he1 he2 he3 hO
        go_wp2
        go_roundw
        case rel => exact ⟨k + 1, by omega, by go_num, by rw [HT.out, if_pos HPE.out]; exact hown, hB⟩
        case measure => simp [intOf]; omega
      · have hpn : 0 < (ls.getD k []).length := List.length_pos_iff.2 hpe
        obtain ⟨n, hn⟩ : ∃ n, n = (ls.getD k []).length := ⟨_, rfl⟩
        rw [← hn] at e1 hpn
        have t1 : ((n : Int) == 0) = false := by rw [beq_eq_false_iff_ne]; omega
        rw [if_neg hpe] at hts
        have hrun : (0 < k ∧ ls.getD (k - 1) [] ≠ []) ∨ (0 < k → ls.getD (k - 1) [] = []) := by
          by_cases h1 : 0 < k
          · by_cases h2 : ls.getD (k - 1) [] = []
            · exact .inr fun _ => h2
            · exact .inl ⟨h1, h2⟩
          · exact .inr fun h => absurd h h1
        by_cases hjoin : 0 < k ∧ ls.getD (k - 1) [] ≠ []
        · obtain ⟨hk0, hj⟩ := hjoin
          obtain ⟨b2, off2, yp, yc, hbo, e2, -⟩ := (HP.out.later hB).elem (i := k - 1) (by omega)
          injection hbo with hbo
          injection hbo with q1 q2
          subst q1; subst q2
          obtain ⟨m, hm⟩ : ∃ m, m = (ls.getD (k - 1) []).length := ⟨_, rfl⟩
          have hmn : 0 < m := hm ▸ List.length_pos_iff.2 hj
          rw [← hm] at e2
          obtain ⟨init, a, hO2⟩ := he2 hk0 hj
          subst hO2
          rw [List.length_append, List.length_singleton] at hown hol
          obtain ⟨M, hM⟩ : ∃ M, M = init.length := ⟨_, rfl⟩
          rw [← hM] at hown hol
          have HM := Lib.hid hM
          have HT := Lib.hid (show mergeR (gotL ls (k + 1)) = init ++ [(a, (k : Int) + 1)] by
            rw [hts]
            unfold pushR
            rw [List.getLast?_concat]
            simp only
            rw [if_pos (by omega), List.dropLast_concat, show max (k : Int) ((k : Int) + 1) = (k : Int) + 1 by omega])
          obtain ⟨g, oc, rest, rfl, hgb, hc1, hc2, hblk, hrest⟩ := own_blk hown (by omega)
          have hg := hblk.lt
          have e4 : wr.cell? ⟨g, M * 2 + 1, none⟩ = some (.int .i64 k) := hblk.cell_some (by
            rw [List.getElem?_append_left (by rw [rvs_len]; simp; omega), hM]
            exact (rvs_at (init ++ [(a, (k : Int))]) init.length (a, (k : Int)) (by simp)).2)
          have e5 : wr.frozen? ⟨g, M * 2 + 1, none⟩ = false := hblk.frozen _
          obtain ⟨j, rfl⟩ : ∃ j, k = j + 1 := ⟨k - 1, by omega⟩
          rw [Nat.add_sub_cancel] at e2
          have ix3 : (j : Int) < N := by omega
          have ix4 : (0 : Int) < (j : Int) + 1 := by omega
          clear hblk hrest hM hts he1 he2 he3 hO hn hm hj hpe hrun
          go_wp2_with fail
          go_roundw
          case rel =>
            have hset := own_setLast (w := wr) (k := (a, ((j + 1 : Nat) : Int))) hown (by rw [← HM.out]) ((j : Int) + 1 + 1)
            rw [← HM.out] at hset
            exact ⟨j + 1 + 1, by omega, by go_num, by rw [HT.out, List.length_append, List.length_singleton, ← HM.out]; exact hset, hB.setCell hgb _⟩
          case measure => simp [intOf]; omega
        · have hnj : 0 < k → ls.getD (k - 1) [] = [] := hrun.resolve_left hjoin
          have hlt2 := he3 hnj
          have HT := Lib.hid (show mergeR (gotL ls (k + 1)) = O ++ [((k : Int), (k : Int) + 1)] by
            rw [hts]
            unfold pushR
            cases hla : O.getLast? with
            | none => simp only; rw [List.getLast?_eq_none_iff.1 hla]; rfl
            | some q =>
              obtain ⟨init, hi⟩ := List.getLast?_eq_some_iff.1 hla
              have := hlt2 q (by rw [hi]; simp)
              simp only
              rw [if_neg (by omega)])
          by_cases hk0 : 0 < k
          · have hz0 := hnj hk0
            obtain ⟨b2, off2, yp, yc, hbo, e2, -⟩ := (HP.out.later hB).elem (i := k - 1) (by omega)
            injection hbo with hbo
            injection hbo with q1 q2
            subst q1; subst q2
            rw [hz0] at e2
            obtain ⟨j, rfl⟩ : ∃ j, k = j + 1 := ⟨k - 1, by omega⟩
            rw [Nat.add_sub_cancel] at e2
            have ix3 : (j : Int) < N := by omega
            have ix4 : (0 : Int) < (j : Int) + 1 := by omega
            clear hts he1 he2 he3 hO hn hpe hrun hz0 hnj hjoin hlt2
            go_wp2_with (at_builtin; go_loud (refine wpList_app1 El.range rfl (.tmp 47) (.tmp 52) rfl hown rfl (cs := #[.int .i64 (j + 1 : Nat), .int .i64 ((j + 1 : Nat) + 1)]) rfl rfl (by simp [Value.oneCell']) (by omega) (by omega) ?_); intro v1 w1 hown1 hgr1 _)
            have hB1 := hB.grown hgr1 hz (fun k hk => (hown.lt k hk).1)
            clear hgr1 hown
            go_roundw
            case rel => exact ⟨j + 1 + 1, by omega, by go_num, by rw [HT.out, List.length_append, rvs_app]; exact hown1, hB1⟩
            case measure => simp [intOf]; omega
          · obtain rfl : k = 0 := by omega
            rw [Nat.add_zero] at e1
            clear hts he1 he2 he3 hO hn hpe hrun hnj hjoin hlt2
            go_wp2_with (at_builtin; go_loud (refine wpList_app1 El.range rfl (.tmp 47) (.tmp 52) rfl hown rfl (cs := #[.int .i64 0, .int .i64 1]) rfl rfl (by simp [Value.oneCell']) (by omega) (by omega) ?_); intro v1 w1 hown1 hgr1 _)
            have hB1 := hB.grown hgr1 hz (fun k hk => (hown.lt k hk).1)
            clear hgr1 hown
            go_roundw
            case rel => exact ⟨1, by omega, by go_num, by rw [HT.out, List.length_append, rvs_app]; exact hown1, hB1⟩
            case measure => simp [intOf]; omega
    · obtain rfl : k = N := by omega
      have HM := Lib.hid (merge_got ls k)
      go_wp2
      go_ret
      rw [HM.out] at hown
      rw [← HN.out]
      exact ⟨_, rfl, hown, hB⟩
end Go.Proofs.Ytgnbnkoanoalhaa
