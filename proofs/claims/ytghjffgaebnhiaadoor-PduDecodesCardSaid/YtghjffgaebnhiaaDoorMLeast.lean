/- pdu.Least: the least form of any list of ranges. -/
import Derived.Test.YtghjffgaebnhiaaDoorMSort
import Derived.Test.YtghjffgaebnhiaaDoorMRangeLaw
import Derived.Deep.RegionLaw
namespace Go.Proofs.YtghjffgaebnhiaaDoor
set_option linter.unusedVariables false
set_option linter.unusedSimpArgs false
open Go.RowKit
set_option maxHeartbeats 2000000 in
set_option maxRecDepth 100000 in
theorem least_rd (v : Value) (l : List (Int × Int)) (w : World) (h : Rgs w v l) (hl : l.length ≤ 8796093022208) :
    Calls Tryd.prog 23 #[v] w fun e w' => ∃ v', e = .returned v' ∧ w'.ownsRow w.heap.size 57 2 v' (leastR l).length (rvs (leastR l)) ∧ Below w.heap.size w w' := by
  obtain ⟨ao, cap, rfl, _, hr⟩ := h.cells
  clear h
  go_enter Tryd.func23, Tryd.ntmps23
  go_wp2
  go_loopw [3, 12] (fun al i wr => ∃ k : Nat, k ≤ l.length ∧ i = .int .i64 k ∧ wr.ownsRow w.heap.size 57 2 al (full (l.take k)).length (rvs (full (l.take k))) ∧ Below w.heap.size w wr) (fun _ i _ => l.length - (intOf i).toNat)
  case atStart => exact ⟨0, Nat.zero_le _, rfl, World.ownsRow_nil _ _ _ _, Below.refl _ _⟩
  case round =>
    obtain ⟨k, hk, rfl, hown, hB⟩ := hrel
    have hz := hB.size
    by_cases hlt : k < l.length
    · obtain ⟨b, off, rfl, hc⟩ := hr (by omega)
      obtain ⟨c0, c1⟩ := hc k _ (List.getElem?_eq_getElem hlt)
      have c0 := below_cell hB c0 (World.block_lt_of_cell? _ _ c0)
      have c1 := below_cell hB c1 (World.block_lt_of_cell? _ _ c1)
      have hts := full_take_succ l k hlt
      have hfl : (full (l.take k)).length ≤ k := Nat.le_trans (List.length_filter_le _ _) (by rw [List.length_take]; omega)
      obtain ⟨x, hx⟩ : ∃ x, x = l[k] := ⟨_, rfl⟩
      rw [← hx] at c0 c1 hts
      obtain ⟨F, hF⟩ : ∃ F, F = full (l.take k) := ⟨_, rfl⟩
      rw [← hF] at hown hts hfl
      obtain ⟨x1, x2⟩ := x
      simp only at c0 c1 hts
      have HT := Lib.hid hts
      clear hx hc hr hts hF
      by_cases hne : x1 < x2
      · go_wp2_with (at_builtin; go_loud (refine wpList_app1 El.range rfl (.tmp 21) (.tmp 23) rfl (hown.alloc _) rfl (cs := #[.int .i64 x1, .int .i64 x2]) (show Value.slice (some ⟨wr.heap.size + 1, 0, none⟩) 1 1 = Value.slice (some ⟨(wr.alloc _).heap.size, 0, none⟩) 1 1 by simp) rfl (by simp [Value.oneCell']) (by omega) (by simp; omega) ?_); intro v1 w1 hown1 hgr1 _)
        have hgr := grown_pre ((Below.refl _ _).alloc (Nat.le_refl _) _) hgr1
        have hB1 := hB.grown hgr hz (fun k hk => (hown.lt k hk).1)
        clear hgr1 hown
        go_roundw
        case rel => exact ⟨k + 1, by omega, by go_num, by rw [HT.out, if_pos hne, List.length_append, rvs_app]; exact hown1, hB1⟩
        case measure => simp [intOf]; omega
      · go_wp2
        go_roundw
        case rel => exact ⟨k + 1, by omega, by go_num, by rw [HT.out, if_neg hne, List.append_nil]; exact hown.alloc _, hB.alloc hz _⟩
        case measure => simp [intOf]; omega
    · obtain rfl : k = l.length := by omega
      rw [List.take_length] at hown
      have hfl : (full l).length ≤ l.length := List.length_filter_le _ _
      go_wp2_with fail
      refine (sort_any w.heap.size _ (full l) _ hown (by omega)).mono ?_
      rintro e w2 ⟨rfl, d, hperm, hsort, hown2, hgr2⟩
      have hdl : d.length = (full l).length := hperm.length_eq
      have hB2 := hB.grown hgr2 hz (fun k hk => (hown.lt k hk).1)
      obtain ⟨ap, ac, rfl, -, hrd⟩ := Rgs.cells (Rgs.of_own hown2)
      have HM := Lib.hid (merge_least hperm hsort)
      have HD := Lib.hid hdl
      obtain ⟨M, hM⟩ : ∃ M, M = d.length := ⟨_, rfl⟩
      have hML : M ≤ l.length := by omega
      rw [← hM] at hrd ⊢
      have HM2 := Lib.hid hM
      obtain ⟨wl, hwl⟩ : ∃ wl, wl = wr := ⟨_, rfl⟩
      subst hwl
      have hz2 := hB2.size
      clear hM hdl hfl hperm hsort hown hown2 hgr2 hr hB
      go_wp2_with fail
      go_loopw [6, 30] (fun out i wx => ∃ k : Nat, k ≤ M ∧ i = .int .i64 k ∧ wx.ownsRow w2.heap.size 57 2 out (mergeR (d.take k)).length (rvs (mergeR (d.take k))) ∧ Below w2.heap.size w2 wx) (fun _ i _ => M - (intOf i).toNat)
      case atStart => exact ⟨0, Nat.zero_le _, rfl, World.ownsRow_nil _ _ _ _, Below.refl _ _⟩
      case round =>
        obtain ⟨k, hk, rfl, hown, hB⟩ := hrel
        have hzr := hB.size
        by_cases hlt : k < M
        · obtain ⟨b, off, rfl, hc⟩ := hrd (by omega)
          have hkd : k < d.length := by rw [← HM2.out]; exact hlt
          obtain ⟨c0, c1⟩ := hc k _ (List.getElem?_eq_getElem hkd)
          have c0 := below_cell hB c0 (World.block_lt_of_cell? _ _ c0)
          have c1 := below_cell hB c1 (World.block_lt_of_cell? _ _ c1)
          have hts := merge_take_succ d k hkd
          have hol : (mergeR (d.take k)).length ≤ k := Nat.le_trans (mergeR_len _) (by rw [List.length_take]; omega)
          obtain ⟨x, hx⟩ : ∃ x, x = d[k] := ⟨_, rfl⟩
          rw [← hx] at c0 c1 hts
          obtain ⟨O, hO⟩ : ∃ O, O = mergeR (d.take k) := ⟨_, rfl⟩
          rw [← hO] at hown hts hol
          obtain ⟨x1, x2⟩ := x
          simp only at c0 c1
          have ix : (k : Int) < M := by omega
          clear hx hc hO hrd
          have HTS := Lib.hid hts
          cases he : O.getLast? with
          | none =>
            obtain rfl : O = [] := by simpa using he
            have HT := Lib.hid (show mergeR (d.take (k + 1)) = [(x1, x2)] from hts)
            obtain ⟨op, oc, rfl, -⟩ := Rgs.cells (Rgs.of_own hown)
            clear hts he
            go_wp2_with fail
            go_quiet (fail)
            all_goals
              go_wp2_with (at_builtin; go_loud (refine wpList_app1 El.range rfl (.tmp 63) (.tmp 65) rfl (show ((wr.alloc (.cells #[.int .i64 x1, .int .i64 x2] 57)).drewN nq).ownsRow _ _ _ _ _ _ from hown.alloc _) rfl (cs := #[.int .i64 x1, .int .i64 x2]) (show Value.slice (some ⟨wr.heap.size + 1, 0, none⟩) 1 1 = Value.slice (some ⟨((wr.alloc (.cells #[.int .i64 x1, .int .i64 x2] 57)).drewN nq).heap.size, 0, none⟩) 1 1 by simp) rfl (by simp [Value.oneCell']) (by simp) (by simp; omega) ?_); intro v1 w1 hown1 hgr1 _)
              have hgr := grown_pre (below_drewN ((Below.refl _ _).alloc (Nat.le_refl _) _) _) hgr1
              have hB1 := hB.grown hgr hzr (fun k hk => (hown.lt k hk).1)
              clear hgr1 hown
              go_roundw
              case rel => exact ⟨k + 1, by omega, by go_num, by rw [HT.out]; exact hown1, hB1⟩
              case measure => simp [intOf]; omega
          | some kk =>
            obtain ⟨init, rfl⟩ : ∃ init, O = init ++ [kk] := List.getLast?_eq_some_iff.1 he
            obtain ⟨k1, k2⟩ := kk
            rw [List.length_append, List.length_singleton] at hown hol
            obtain ⟨N, hN⟩ : ∃ N, N = init.length := ⟨_, rfl⟩
            rw [← hN] at hown hol
            have HN := Lib.hid hN
            obtain ⟨g, oc, rest, rfl, hgb, hc1, hc2, hblk, hrest⟩ := own_blk hown (by omega)
            have hg := hblk.lt
            have e1 : wr.cell? ⟨g, N * 2 + 1, none⟩ = some (.int .i64 k2) := hblk.cell_some (by
              rw [List.getElem?_append_left (by rw [rvs_len]; simp; omega), hN]
              exact (rvs_at (init ++ [(k1, k2)]) init.length (k1, k2) (by simp)).2)
            have e2 : wr.frozen? ⟨g, N * 2 + 1, none⟩ = false := hblk.frozen _
            have HB := Lib.hid hblk
            clear hblk hrest hN
            by_cases hle : x1 ≤ k2
            · have HT := Lib.hid (show mergeR (d.take (k + 1)) = init ++ [(k1, max k2 x2)] by rw [hts]; unfold pushR; rw [he]; simp only; rw [if_pos hle, List.dropLast_concat])
              clear hts he
              go_wp2_with fail
              go_quiet (fail)
              go_wp2_with fail
              go_region
              all_goals
                go_wp2_with fail
                go_roundw
                case rel =>
                  have hset := own_setLast (w := (wr.alloc (.cells #[.int .i64 x1, .int .i64 x2] 57)).drewN (nq + 1)) (hown.alloc _) (by rw [← HN.out]) (max k2 x2)
                  rw [← HN.out] at hset
                  exact ⟨k + 1, by omega, by go_num, by rw [HT.out, List.length_append, List.length_singleton, ← HN.out]; exact hset, (below_drewN (hB.alloc hzr _) _).setCell hgb _⟩
                case measure => simp [intOf]; omega
            · have HT := Lib.hid (show mergeR (d.take (k + 1)) = init ++ [(k1, k2)] ++ [(x1, x2)] by rw [hts]; unfold pushR; rw [he]; simp only; rw [if_neg hle])
              clear hts he
              go_wp2_with fail
              go_quiet (fail)
              all_goals
                go_wp2_with (at_builtin; go_loud (refine wpList_app1 El.range rfl (.tmp 63) (.tmp 65) rfl (show ((wr.alloc (.cells #[.int .i64 x1, .int .i64 x2] 57)).drewN nq).ownsRow _ _ _ _ _ _ from hown.alloc _) rfl (cs := #[.int .i64 x1, .int .i64 x2]) (show Value.slice (some ⟨wr.heap.size + 1, 0, none⟩) 1 1 = Value.slice (some ⟨((wr.alloc (.cells #[.int .i64 x1, .int .i64 x2] 57)).drewN nq).heap.size, 0, none⟩) 1 1 by simp) rfl (by simp [Value.oneCell']) (by omega) (by simp; omega) ?_); intro v1 w1 hown1 hgr1 _)
                have hgr := grown_pre (below_drewN ((Below.refl _ _).alloc (Nat.le_refl _) _) _) hgr1
                have hB1 := hB.grown hgr hzr (fun k hk => (hown.lt k hk).1)
                clear hgr1 hown
                go_roundw
                case rel => exact ⟨k + 1, by omega, by go_num, by rw [HT.out, List.length_append, List.length_append, rvs_app, List.length_singleton, List.length_singleton, ← HN.out]; exact hown1, hB1⟩
                case measure => simp [intOf]; omega
        · obtain rfl : k = M := by omega
          go_wp2
          go_ret
          refine ⟨_, rfl, ?_, hB2.trans (hB.mono (by omega))⟩
          rw [HM2.out, List.take_length, HM.out] at hown
          exact own_mono hown (by omega)
end Go.Proofs.YtghjffgaebnhiaaDoor
