/- pdu.Missing. -/
import Derived.Test.YtghjffgaebnhiaaLeast
import Derived.Test.YtghjffgaebnhiaaSetLaw2
namespace Go.Proofs.Ytghjffgaebnhiaa
set_option linter.unusedVariables false
set_option linter.unusedSimpArgs false
open Go.RowKit
theorem missIn_take (n : Int) (L : List (Int × Int)) (k : Nat) (h : k < L.length) : missIn n (L.take (k + 1)) = missStep n (missIn n (L.take k)) L[k] := by
  rw [List.take_succ_eq_append_getElem h, missIn_snoc]
theorem missIn_len (n : Int) (L : List (Int × Int)) : (missIn n L).1.length ≤ L.length := by
  induction h : L.length generalizing L with
  | zero => obtain rfl : L = [] := List.length_eq_zero_iff.1 h; simp [missIn]
  | succ N ih =>
    obtain ⟨p, g, rfl⟩ : ∃ p g, L = p ++ [g] := by
      have hne : L ≠ [] := by intro e; rw [e] at h; simp at h
      exact ⟨L.dropLast, L.getLast hne, (List.dropLast_concat_getLast hne).symm⟩
    have := ih p (by simpa using h)
    rw [missIn_snoc]
    unfold missStep
    simp only
    split <;> simp <;> omega
theorem ite_min (a b : Int) : (if b < a then b else a) = min a b := by split <;> omega
set_option maxHeartbeats 4000000 in
set_option maxRecDepth 100000 in
theorem missing_any (v : Value) (l : List (Int × Int)) (n : Int) (w : World) (h : Rgs w v l) (hl : l.length ≤ 4398046511104) :
    Calls Try.prog 16 #[v, .int .i64 n] w fun e w' => ∃ v', e = .returned v' ∧ w'.ownsRow w.heap.size 31 2 v' (missR (leastR l) n).length (rvs (missR (leastR l) n)) ∧ Below w.heap.size w w' := by
  have HL := Lib.hid (least_rd v l w h (by omega))
  have hll := leastR_len l
  obtain ⟨p, c, rfl, -⟩ := id h
  obtain ⟨L, hL⟩ : ∃ L, L = leastR l := ⟨_, rfl⟩
  rw [← hL] at HL hll ⊢
  clear hL h
  go_enter Try.func16, Try.ntmps16
  go_wp2_with fail
  refine HL.out.mono ?_
  rintro e w1 ⟨v1, rfl, own1, hB1⟩
  obtain ⟨ap, ac, rfl, -, hr⟩ := (Rgs.of_own own1).cells
  have hz1 := hB1.size
  clear own1
  go_wp2_with fail
  go_loopw [5, 6, 12] (fun o a i wr => ∃ (k : Nat) (out : List (Int × Int)) (t : Int), k ≤ L.length ∧ i = .int .i64 k ∧ wr.ownsRow w1.heap.size 31 2 o out.length (rvs out) ∧ a = .int .i64 t ∧ Hid (missIn n (L.take k) = (out, t)) ∧ out.length ≤ k ∧ Below w1.heap.size w1 wr) (fun _ _ i _ => L.length - (intOf i).toNat)
  case atStart => exact ⟨0, [], 0, Nat.zero_le _, rfl, World.ownsRow_nil _ _ _ _, rfl, Lib.hid rfl, Nat.le_refl _, Below.refl _ _⟩
  case round =>
    obtain ⟨k, out, t, hk, rfl, hown, rfl, HM, hol, hB⟩ := hrel
    have hz := hB.size
    by_cases hlt : k < L.length
    · obtain ⟨b, off, rfl, hc⟩ := hr (by omega)
      obtain ⟨c0, c1⟩ := hc k _ (List.getElem?_eq_getElem hlt)
      have c0 := below_cell hB c0 (World.block_lt_of_cell? _ _ c0)
      have c1 := below_cell hB c1 (World.block_lt_of_cell? _ _ c1)
      have hst := missIn_take n L k hlt
      obtain ⟨x, hx⟩ : ∃ x, x = L[k] := ⟨_, rfl⟩
      rw [← hx] at c0 c1 hst
      rw [HM.out] at hst
      obtain ⟨x1, x2⟩ := x
      simp only at c0 c1
      unfold missStep at hst
      simp only at hst
      have HST := Lib.hid hst
      have ix : (k : Int) < L.length := by omega
      clear hc hr hx hst
      by_cases hap : t < min x1 n
      · have t1 : decide (t < min x1 n) = true := by simpa using hap
        have HT : Hid (missIn n (L.take (k + 1)) = (out ++ [(t, min x1 n)], max t x2)) := Lib.hid (by rw [HST.out, if_pos hap])
        go_wp2_with (at_builtin; go_loud (refine wpList_app1 El.range rfl (.tmp 22) (.tmp 29) rfl (hown.alloc _) rfl (cs := #[.int .i64 t, .int .i64 (min x1 n)]) (show Value.slice (some ⟨wr.heap.size + 1, 0, none⟩) 1 1 = Value.slice (some ⟨(wr.alloc _).heap.size, 0, none⟩) 1 1 by simp) rfl (by simp [Value.oneCell']) (by omega) (by simp; omega) ?_); intro v3 w3 hown3 hgr3 _; have hgr := grown_pre ((Below.refl _ _).alloc (Nat.le_refl _) _) hgr3; have hB3 := hB.grown hgr hz (fun k hk => (hown.lt k hk).1); have b0 : w3.cell? ⟨wr.heap.size, 0, none⟩ = some (.int .i64 x1) := hgr3.cell (a := ⟨wr.heap.size, 0, none⟩) ((Blk.new wr 31 [.int .i64 x1, .int .i64 x2]).cell_some rfl) (fun e => by have := (hown.lt _ e.symm).2; simp at this); have b1 : w3.cell? ⟨wr.heap.size, 1, none⟩ = some (.int .i64 x2) := hgr3.cell (a := ⟨wr.heap.size, 1, none⟩) ((Blk.new wr 31 [.int .i64 x1, .int .i64 x2]).cell_some rfl) (fun e => by have := (hown.lt _ e.symm).2; simp at this))
        clear hgr hgr3
        go_roundw
        case rel => exact ⟨k + 1, out ++ [(t, min x1 n)], max t x2, by omega, by go_num, by rw [List.length_append, rvs_app]; exact hown3, rfl, HT, by rw [List.length_append, List.length_singleton]; omega, hB3⟩
        case measure => simp [intOf]; omega
      · have t1 : decide (t < min x1 n) = false := by simpa using hap
        have HT : Hid (missIn n (L.take (k + 1)) = (out, max t x2)) := Lib.hid (by rw [HST.out, if_neg hap])
        go_wp2_with fail
        go_roundw
        case rel => exact ⟨k + 1, out, max t x2, by omega, by go_num, hown.alloc _, rfl, HT, by omega, hB.alloc hz _⟩
        case measure => simp [intOf]; omega
    · obtain rfl : k = L.length := by omega
      rw [List.take_length] at HM
      by_cases htn : t < n
      · have HT : Hid (missR L n = out ++ [(t, n)]) := Lib.hid (by unfold missR; rw [HM.out]; exact if_pos htn)
        go_wp2_with (at_builtin; go_loud (refine wpList_app1 El.range rfl (.tmp 39) (.tmp 43) rfl hown rfl (cs := #[.int .i64 t, .int .i64 n]) rfl rfl (by simp [Value.oneCell']) (by omega) hz ?_); intro v3 w3 hown3 hgr3 _)
        go_ret
        have hB3 := hB.grown hgr3 hz (fun k hk => (hown.lt k hk).1)
        rw [HT.out, List.length_append, rvs_app]
        exact ⟨_, rfl, own_mono hown3 hz1, hB1.trans (hB3.mono hz1)⟩
      · have HT : Hid (missR L n = out) := Lib.hid (by unfold missR; rw [HM.out]; exact if_neg htn)
        go_wp2_with fail
        go_ret
        rw [HT.out]
        exact ⟨_, rfl, own_mono hown hz1, hB1.trans (hB.mono hz1)⟩
end Go.Proofs.Ytghjffgaebnhiaa
