/- made; plain laws of steps. -/
import Derived.Test.YtnnkchgkebcblaaWScript
namespace Go.Proofs.Ytnnkchgkebcblaa
set_option linter.unusedVariables false
set_option linter.unusedSimpArgs false
open Go.RowKit
/-- what the Sets and Stops of a script leave. -/
def WS.mk1 (s : WS) (o : Opd) : WS :=
  if o.kind = 1 then ⟨s.now, s.sets + 1, setR s.T o.id o.at_ s.now (s.sets + 1)⟩
  else if o.kind = 2 then ⟨s.now, s.sets, without s.T o.id⟩
  else s
def WS.mks (s : WS) (l : List Opd) : WS := l.foldl WS.mk1 s
theorem WS.mks_snoc (s : WS) (l : List Opd) (o : Opd) : s.mks (l ++ [o]) = (s.mks l).mk1 o := by simp [WS.mks]
theorem WS.mk1_sets (s : WS) (o : Opd) : (s.mk1 o).sets ≤ s.sets + 1 := by unfold WS.mk1; split <;> (try split) <;> simp
theorem WS.mks_sets (s : WS) (l : List Opd) : (s.mks l).sets ≤ s.sets + l.length := by
  induction l generalizing s with
  | nil => exact Nat.le_refl _
  | cons o l ih => have h1 := ih (s.mk1 o); have h2 := WS.mk1_sets s o; have e : s.mks (o :: l) = (s.mk1 o).mks l := rfl; rw [e, List.length_cons]; omega
theorem WS.mk1_now (s : WS) (o : Opd) : (s.mk1 o).now = s.now := by unfold WS.mk1; split <;> (try split) <;> rfl
theorem WS.mks_now (s : WS) (l : List Opd) : (s.mks l).now = s.now := by
  induction l generalizing s with
  | nil => rfl
  | cons o l ih => have h1 := ih (s.mk1 o); rw [WS.mk1_now] at h1; exact h1
theorem stay_stay {T : List Tm} {n m : Nat} (h : n ≤ m) : stay (stay T n) m = stay T m := by
  unfold stay
  rw [List.filter_filter]
  refine List.filter_congr fun t _ => ?_
  cases t.nev <;> simp <;> omega
set_option maxHeartbeats 4000000 in
set_option maxRecDepth 100000 in
theorem made_any (a : Nat) (v : Value) (ops : List Opd) (w : World) (hv : OpsRd w v ops) :
    Calls Try.prog 24 #[.int .u64 (a : Int), v] w fun e w' => ∃ g S, e = .returned (.pointer (some ⟨g, 0, none⟩)) ∧ Wh w' g S (min a 281474976710655) (WS.mks ⟨min a 281474976710655, 0, []⟩ ops).sets (WS.mks ⟨min a 281474976710655, 0, []⟩ ops).T ∧ (∀ b, S b → w.heap.size ≤ b) ∧ Below w.heap.size w w' := by
  obtain ⟨ao, cap, rfl, hl, -⟩ := id hv
  have HV := Lib.hid hv
  clear hv
  obtain ⟨n, hn⟩ : ∃ n, n = ops.length := ⟨_, rfl⟩
  rw [← hn] at hl
  have HN := Lib.hid hn
  rw [← hn]
  clear hn
  have hnew := wh_new a w
  obtain ⟨a', ha⟩ : ∃ a', a' = min a 281474976710655 := ⟨_, rfl⟩
  rw [← ha] at hnew ⊢
  have HA := Lib.hid ha
  clear ha
  go_enter Try.func24, Try.ntmps24
  go_wp2_with fail
  refine hnew.mono ?_
  clear hnew
  rintro e w1 ⟨g, S, rfl, h1, hS, hB1⟩
  have H1 : Hid (Wh w1 g S a' (WS.mks ⟨a', 0, []⟩ (ops.take 0)).sets (WS.mks ⟨a', 0, []⟩ (ops.take 0)).T ∧ (∀ b, S b → w.heap.size ≤ b) ∧ Below w.heap.size w w1) := Lib.hid ⟨h1, hS, hB1⟩
  clear h1 hS hB1
  go_wp2_with fail
  go_loopw [7] (fun i wr => ∃ (t : Nat) (S : Nat → Prop), t ≤ n ∧ i = .int .i64 (t : Int) ∧ Hid (Wh wr g S a' (WS.mks ⟨a', 0, []⟩ (ops.take t)).sets (WS.mks ⟨a', 0, []⟩ (ops.take t)).T ∧ (∀ b, S b → w.heap.size ≤ b) ∧ Below w.heap.size w wr)) (fun i _ => n - (intOf i).toNat)
  case atStart => exact ⟨0, S, Nat.zero_le _, rfl, H1⟩
  case round =>
    clear H1
    obtain ⟨t, S, ht, rfl, HG⟩ := hrel
    by_cases hlt : t < n
    · have ix : (t : Int) < (n : Int) := by omega
      obtain ⟨o, ho⟩ : ∃ o, ops[t]? = some o := ⟨_, List.getElem?_eq_getElem (by rw [← HN.out]; exact hlt)⟩
      obtain ⟨bb, off, rfl, hwf, -, e0, e1, e2, e3⟩ := HV.out.at HG.out.2.2 ho rfl
      have hstep : WS.mks ⟨a', 0, []⟩ (ops.take (t + 1)) = (WS.mks ⟨a', 0, []⟩ (ops.take t)).mk1 o := by
        rw [List.take_add_one, ho]
        exact WS.mks_snoc _ _ _
      have hsets : (WS.mks ⟨a', 0, []⟩ (ops.take t)).sets ≤ t := by
        have := WS.mks_sets ⟨a', 0, []⟩ (ops.take t)
        rw [List.length_take] at this
        simp at this
        omega
      have hnow : (WS.mks ⟨a', 0, []⟩ (ops.take t)).now = a' := by
        rw [WS.mks_now]
      obtain ⟨s, hs⟩ : ∃ s, s = WS.mks ⟨a', 0, []⟩ (ops.take t) := ⟨_, rfl⟩
      rw [← hs] at HG hstep hsets hnow
      obtain ⟨on, kind, id, at_⟩ := o
      simp only at e0 e1 e2 e3 hwf
      obtain ⟨sn, ss, sT⟩ := s
      simp only at hnow
      subst hnow
      have HST := Lib.hid hstep
      clear hstep hs ho
      have fin : ∀ (s' : WS) (S' : Nat → Prop) w', WS.mk1 ⟨sn, ss, sT⟩ ⟨on, kind, id, at_⟩ = s' → Wh w' g S' sn s'.sets s'.T → Turn S S' wr w' → Hid (Wh w' g S' sn (WS.mks ⟨sn, 0, []⟩ (ops.take (t + 1))).sets (WS.mks ⟨sn, 0, []⟩ (ops.take (t + 1))).T ∧ (∀ b, S' b → w.heap.size ≤ b) ∧ Below w.heap.size w w') := fun s' S' w' hs hw tt => by
        rw [HST.out, hs]
        have hz := HG.out.2.2.size
        refine Lib.hid ⟨hw, fun b hb => ?_, HG.out.2.2.trans (tt.same.belowB fun i hi => ⟨by omega, fun e => by have := HG.out.2.1 i e; omega⟩)⟩
        rcases tt.foot b hb with h | h
        · exact HG.out.2.1 b h
        · omega
      have FIN := Lib.hid fin
      clear fin
      by_cases k1 : kind = 1
      · subst k1
        go_wp2_with fail
        go_region_law (go_simp; go_at_call 28; (refine (wh_set (HG.out.1.later (w' := wr.drew) (Below.refl _ _).drew) id at_ hwf (by omega)).mono ?_); rintro e w7 ⟨rfl, S7, h7, t7⟩; have HF := FIN.out ⟨sn, ss + 1, setR sT id at_ sn (ss + 1)⟩ S7 w7 rfl h7 ⟨⟨t7.same.os, t7.same.tape, t7.same.output, t7.same.size, t7.same.block⟩, t7.foot⟩; clear h7 t7)
        all_goals
          go_wp2_with fail
          go_roundw
          case rel => exact ⟨t + 1, _, by omega, by go_num, HF⟩
          case measure => simp [intOf]; omega
      · have b1 : (kind == 1) = false := by simpa using k1
        by_cases k2 : kind = 2
        · subst k2
          go_wp2_with fail
          refine (wh_stop HG.out.1 id hwf (by omega)).mono ?_
          rintro e w7 ⟨rfl, S7, h7, t7⟩
          have HF := FIN.out ⟨sn, ss, without sT id⟩ S7 w7 rfl h7 t7
          clear h7 t7
          go_wp2_with fail
          go_roundw
          case rel => exact ⟨t + 1, _, by omega, by go_num, HF⟩
          case measure => simp [intOf]; omega
        · have b2 : (kind == 2) = false := by simpa using k2
          have HF := FIN.out ⟨sn, ss, sT⟩ S wr (by unfold WS.mk1; rw [if_neg k1, if_neg k2]) HG.out.1 (Turn.refl _ _)
          clear k1 k2
          go_wp2_with fail
          go_roundw
          case rel => exact ⟨t + 1, _, by omega, by go_num, HF⟩
          case measure => simp [intOf]; omega
    · obtain rfl : t = n := by omega
      go_wp2_with fail
      go_ret
      have h := HG.out
      rw [HN.out, List.take_length] at h
      exact ⟨g, S, rfl, h⟩
end Go.Proofs.Ytnnkchgkebcblaa
