/- The reference's New, Unseal, Bytes. -/
import Derived.Test.YtghjffgaebnhiaaDoorMRDec2
import Derived.Test.YtghjffgaebnhiaaDoorMRef1
namespace Go.Proofs.YtghjffgaebnhiaaDoor
set_option linter.unusedVariables false
set_option linter.unusedSimpArgs false
open Go.RowKit
set_option maxHeartbeats 1000000 in
set_option maxRecDepth 100000 in
theorem rrnew_any (v : Value) (l : List UInt8) (w : World) (hb : Bs w v l) (hl : l.length ≤ 140737488355328) :
    Calls Tryd.prog 52 #[v] w fun e w' => ∃ (g : Nat) (B : Option Nat), e = .returned (.pointer (some ⟨g, 0, none⟩)) ∧ w.heap.size ≤ g ∧ RRd w' g B l ⟨0, 0⟩ ∧ (∀ b, B = some b → b < g) ∧ Below w.heap.size w w' := by
  obtain ⟨ao, cap, rfl, -⟩ := id hb
  have hml : (l.map ub).length = l.length * 1 := by simp
  have hbd : (0 + l.length) * 1 ≤ 140737488355328 := by omega
  have HML := Lib.hid hml; have HR : Hid (Rd w (.slice ao l.length cap) l.length (l.map ub)) := Lib.hid hb; have HL := Lib.hid hl
  obtain ⟨n, hn⟩ : ∃ n, n = l.length := ⟨_, rfl⟩
  rw [← hn] at HR HML hbd ⊢
  have HN := Lib.hid hn
  clear hml hb hl hn
  go_enter Tryd.func52, Tryd.ntmps52
  go_wp2_with (at_builtin; refine wpList_app El.u8 rfl (.const (.slice none 0 0)) (.tmp 3) rfl (World.ownsRow_nil _ w.heap.size _ _) rfl HR.out rfl HML.out (ub_one l) hbd (Nat.le_refl _) ?_; intro v1 w1 hown1 hgr1 _; go_loud (
    have h1 : w1.ownsRow w.heap.size 5 1 v1 n (l.map ub) := by rw [Nat.zero_add, List.nil_append] at hown1; exact hown1
    have hb1 : Below w.heap.size w w1 := (Below.refl _ _).grown hgr1 (Nat.le_refl _) (fun k hk => by cases hk)
    obtain ⟨a1, c1, rfl, -⟩ := own_open h1
    have H1 := Lib.hid h1
    have HB1 := Lib.hid hb1
    clear h1 hb1 hown1 hgr1))
  go_ret
  have hbs : Bs w1 (.slice a1 n c1) l := by show Rd w1 _ l.length _; rw [← HN.out]; exact Rd.of_own H1.out
  exact ⟨w1.heap.size, (Value.slice a1 n c1).ownBlock, rfl, HB1.out.size, ⟨⟨_, rfl, Blk.new w1 _ _, Rd.alloc hbs _⟩, fun e => by have := (H1.out.lt _ e).2; omega, Nat.zero_le _, HL.out⟩, fun b hb => (H1.out.lt b hb).2, HB1.out.alloc HB1.out.size _⟩
theorem sumB_len4 (c : W32) : (sumB c).length = 4 := rfl
set_option maxHeartbeats 4000000 in
set_option maxRecDepth 100000 in
theorem rrunseal_any (v : Value) (l : List UInt8) (w : World) (hb : Bs w v l) (hl : l.length ≤ 140737488355328) :
    Calls Tryd.prog 51 #[v] w fun e w' => ∃ v', e = .returned (.tuple #[v', .int .i64 ((unsealP l).2 : Int)]) ∧ w'.ownsRow w.heap.size 5 1 v' (unsealP l).1.length ((unsealP l).1.map ub) ∧ Below w.heap.size w w' := by
  obtain ⟨ao, cap, rfl, hcp, hcm, hne⟩ := id hb
  by_cases h4 : l.length < 4
  · have hU : unsealP l = ([], 10) := by rw [unsealP, if_pos h4]
    obtain ⟨N, hN⟩ : ∃ N, N = l.length := ⟨_, rfl⟩
    rw [hU, ← hN]
    have hw : wrap64 ((N : Int) - 4) = (N : Int) - 4 := by unfold wrap64; omega
    have hlt : (N : Int) - 4 < 0 := by omega
    clear hne hb
    go_enter Tryd.func51, Tryd.ntmps51
    go_wp2_with fail
    go_ret2
    exact ⟨_, rfl, World.ownsRow_nil _ _ _ _, Below.refl _ _⟩
  · obtain ⟨b, o, rfl, -⟩ := hne (by intro h; have := congrArg List.length h; simp at this; subst this; simp at h4)
    obtain ⟨k, hk⟩ : ∃ k, l.length = k + 4 := ⟨l.length - 4, by omega⟩
    have hw : wrap64 (((k + 4 : Nat) : Int) - 4) = (k : Int) := by unfold wrap64; omega
    have hw2 : wrap64 (k : Int) = (k : Int) := by unfold wrap64; omega
    have hge : ¬ (k : Int) < 0 := by omega
    have hc1 : (k : Int) ≤ cap := by omega
    have hc2 : (k : Int) ≤ (k : Int) + 4 := by omega
    have hc3 : ((k + 4 : Nat) : Int) ≤ cap := by omega
    have hc4 : ¬ cap = k := by omega
    have hc5 : k + 4 - k = 4 := by omega
    have hT := bs_take hb k (by omega)
    have hD := bs_drop hb k (by omega)
    have HU : Hid (unsealP l = if sumB (crcOf (l.take k)) = l.drop k then (l.take k, 0) else ([], 13)) := Lib.hid (by
      rw [unsealP, if_neg h4, hk]; rfl)
    have HTL : Hid ((l.take k).length = k) := Lib.hid (by rw [List.length_take]; omega)
    rw [hk] at hD ⊢
    rw [hc5] at hD
    have hse := refseal_any _ (l.take k) w.drew (Rd.drew hT) (by rw [List.length_take]; omega)
    have HSE := Lib.hid hse
    have HTK : Hid (Bs w (.slice (some ⟨b, o, none⟩) k cap) (l.take k)) := Lib.hid hT; have HDK := Lib.hid hD
    have hml : ((l.take k).map ub).length = k * 1 := by rw [List.length_map, HTL.out, Nat.mul_one]
    have HML := Lib.hid hml
    have hbd : (0 + k) * 1 ≤ 140737488355328 := by omega
    obtain ⟨sd, hsd⟩ : ∃ sd, sd = str (l.drop k) := ⟨_, rfl⟩
    have HSD := Lib.hid hsd.symm
    clear hb hT hD hk h4 hml hsd
    go_enter Tryd.func51, Tryd.ntmps51
    go_wp2_with fail
    refine region_mix (fun w' => Bs w' (.slice (some ⟨b, o + k, none⟩) 4 (cap - k)) (l.drop k)) (fun i => i == 3 || i == 4) [0, 1, 2, 5, 6, 7, 8, 3, 4, 9] (by kernel_rfl) (by kernel_rfl) (Rd.drew HDK.out) ?_
    repeat (first
      | (refine mix_pure rfl rfl (by kernel_rfl) ?_
         apply Exists.intro
         refine ⟨fun w' hw' => ?_, ?_⟩
         · have cv := run_str8 (W := w') hw' rfl
           rw [HSD.out] at cv
           clear hw'
           go_simp
           with_reducible rfl
         simp only [List.getElem_toArray, List.getElem_cons_zero, List.getElem_cons_succ, Act.put, List.setIfInBounds_toArray, List.set_cons_zero, List.set_cons_succ])
      | fail)
    refine mix_eff rfl rfl (by kernel_rfl) ?_
    unfold effAt
    go_simp
    simp only [effUpon, List.getElem_toArray, List.getElem_cons_zero, List.getElem_cons_succ, Act.put, List.setIfInBounds_toArray, List.set_cons_zero, List.set_cons_succ]
    refine HSE.out.mono ?_
    rintro e w1 ⟨v1, rfl, ho, hB1⟩
    have hB1' : Below w.heap.size w w1 := below_trans (Below.refl w.heap.size w).drew hB1
    rw [sumB_len4] at ho
    have hs1 : Bs w1 v1 (sumB (crcOf (l.take k))) := Rd.of_own (n := 4) ho
    obtain ⟨a1, c1, rfl, -⟩ := own_open ho
    have cv := run_str8 (W := w1) hs1 rfl
    have HD1 := Lib.hid (Rd.later HDK.out hB1'); have HB1 := Lib.hid hB1'; have HT1 := Lib.hid (Rd.later HTK.out hB1')
    have HT1R : Hid (Rd w1 (.slice (some ⟨b, o, none⟩) k cap) k ((l.take k).map ub)) := Lib.hid (by have h : Rd w1 _ (l.take k).length _ := HT1.out; rw [HTL.out] at h; exact h)
    refine ⟨_, rfl, HD1.out, ?_⟩
    clear ho hB1 hB1' hs1 HSE
    by_cases hs : sumB (crcOf (l.take k)) = l.drop k
    · have hU : unsealP l = (l.take k, 0) := by rw [HU.out, if_pos hs]
      have HUU := Lib.hid hU
      rw [hs, HSD.out] at cv
      clear hs hU
      refine mix_eff rfl rfl (by kernel_rfl) ?_
      unfold effAt
      go_simp
      simp only [effUpon, List.getElem_toArray, List.getElem_cons_zero, List.getElem_cons_succ, Act.put, List.setIfInBounds_toArray, List.set_cons_zero, List.set_cons_succ]
      refine ⟨HD1.out, ?_⟩
      clear cv
      repeat (first
        | (refine mix_pure rfl rfl (by kernel_rfl) ?_
           apply Exists.intro
           refine ⟨fun w' hw' => ?_, ?_⟩
           · go_simp
             with_reducible rfl
           simp only [List.getElem_toArray, List.getElem_cons_zero, List.getElem_cons_succ, Act.put, List.setIfInBounds_toArray, List.set_cons_zero, List.set_cons_succ])
        | fail)
      refine mix_nil ?_
      go_wp2_with (at_builtin; refine wpList_app El.u8 rfl (.const (.slice none 0 0)) (.tmp 22) rfl (World.ownsRow_nil _ w1.heap.size _ _) rfl HT1R.out rfl HML.out (ub_one _) hbd (Nat.le_refl _) ?_; intro v2 w2 hown2 hgr2 _; go_loud (
        have h2 : w2.ownsRow w1.heap.size 5 1 v2 k ((l.take k).map ub) := by rw [Nat.zero_add, List.nil_append] at hown2; exact hown2
        have hb2 : Below w.heap.size w w2 := HB1.out.grown hgr2 HB1.out.size (fun q hq => by cases hq)
        have H2 := Lib.hid (own_mono h2 HB1.out.size)
        have HB2 := Lib.hid hb2
        clear h2 hb2 hown2 hgr2))
      go_ret2
      rw [HUU.out]
      refine ⟨_, rfl, ?_, HB2.out⟩
      have h := H2.out
      rw [HTL.out]
      exact h
    · have hU : unsealP l = ([], 13) := by rw [HU.out, if_neg hs]
      have HUU := Lib.hid hU
      have hne2 := str_beq_no hs
      have hne3 : str (sumB (crcOf (l.take k))) ≠ str (l.drop k) := fun h => hs (str_inj h)
      rw [HSD.out] at hne2 hne3
      generalize str (sumB (crcOf (l.take k))) = sc at cv hne2 hne3
      clear hs hU
      refine mix_eff rfl rfl (by kernel_rfl) ?_
      unfold effAt
      go_simp
      simp only [effUpon, List.getElem_toArray, List.getElem_cons_zero, List.getElem_cons_succ, Act.put, List.setIfInBounds_toArray, List.set_cons_zero, List.set_cons_succ]
      refine ⟨HD1.out, ?_⟩
      clear cv
      repeat (first
        | (refine mix_pure rfl rfl (by kernel_rfl) ?_
           apply Exists.intro
           refine ⟨fun w' hw' => ?_, ?_⟩
           · go_simp
             with_reducible rfl
           simp only [List.getElem_toArray, List.getElem_cons_zero, List.getElem_cons_succ, Act.put, List.setIfInBounds_toArray, List.set_cons_zero, List.set_cons_succ])
        | fail)
      refine mix_nil ?_
      go_wp2_with fail
      go_ret2
      rw [HUU.out]
      exact ⟨_, rfl, World.ownsRow_nil _ _ _ _, HB1.out⟩
end Go.Proofs.YtghjffgaebnhiaaDoor
