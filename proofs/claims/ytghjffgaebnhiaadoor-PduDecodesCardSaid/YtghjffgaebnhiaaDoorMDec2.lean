/- octet.Unseal. -/
import Derived.Test.YtghjffgaebnhiaaDoorMDec1
import Derived.Test.YtghjffgaebnhiaaDoorMMix
namespace Go.Proofs.YtghjffgaebnhiaaDoor
set_option linter.unusedVariables false
set_option linter.unusedSimpArgs false
open Go.RowKit
/-- what was sealed; 10: too short, 13: the sum is another. -/
def unsealP (l : List UInt8) : List UInt8 × Nat :=
  if l.length < 4 then ([], 10) else if sumB (crcOf (l.take (l.length - 4))) = l.drop (l.length - 4) then (l.take (l.length - 4), 0) else ([], 13)
theorem bs_take {w : World} {ao : Option Addr} {cap : Nat} {l : List UInt8} (h : Bs w (.slice ao l.length cap) l) (k : Nat) (hk : k ≤ l.length) : Bs w (.slice ao k cap) (l.take k) := by
  obtain ⟨a', c', he, h1, h2, h3⟩ := h
  injection he with e1 e2 e3
  subst e1; subst e3
  refine ⟨_, _, by rw [List.length_take, Nat.min_eq_left hk], by rw [List.length_take]; omega, h2, fun hne => ?_⟩
  obtain ⟨b, o, hb, hc⟩ := h3 (fun h => hne (by rw [List.map_take, h, List.take_nil]))
  refine ⟨b, o, hb, fun j v hj => hc j v ?_⟩
  rw [List.map_take, List.getElem?_take] at hj
  split at hj
  · exact hj
  · cases hj
theorem bs_drop {w : World} {b o cap : Nat} {l : List UInt8} (h : Bs w (.slice (some ⟨b, o, none⟩) l.length cap) l) (k : Nat) (hk : k ≤ l.length) : Bs w (.slice (some ⟨b, o + k, none⟩) (l.length - k) (cap - k)) (l.drop k) := by
  obtain ⟨a', c', he, h1, h2, h3⟩ := h
  injection he with e1 e2 e3
  subst e1; subst e3
  refine ⟨_, _, by rw [List.length_drop], by rw [List.length_drop]; omega, by omega, fun hne => ?_⟩
  obtain ⟨b', o', hb, hc⟩ := h3 (fun h => hne (by rw [List.map_drop, h, List.drop_nil]))
  injection hb with hb
  injection hb with hb1 hb2 hb3
  subst hb1; subst hb2
  refine ⟨_, _, rfl, fun j v hj => ?_⟩
  rw [List.map_drop, List.getElem?_drop] at hj
  rw [Nat.add_assoc]
  exact hc _ v hj
set_option maxHeartbeats 1000000 in
set_option maxRecDepth 100000 in
theorem unseal_any (v : Value) (l : List UInt8) (w : World) (hb : Bs w v l) (ht : Tab w) (hl : l.length ≤ 140737488355328) :
    Calls Tryd.prog 46 #[v] w fun e w' => ∃ v', e = .returned (.tuple #[v', .int .i64 ((unsealP l).2 : Int)]) ∧ w'.ownsRow w.heap.size 5 1 v' (unsealP l).1.length ((unsealP l).1.map ub) ∧ Below w.heap.size w w' := by
  obtain ⟨ao, cap, rfl, hcp, hcm, hne⟩ := id hb
  obtain ⟨N, hN⟩ : ∃ N, N = l.length := ⟨_, rfl⟩
  by_cases h4 : l.length < 4
  · have hU : unsealP l = ([], 10) := by rw [unsealP, if_pos h4]
    rw [hU, ← hN]
    have hw : wrap64 ((N : Int) - 4) = (N : Int) - 4 := by unfold wrap64; omega
    have hlt : (N : Int) - 4 < 0 := by omega
    clear hne hb
    go_enter Tryd.func46, Tryd.ntmps46
    go_wp2_with fail
    go_ret2
    exact ⟨_, rfl, World.ownsRow_nil _ _ _ _, Below.refl _ _⟩
  · obtain ⟨b, o, rfl, -⟩ := hne (by intro h; have := congrArg List.length h; simp at this; subst this; simp at h4)
    obtain ⟨k, hk⟩ : ∃ k, l.length = k + 4 := ⟨l.length - 4, by omega⟩
    have hw : wrap64 (((k + 4 : Nat) : Int) - 4) = (k : Int) := by unfold wrap64; omega
    have hw2 : wrap64 (k : Int) = (k : Int) := by unfold wrap64; omega
    have hge : ¬ (k : Int) < 0 := by omega
    have hc1 : (k : Int) ≤ cap := by omega
    have hc2 : (k : Int) ≤ (k : Int) + 4 := by omega
    have hc3 : ((k + 4 : Nat) : Int) ≤ cap := by omega
    have hc4 : ¬ cap = k := by omega
    have hc5 : k + 4 - k = 4 := by omega
    have hT := bs_take hb k (by omega)
    have hD := bs_drop hb k (by omega)
    have HU : Hid (unsealP l = if sumB (crcOf (l.take k)) = l.drop k then (l.take k, 0) else ([], 13)) := Lib.hid (by
      rw [unsealP, if_neg h4, hk]; rfl)
    have HTL : Hid ((l.take k).length = k) := Lib.hid (by rw [List.length_take]; omega)
    rw [hk] at hD ⊢
    rw [hc5] at hD
    have hse := seal_any _ (l.take k) w.drew (Rd.drew hT) (fun i hi => ht i hi) (by rw [List.length_take]; omega)
    have HSE := Lib.hid hse
    have HB := Lib.hid hb; have HT := Lib.hid ht; have HTK := Lib.hid hT; have HDK := Lib.hid hD
    clear hb ht hT hD hk h4 hN
    go_enter Tryd.func46, Tryd.ntmps46
    go_wp2_with fail
    refine region_mix (fun _ => True) (fun i => i == 3 || i == 9) [0, 1, 2, 4, 6, 7, 8, 3, 5, 9, 10] (by kernel_rfl) (by kernel_rfl) trivial ?_
    repeat (first
      | (refine mix_pure rfl rfl (by kernel_rfl) ?_
         apply Exists.intro
         refine ⟨fun w' hw' => ?_, ?_⟩
         · go_simp
           with_reducible rfl
         simp only [List.getElem_toArray, List.getElem_cons_zero, List.getElem_cons_succ, Act.put, List.setIfInBounds_toArray, List.set_cons_zero, List.set_cons_succ])
      | fail)
    refine mix_eff rfl rfl (by kernel_rfl) ?_
    unfold effAt
    go_simp
    simp only [effUpon, List.getElem_toArray, List.getElem_cons_zero, List.getElem_cons_succ, Act.put, List.setIfInBounds_toArray, List.set_cons_zero, List.set_cons_succ]
    refine HSE.out.mono ?_
    rintro e w1 ⟨v1, rfl, ho, hB1⟩
    refine ⟨v1, rfl, ?_⟩
    have hsl : (l.take k ++ sumB (crcOf (l.take k))).length = k + 4 := by rw [List.length_append, HTL.out]; rfl
    rw [hsl] at ho
    obtain ⟨a1, c1, rfl, hc6, hc7, ha1⟩ := own_open ho
    obtain ⟨b1, rfl⟩ := ha1 (by omega)
    have hS : Bs w1 (.slice (some ⟨b1, 0, none⟩) (l.take k ++ sumB (crcOf (l.take k))).length c1) (l.take k ++ sumB (crcOf (l.take k))) := by
      rw [hsl]
      show Rd _ _ _ _
      rw [hsl]
      exact Rd.of_own ho
    have hS2 := bs_drop hS k (by rw [hsl]; omega)
    rw [hsl, hc5, List.drop_left' HTL.out, Nat.zero_add] at hS2
    have hB1' : Below w.heap.size w w1 := below_trans (Below.refl w.heap.size w).drew hB1
    have hq := equal_any _ _ _ _ w1 hS2 (Rd.later HDK.out hB1')
    have HQ := Lib.hid hq; have HB1 := Lib.hid hB1'; have HT1 := Lib.hid (Rd.later HTK.out hB1')
    have hc8 : ¬ c1 = k := by omega
    have hc9 : ((k + 4 : Nat) : Int) ≤ c1 := by omega
    clear hq hS hS2 ho hB1 hB1' HSE
    refine mix_pure rfl rfl (by kernel_rfl) ?_
    apply Exists.intro
    refine ⟨fun w' hw' => ?_, ?_⟩
    · go_simp
      with_reducible rfl
    simp only [List.getElem_toArray, List.getElem_cons_zero, List.getElem_cons_succ, Act.put, List.setIfInBounds_toArray, List.set_cons_zero, List.set_cons_succ]
    refine mix_eff rfl rfl (by kernel_rfl) ?_
    unfold effAt
    go_simp
    simp only [effUpon, List.getElem_toArray, List.getElem_cons_zero, List.getElem_cons_succ, Act.put, List.setIfInBounds_toArray, List.set_cons_zero, List.set_cons_succ]
    have hclk := fun q => clone_any _ (l.take k) (w1.drewN q) (Rd.drewN HT1.out q) (by rw [List.length_take]; omega)
    have hdN : ∀ q, Below w1.heap.size w1 (w1.drewN q) := fun q => ⟨rfl, (Below.refl w1.heap.size w1).tape, (Below.refl w1.heap.size w1).output, Nat.le_refl _, (Below.refl w1.heap.size w1).block⟩
    have HDN := Lib.hid @hdN
    clear hdN
    have HCLK := Lib.hid hclk
    clear hclk
    by_cases hs : sumB (crcOf (l.take k)) = l.drop k
    · have hU : unsealP l = (l.take k, 0) := by rw [HU.out, if_pos hs]
      have hq2 := HQ.out
      rw [decide_eq_true hs] at hq2
      have HQ2 := Lib.hid hq2
      have HUU := Lib.hid hU
      clear hq2 hU HQ hs
      refine HQ2.out.mono ?_
      rintro e w2 ⟨rfl, q, rfl⟩
      refine ⟨_, rfl, ?_⟩
      refine mix_pure rfl rfl (by kernel_rfl) ?_
      apply Exists.intro
      refine ⟨fun w' hw' => ?_, ?_⟩
      · go_simp
        with_reducible rfl
      refine mix_nil ?_
      simp only [List.getElem_toArray, List.getElem_cons_zero, List.getElem_cons_succ, Act.put, List.setIfInBounds_toArray, List.set_cons_zero, List.set_cons_succ]
      go_wp2_with fail
      refine (HCLK.out q).mono ?_
      rintro e w3 ⟨v3, rfl, ho3, hB3⟩
      have HO3 := Lib.hid ho3
      have HB3 := Lib.hid (below_trans HB1.out (below_trans (HDN.out q) hB3))
      clear ho3 hB3
      go_wp2_with fail
      go_ret2
      rw [HUU.out]
      exact ⟨_, rfl, own_mono HO3.out HB1.out.size, HB3.out⟩
    · have hU : unsealP l = ([], 13) := by rw [HU.out, if_neg hs]
      have hq2 := HQ.out
      rw [decide_eq_false hs] at hq2
      have HQ2 := Lib.hid hq2
      have HUU := Lib.hid hU
      clear hq2 hU HQ hs
      refine HQ2.out.mono ?_
      rintro e w2 ⟨rfl, q, rfl⟩
      refine ⟨_, rfl, ?_⟩
      refine mix_pure rfl rfl (by kernel_rfl) ?_
      apply Exists.intro
      refine ⟨fun w' hw' => ?_, ?_⟩
      · go_simp
        with_reducible rfl
      refine mix_nil ?_
      simp only [List.getElem_toArray, List.getElem_cons_zero, List.getElem_cons_succ, Act.put, List.setIfInBounds_toArray, List.set_cons_zero, List.set_cons_succ]
      go_wp2_with fail
      go_ret2
      rw [HUU.out]
      exact ⟨_, rfl, World.ownsRow_nil _ _ _ _, below_trans HB1.out (HDN.out q)⟩
end Go.Proofs.YtghjffgaebnhiaaDoor
