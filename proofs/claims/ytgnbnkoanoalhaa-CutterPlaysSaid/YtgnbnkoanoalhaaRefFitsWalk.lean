/- The reference's Fits, walked. -/
import Derived.Test.YtgnbnkoanoalhaaRefFits
import Derived.BigQuiet
import Derived.Deep.QuietTactic
namespace Go.Proofs.Ytgnbnkoanoalhaa
set_option linter.unusedVariables false
set_option linter.unusedSimpArgs false
open Go.RowKit
set_option maxHeartbeats 1000000 in
set_option maxRecDepth 100000 in
theorem refFits_any (v : Value) (ls : List (List UInt8)) (w : World) (h : Bss w v ls) (hl0 : 1 ≤ ls.length) (hl : ls.length ≤ 64) (hm : ∀ p ∈ ls, p.length ≤ 1024) :
    Calls Try.prog 43 #[v] w fun e w' => e = .returned (.bool (evenOf ls && roomOf ls)) ∧ ∃ q, w' = w.drewN q := by
  have hlen := refLen_any v ls w h (by omega)
  have hle := lenOf_le hm
  obtain ⟨vs, hvl, ⟨ao, cap, rfl, _, _, hr⟩, hin⟩ := h
  obtain ⟨b, off, rfl, hc⟩ := hr (by intro h; rw [h] at hvl; simp at hvl; omega)
  obtain ⟨x, hx⟩ : ∃ x, vs[ls.length - 1]? = some x := ⟨_, List.getElem?_eq_getElem (by omega)⟩
  have e1 := hc _ x hx
  have b1 := hin _ x _ hx (List.getElem?_eq_getElem (by omega))
  obtain ⟨M, hM⟩ : ∃ M, ls.length = M + 1 := ⟨ls.length - 1, by omega⟩
  have hlast : lastOf ls = (ls[ls.length - 1]'(by omega)).length := by
    unfold lastOf
    rw [List.getD_eq_getElem?_getD, List.getElem?_eq_getElem (by omega)]; rfl
  obtain ⟨z, hz⟩ : ∃ z, z = ls[ls.length - 1]'(by omega) := ⟨_, rfl⟩
  rw [← hz] at b1 hlast
  have hz1 : z.length ≤ 1024 := hz ▸ hm _ (List.getElem_mem _)
  obtain ⟨xp, xc, rfl, -⟩ := id b1
  obtain ⟨A, hA⟩ : ∃ A, A = lenOf ls := ⟨_, rfl⟩
  rw [hM] at hlen e1 ⊢
  rw [← hA] at hlen hle
  rw [Nat.add_sub_cancel] at e1
  have hM64 : M + 1 ≤ 64 := by omega
  have HM := Lib.hid hM; have HA := Lib.hid hA; have HL := Lib.hid hlast; have HC := Lib.hid hc; have HIN := Lib.hid hin; have HMM := Lib.hid hm; have HVL := Lib.hid hvl
  clear hM hA hlast hc hin hm hz hr hx b1 hl hl0 hvl
  go_enter Try.func43, Try.ntmps43
  go_wp2_with fail
  refine hlen.mono ?_
  rintro e _ ⟨rfl, rfl⟩
  have ix : (M : Int) < (M : Int) + 1 := by omega
  go_wp2_with fail
  go_loopw [5] (fun i wr => ∃ k : Nat, k ≤ M ∧ i = .int .i64 k ∧ Hid (∀ j, j < k → (ls.getD j []).length = 0 ∨ (ls.getD j []).length = A) ∧ ∃ q, wr = w.drewN q) (fun i _ => M - (intOf i).toNat)
  case atStart => exact ⟨0, Nat.zero_le _, rfl, Lib.hid fun j hj => absurd hj (Nat.not_lt_zero _), 0, rfl⟩
  case round =>
    obtain ⟨k, hk, rfl, h0, q, rfl⟩ := hrel
    by_cases hlt : k < M
    · obtain ⟨x, hx⟩ : ∃ x, vs[k]? = some x := ⟨vs[k]'(by rw [HVL.out, HM.out]; omega), List.getElem?_eq_getElem _⟩
      have e3 := HC.out k x hx
      have hkl : k < ls.length := by rw [HM.out]; omega
      have b3 := HIN.out k x _ hx (List.getElem?_eq_getElem hkl)
      obtain ⟨p, hp⟩ : ∃ p, p = ls[k] := ⟨_, rfl⟩
      rw [← hp] at b3
      have hpd : ls.getD k [] = p := by rw [List.getD_eq_getElem?_getD, List.getElem?_eq_getElem hkl, hp]; rfl
      obtain ⟨yp, yc, rfl, -⟩ := id b3
      have ix2 : (k : Int) < (M : Int) + 1 := by omega
      have HPD := Lib.hid hpd
      clear hp hx hpd b3
      by_cases hpz : 0 < p.length
      · by_cases hpa : p.length = A
        · have t1 : ((p.length : Int) == A) = true := by rw [beq_iff_eq]; omega
          go_wp2_with fail
          go_roundw
          case rel => exact ⟨k + 1, by omega, by go_num, Lib.hid fun j hj => by
            by_cases e : j = k
            · subst e; rw [HPD.out]; exact .inr hpa
            · exact h0.out j (by omega), _, rfl⟩
          case measure => simp [intOf]; omega
        · have t1 : ((p.length : Int) == A) = false := by rw [beq_eq_false_iff_ne]; omega
          go_wp2_with fail
          go_ret
          exact ⟨by rw [evenOf_no (k := k) (by rw [HM.out]; omega) (by rw [HPD.out]; exact hpz) (by rw [HPD.out, ← HA.out]; exact hpa)]; rfl, _, rfl⟩
      · go_wp2_with fail
        go_roundw
        case rel => exact ⟨k + 1, by omega, by go_num, Lib.hid fun j hj => by
          by_cases e : j = k
          · subst e; rw [HPD.out]; exact .inl (by omega)
          · exact h0.out j (by omega), _, rfl⟩
        case measure => simp [intOf]; omega
    · obtain rfl : k = M := by omega
      have HE := Lib.hid (evenOf_yes (ls := ls) fun j hj => by rw [← HA.out]; exact h0.out j (by rw [HM.out] at hj; omega))
      have HR := Lib.hid (show roomOf ls = if A = 0 then decide ((k + 1) * z.length ≤ 1024) else decide (z.length ≤ A) && decide (k * A + max 1 z.length ≤ 1024) by unfold roomOf; rw [← HA.out, HL.out, HM.out, Nat.add_sub_cancel])
      have hmA : k * A ≤ 63 * 1024 := Nat.mul_le_mul (by omega) hle
      have hmz : (k + 1) * z.length ≤ 64 * 1024 := Nat.mul_le_mul (by omega) hz1
      have hPA : (k : Int) * A = ((k * A : Nat) : Int) := (Int.natCast_mul k A).symm
      have hPz : ((k : Int) + 1) * z.length = (((k + 1) * z.length : Nat) : Int) := by rw [Int.natCast_mul]; rfl
      have hw : wrap64 (((k : Int) + 1) * z.length) = ((k : Int) + 1) * z.length := by rw [hPz]; simp only [wrap64]; omega
      have HPA := Lib.hid hPA; have HPZ := Lib.hid hPz; clear hPA hPz
      by_cases hA0 : A = 0
      · rw [if_pos hA0] at HR
        subst hA0
        go_wp2_with fail
        go_ret
        refine ⟨?_, _, rfl⟩
        rw [HE.out, HR.out, Bool.true_and]
        exact congrArg (fun b => Ending.returned (.bool b)) (decide_eq_decide.2 (by rw [HPZ.out]; omega))
      · have tA : ((A : Int) == 0) = false := by rw [beq_eq_false_iff_ne]; omega
        rw [if_neg hA0] at HR
        by_cases hzA : z.length ≤ A
        · by_cases hz0 : z.length = 0
          · go_wp2_with fail
            all_goals
              go_ret
              refine ⟨?_, _, rfl⟩
              rw [HE.out, HR.out, Bool.true_and, decide_eq_true hzA, Bool.true_and]
              exact congrArg (fun b => Ending.returned (.bool b)) (decide_eq_decide.2 (by rw [HPA.out]; omega))
          · go_wp2_with fail
            all_goals
              go_ret
              refine ⟨?_, _, rfl⟩
              rw [HE.out, HR.out, Bool.true_and, decide_eq_true hzA, Bool.true_and]
              exact congrArg (fun b => Ending.returned (.bool b)) (decide_eq_decide.2 (by rw [HPA.out]; omega))
        · go_wp2_with fail
          all_goals
            go_ret
            refine ⟨?_, _, rfl⟩
            rw [HE.out, HR.out, Bool.true_and, decide_eq_false hzA, Bool.false_and]
            rfl
end Go.Proofs.Ytgnbnkoanoalhaa
