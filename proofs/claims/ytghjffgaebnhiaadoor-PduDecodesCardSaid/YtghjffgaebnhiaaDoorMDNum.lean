/- octet.Number: the number at the front. -/
import Derived.Test.YtghjffgaebnhiaaDoorMElR
import Derived.Test.YtghjffgaebnhiaaDoorMCrc
import Derived.WalkMore
import Derived.ScopeJumps
namespace Go.Proofs.YtghjffgaebnhiaaDoor
set_option linter.unusedVariables false
set_option linter.unusedSimpArgs false
open Go.RowKit
set_option maxHeartbeats 1000000 in
set_option maxRecDepth 100000 in
theorem lowFn_any (x : Nat) (w : World) :
    Calls Tryd.prog 112 #[.int .u8 (x : Int)] w fun e w' => e = .returned (.bool (decide (x < 128))) ∧ w' = w := by
  by_cases h : x < 128
  · have h1 : (x : Int) < 128 := by omega
    rw [decide_eq_true h]
    go_enter Tryd.func112, Tryd.ntmps112
    go_wp2_with fail
    go_ret
    exact ⟨rfl, rfl⟩
  · have h1 : ¬ (x : Int) < 128 := by omega
    rw [decide_eq_false h]
    go_enter Tryd.func112, Tryd.ntmps112
    go_wp2_with fail
    go_ret
    exact ⟨rfl, rfl⟩
set_option maxHeartbeats 2000000 in
set_option maxRecDepth 100000 in
theorem lowIdx_yes (v : Value) (l : List UInt8) (w : World) (h : Bs w v l) (q : Nat) (hq : q < l.length) (hx : l[q].toNat < 128) :
    Calls Tryd.prog 118 #[v, .func (Fn.func 112) #[] #[]] w fun e w' => ∃ k : Nat, e = .returned (.int .i64 (k : Int)) ∧ w' = w := by
  obtain ⟨ao, cap, rfl, hm1, hm2, hc⟩ := id h
  obtain ⟨b, off, rfl, hcc⟩ := hc (fun h => by have h1 := congrArg List.length h; rw [List.length_map, List.length_nil] at h1; omega)
  obtain ⟨n, hn⟩ : ∃ n, n = l.length := ⟨_, rfl⟩
  have hn63 : n ≤ 9223372036854775807 := by have h5 : maxLen = 9223372036854775807 := by decide
                                            omega
  clear hm1 hm2
  rw [← hn]
  have HN := Lib.hid hn; have HC := Lib.hid hcc; have HX := Lib.hid hx
  have hqn : q < n := by omega
  clear hn hcc hc h
  go_enter Tryd.func118, Tryd.ntmps118
  go_wp2
  go_loopw [8] (fun i wr => ∃ (k : Nat), k ≤ q ∧ i = .int .i64 k ∧ wr = w) (fun i _ => n - (intOf i).toNat)
  case atStart => exact ⟨0, Nat.zero_le _, rfl, rfl⟩
  case round =>
    obtain ⟨k, hk, rfl, rfl⟩ := hrel
    have hlt : k < n := by omega
    have ix : (k : Int) < (n : Int) := by omega
    have hlk : k < l.length := by rw [← HN.out]; exact hlt
    have e0 := HC.out k (.int .u8 (l[k].toNat : Int)) (by rw [List.getElem?_map, List.getElem?_eq_getElem hlk]; rfl)
    obtain ⟨X, hX⟩ : ∃ X, X = l[k].toNat := ⟨_, rfl⟩
    rw [← hX] at e0
    have HXX := Lib.hid hX
    clear hX
    have hf := lowFn_any X wr
    by_cases hxx : X < 128
    · rw [decide_eq_true hxx] at hf
      have HF := Lib.hid hf
      clear hf
      go_wp2_with fail
      refine HF.out.mono ?_
      rintro e w5 ⟨rfl, rfl⟩
      go_wp2_with fail
      go_ret
      exact ⟨k, rfl, rfl⟩
    · rw [decide_eq_false hxx] at hf
      have HF := Lib.hid hf
      clear hf
      have hkq : k < q := by
        rcases Nat.lt_or_ge k q with h | h
        · exact h
        · obtain rfl : k = q := by omega
          exact absurd (HXX.out ▸ HX.out) hxx
      go_wp2_with fail
      refine HF.out.mono ?_
      rintro e w5 ⟨rfl, rfl⟩
      go_wp2_with fail
      go_roundw
      case rel => exact ⟨k + 1, by omega, by go_num, trivial⟩
      case measure => simp [intOf]; omega
set_option maxHeartbeats 1000000 in
set_option maxRecDepth 100000 in
theorem lowIn_yes (v : Value) (l : List UInt8) (w : World) (h : Bs w v l) (q : Nat) (hq : q < l.length) (hx : l[q].toNat < 128) :
    Calls Tryd.prog 111 #[v, .func (Fn.func 112) #[] #[]] w fun e w' => e = .returned (.bool true) ∧ w' = w := by
  have hi := Lib.hid (lowIdx_yes v l w h q hq hx)
  obtain ⟨ao, cap, rfl, -⟩ := id h
  clear h
  go_enter Tryd.func111, Tryd.ntmps111
  go_wp2_with fail
  refine hi.out.mono ?_
  rintro e w1 ⟨k, rfl, rfl⟩
  have hk : (0 : Int) ≤ (k : Int) := by omega
  go_wp2_with fail
  go_ret
  exact ⟨rfl, rfl⟩
theorem jump_ret {l : Nat} {J : Act → World → Prop} {Q : Exit → Act → World → Prop} {a : Act} {w : World} (h : Q .ret a w) : Exit.jump l J Q .ret a w := h
theorem jump_goto {l : Nat} {J : Act → World → Prop} {Q : Exit → Act → World → Prop} {a : Act} {w : World} (h : J a w) : Exit.jump l J Q (.goto l) a w := ⟨rfl, h⟩
theorem ret_then {K : Act → World → Prop} {Q : Exit → Act → World → Prop} {a : Act} {w : World} (h : Q .ret a w) : Exit.then K Q .ret a w := h
theorem ret_inBlock {n : Nat} {Q : Exit → Act → World → Prop} {a : Act} {w : World} (h : Q .ret a w) : Exit.inBlock n Q .ret a w := h
theorem goto_then {K : Act → World → Prop} {Q : Exit → Act → World → Prop} {l : Nat} {a : Act} {w : World} (h : Q (.goto l) a w) : Exit.then K Q (.goto l) a w := h
theorem goto_inBlock {n : Nat} {Q : Exit → Act → World → Prop} {l : Nat} {a : Act} {w : World} (h : Q (.goto l) a w) : Exit.inBlock n Q (.goto l) a w := h
def Low (l : List UInt8) : Prop := ∃ (q : Nat) (h : q < l.length), l[q].toNat < 128
def numVal (l : List UInt8) : Value := .tuple #[.int .u64 ((numP l).1 : Int), .int .i64 ((numP l).2.1 : Int), .int .i64 ((numP l).2.2 : Int)]
theorem and127b (m : Nat) (h : m < 256) : bits .and .u8 (m : Int) 127 = ((m % 128 : Nat) : Int) := by rw [← nat_mask7]; exact u8_and_nat m 127 h (by decide)
theorem or7 (n q : Nat) (hn : n < 2 ^ 57) (h : q < 128) : bits .or .u64 ((n * 128 : Nat) : Int) (q : Int) = ((n * 128 + q : Nat) : Int) := by
  have h1 := u64_or_nat (n * 128) q (by omega) (by omega)
  rw [nat_join 7 (n * 128) q (by omega) h] at h1
  exact h1
theorem numP_12 {l : List UInt8} {k n : Nat} (h : numR 0 0 l = numR k n (l.drop k)) (h2 : (numR k n (l.drop k)) = (0, 0, 12)) : numP l = (0, 0, 12) := by
  rw [numP, h, h2]
  simp
set_option maxHeartbeats 4000000 in
set_option maxRecDepth 100000 in
theorem number_any (v : Value) (l : List UInt8) (w : World) (h : Bs w v l) :
    Calls Tryd.prog 99 #[v] w fun e w' => e = .returned (numVal l) ∧ w' = w := by
  obtain ⟨ao, cap, rfl, hm1, hm2, hc⟩ := id h
  obtain ⟨n, hn⟩ : ∃ n, n = l.length := ⟨_, rfl⟩
  obtain ⟨R, hR⟩ : ∃ R, R = numVal l := ⟨_, rfl⟩
  have hn63 : n ≤ 9223372036854775807 := by have h5 : maxLen = 9223372036854775807 := by decide
                                            omega
  clear hm1 hm2
  have hlow := fun (hx : Low l) => lowIn_yes _ l w h hx.choose hx.choose_spec.choose hx.choose_spec.choose_spec
  rw [← hn] at hlow ⊢
  rw [← hR]
  have HLOW := Lib.hid hlow
  have HN := Lib.hid hn; have HC := Lib.hid hc; have HR := Lib.hid hR
  clear hn hc h hlow hR
  go_enter Tryd.func99, Tryd.ntmps99
  go_wp2
  refine wp_scope_jumps 0 (fun a' w' => w' = w ∧ R = .tuple #[.int .u64 0, .int .i64 0, .int .i64 12] ∧ (n < 10 → Low l) ∧ ∃ u1 u2 u3 u4 u5 u6 u7 u8 u9 u10 u11 u12 u13 u14 u15 u16 u17 u18 u19 u20 u21 u22 u23 u24 u25 u26 u27 u28 u29 u30 u31 u32 u33 u34 u35 u36 u37 u38 u39 u40 u41 u42 u43 u44 u45 u46 u47 u48 u49 u50 u51 u52 : Value, a' = { tmps := #[.slice ao n cap, u1, u2, u3, u4, u5, u6, u7, u8, u9, u10, u11, u12, u13, u14, u15, u16, u17, u18, u19, u20, u21, u22, u23, u24, u25, u26, u27, u28, u29, u30, u31, u32, u33, u34, u35, u36, u37, u38, u39, u40, u41, u42, u43, u44, u45, u46, u47, u48, u49, u50, u51, u52], defers := [] }) (fun _ _ => 0) rfl ?_ ?_
  rotate_left
  · rintro a' w' ⟨rfl, hR2, hlow, u1, u2, u3, u4, u5, u6, u7, u8, u9, u10, u11, u12, u13, u14, u15, u16, u17, u18, u19, u20, u21, u22, u23, u24, u25, u26, u27, u28, u29, u30, u31, u32, u33, u34, u35, u36, u37, u38, u39, u40, u41, u42, u43, u44, u45, u46, u47, u48, u49, u50, u51, u52, rfl⟩
    have HRR := Lib.hid hR2
    clear hR2
    by_cases hn10 : n < 10
    · have n1 : (n : Int) < 10 := by omega
      have HL := Lib.hid (HLOW.out (hlow hn10))
      clear hlow
      go_wp2_with fail
      refine HL.out.mono ?_
      rintro e w5 ⟨rfl, rfl⟩
      go_wp2_with fail
      refine jump_ret ?_
      go_ret3
      rw [HRR.out]
      exact ⟨rfl, rfl⟩
    · have n1 : ¬ (n : Int) < 10 := by omega
      clear hlow
      go_wp2_with fail
      refine jump_ret ?_
      go_ret3
      rw [HRR.out]
      exact ⟨rfl, rfl⟩
  go_wp2
  go_loopw [5, 6, 7, 10] (fun nv _ _ iv wr => ∃ (k m : Nat), k ≤ n ∧ k ≤ 10 ∧ iv = .int .i64 (k : Int) ∧ nv = .int .u64 (m : Int) ∧ m < 18446744073709551616 ∧ Hid (m < 128 ^ k) ∧ Hid (numR 0 0 l = numR k m (l.drop k)) ∧ wr = w) (fun _ _ _ iv _ => n - (intOf iv).toNat)
  case atStart => exact ⟨0, 0, Nat.zero_le _, by omega, rfl, rfl, by decide, Lib.hid (by decide), Lib.hid rfl, rfl⟩
  case round =>
    obtain ⟨k, m, hk, hk10, rfl, rfl, hm64, HM, HE, rfl⟩ := hrel
    by_cases hlt : k < n
    · have ix : (k : Int) < (n : Int) := by omega
      have hlk : k < l.length := by rw [← HN.out]; exact hlt
      obtain ⟨b, off, rfl, hcc⟩ := HC.out (fun h => by have h1 := congrArg List.length h; rw [List.length_map, List.length_nil, ← HN.out] at h1; omega)
      have e0 := hcc k (.int .u8 (l[k].toNat : Int)) (by rw [List.getElem?_map, List.getElem?_eq_getElem hlk]; rfl)
      have ez := hcc 0 (.int .u8 (l[0].toNat : Int)) (by rw [List.getElem?_map, List.getElem?_eq_getElem (by omega)]; rfl)
      have hdrop : l.drop k = l[k] :: l.drop (k + 1) := List.drop_eq_getElem_cons hlk
      obtain ⟨X, hX⟩ : ∃ X, X = l[k].toNat := ⟨_, rfl⟩
      obtain ⟨Z, hZ⟩ : ∃ Z, Z = l[0].toNat := ⟨_, rfl⟩
      rw [← hX] at e0
      rw [← hZ, Nat.add_zero] at ez
      have hX8 : X < 256 := by rw [hX]; exact UInt8.toNat_lt _
      have HXX := Lib.hid hX; have HZZ := Lib.hid hZ; have HD := Lib.hid hdrop
      clear hX hZ hdrop hcc
      by_cases hbad : k = 10 ∨ 2 ^ 57 ≤ m
      · have h12 : numP l = (0, 0, 12) := numP_12 HE.out (by rw [HD.out, numR, if_pos hbad])
        have hR : R = .tuple #[.int .u64 0, .int .i64 0, .int .i64 12] := by rw [HR.out, numVal, h12]; rfl
        have h10 : ¬ (n : Int) < 10 := by
          have := HM.out
          rcases hbad with h | h
          · omega
          · have hk9 : 9 ≤ k := by
              rcases Nat.lt_or_ge k 9 with h9 | h9
              · have : (128 : Nat) ^ k ≤ 128 ^ 8 := Nat.pow_le_pow_right (by decide) (by omega)
                exact absurd h (by omega)
              · exact h9
            omega
        have HRR := Lib.hid hR
        clear ez
        by_cases h1 : k = 10
        · subst h1
          go_wp2_with fail
          go_step3
          (try simp only [Exit.inBlock, Exit.then])
          refine goto_then (goto_inBlock (goto_then (jump_goto ?_)))
          exact ⟨rfl, HRR.out, fun h => absurd h (by omega), _, _, _, _, _, _, _, _, _, _, _, _, _, _, _, _, _, _, _, _, _, _, _, _, _, _, _, _, _, _, _, _, _, _, _, _, _, _, _, _, _, _, _, _, _, _, _, _, _, _, _, _, rfl⟩
        · have hm57 : 2 ^ 57 ≤ m := hbad.resolve_left h1
          have hk0 : 0 < k := by
            have := HM.out
            rcases Nat.eq_zero_or_pos k with h | h
            · subst h; exact absurd this (by omega)
            · exact h
          have k1 : ((k : Int) == 10) = false := by simp; omega
          have k2 : ((0 : Int) < (k : Int)) := by omega
          have k3 : (((m : Int) / 144115188075855872) != 0) = true := by simp; omega
          have k4 : ¬ (k : Int) = 10 := by omega
          have k5 : ¬ (m : Int) / 144115188075855872 = 0 := by omega
          go_wp2_with fail
          go_step3
          (try simp only [Exit.inBlock, Exit.then])
          refine goto_then (goto_inBlock (goto_then (jump_goto ?_)))
          exact ⟨rfl, HRR.out, fun h => absurd h (by omega), _, _, _, _, _, _, _, _, _, _, _, _, _, _, _, _, _, _, _, _, _, _, _, _, _, _, _, _, _, _, _, _, _, _, _, _, _, _, _, _, _, _, _, _, _, _, _, _, _, _, _, _, rfl⟩
      · have hk9 : k ≠ 10 := fun h => hbad (.inl h)
        have hm57 : m < 144115188075855872 := by
          rcases Nat.lt_or_ge m 144115188075855872 with h | h
          · exact h
          · exact absurd (.inr h) hbad
        have k1 : ((k : Int) == 10) = false := by simp; omega
        have k3 : (((m : Int) / 144115188075855872) != 0) = false := by simp; omega
        have k4 : ¬ (k : Int) = 10 := by omega
        have k5 : (m : Int) / 144115188075855872 = 0 := by omega
        obtain ⟨q, hq⟩ : ∃ q, q = X % 128 := ⟨_, rfl⟩
        have b1 : bits .and .u8 (X : Int) 127 = (q : Int) := by rw [hq]; exact and127b X hX8
        have q1 : q < 128 := by omega
        have q2 : (q : Int) % 18446744073709551616 = (q : Int) := by omega
        obtain ⟨M, hM⟩ : ∃ M, M = m * 128 + q := ⟨_, rfl⟩
        have s1 : (m : Int) * 128 % 18446744073709551616 = (m : Int) * 128 := by omega
        have b2 : bits .or .u64 ((m : Int) * 128) (q : Int) = (M : Int) := by
          have h := or7 m q hm57 q1
          rw [Int.natCast_mul] at h
          rw [hM]
          exact h
        have hstep : numR k m (l.drop k) = if X < 128 then (m * 128 + X, k + 1, 0) else numR (k + 1) (m * 128 + (X - 128)) (l.drop (k + 1)) := by
          rw [HD.out, numR, if_neg hbad, HXX.out]
        by_cases hx : X < 128
        · have hx1 : (X : Int) < 128 := by omega
          rw [if_pos hx] at hstep
          have hMX : M = m * 128 + X := by omega
          have hlow : Low l := ⟨k, hlk, by rw [← HXX.out]; exact hx⟩
          have HL := Lib.hid (HLOW.out hlow)
          have hhead : (l.head? = some 128) ↔ Z = 128 := by
            rw [List.head?_eq_getElem?, List.getElem?_eq_getElem (by omega), HZZ.out]
            constructor
            · intro h; injection h with h; rw [h]; rfl
            · intro h; exact congrArg some (UInt8.toNat_inj.1 h)
          by_cases hz : Z = 128
          · have h12 : numP l = (0, 0, 12) := by rw [numP, if_pos ⟨by rw [HE.out, hstep], hhead.2 hz⟩]
            have HRR : Hid (R = .tuple #[.int .u64 0, .int .i64 0, .int .i64 12]) := Lib.hid (by rw [HR.out, numVal, h12]; rfl)
            have ez2 : wr.cell? ⟨b, off, none⟩ = some (.int .u8 128) := by rw [ez, hz]; rfl
            clear hstep hhead hq hM hMX ez hz
            go_wp2_with fail
            all_goals (
              go_step3
              (try simp only [Exit.inBlock, Exit.then])
              refine goto_then (goto_inBlock (goto_then (jump_goto ?_)))
              exact ⟨rfl, HRR.out, fun _ => hlow, _, _, _, _, _, _, _, _, _, _, _, _, _, _, _, _, _, _, _, _, _, _, _, _, _, _, _, _, _, _, _, _, _, _, _, _, _, _, _, _, _, _, _, _, _, _, _, _, _, _, _, _, rfl⟩)
          · have hok : numP l = (M, k + 1, 0) := by rw [numP, if_neg (fun h => hz (hhead.1 h.2)), HE.out, hstep, hMX]
            have HRR : Hid (R = .tuple #[.int .u64 (M : Int), .int .i64 ((k + 1 : Nat) : Int), .int .i64 0]) := Lib.hid (by rw [HR.out, numVal, hok]; rfl)
            have z1 : ((Z : Int) == 128) = false := by simp; omega
            clear hstep hhead hq hM hMX
            go_wp2_with fail
            all_goals (
              refine ret_then (K := fun _ _ => True) ?_
              go_ret3
              rw [HRR.out]
              exact ⟨rfl, rfl⟩)
        · have hx1 : ¬ (X : Int) < 128 := by omega
          rw [if_neg hx] at hstep
          have hMX : M = m * 128 + (X - 128) := by omega
          have HE2 : Hid (numR 0 0 l = numR (k + 1) M (l.drop (k + 1))) := Lib.hid (by rw [HE.out, hstep, hMX])
          have HM2 : Hid (M < 128 ^ (k + 1)) := Lib.hid (by have := HM.out; rw [Nat.pow_succ]; omega)
          have hM64 : M < 18446744073709551616 := by omega
          have hk1 : k + 1 ≤ 10 := by omega
          clear hstep hq hM hMX ez
          go_wp2_with fail
          all_goals (
            go_roundw
            case rel => exact ⟨k + 1, M, by omega, hk1, by go_num, rfl, hM64, HM2, HE2, trivial⟩
            case measure => simp [intOf]; omega)
    · obtain rfl : k = n := by omega
      have hR : R = .tuple #[.int .u64 0, .int .i64 0, .int .i64 (if k < 10 then 10 else 12)] := by
        have h0 : numR 0 0 l = (0, 0, if k < 10 then 10 else 12) := by rw [HE.out, HN.out, List.drop_length, numR]
        have h1 : numP l = (0, 0, if k < 10 then 10 else 12) := by
          rw [numP, h0, if_neg]
          intro h
          have := h.1
          simp only at this
          split at this <;> omega
        rw [HR.out, numVal, h1]
        split <;> rfl
      by_cases hk9 : k < 10
      · rw [if_pos hk9] at hR
        have HRR := Lib.hid hR
        clear hR
        have n1 : (k : Int) < 10 := by omega
        go_wp2_with fail
        refine jump_ret ?_
        go_ret3
        rw [HRR.out]
        exact ⟨rfl, rfl⟩
      · rw [if_neg hk9] at hR
        have HRR := Lib.hid hR
        clear hR
        have n1 : ¬ (k : Int) < 10 := by omega
        go_wp2_with fail
        go_step3
        go_wp2_with fail
        refine jump_ret ?_
        go_ret3
        rw [HRR.out]
        exact ⟨rfl, rfl⟩
end Go.Proofs.YtghjffgaebnhiaaDoor
